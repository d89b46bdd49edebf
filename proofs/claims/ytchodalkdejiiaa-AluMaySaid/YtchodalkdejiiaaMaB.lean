/-
  A table's rows as small memories: what shape.Check is handed.
-/
import Derived.Test.YtchodalkdejiiaaMaA
namespace Go.Proofs.Ytchodalkdejiiaa.Ma
open Go Go.RowKit Go.Proofs.Ytchodalkdejiiaa.Sy Go.Proofs.Ytchodalkdejiiaa.Wa Go.Proofs.Ytchodalkdejiiaa.Tab

/-- A row's two slices are not one block. -/
noncomputable def szOb : Option Ob → Bool
  | some o => Nat.beq o.sz 1
  | none => false
noncomputable def posAt (m : Mem) : At → Bool
  | .sl i n => Nat.blt 0 n && szOb (m.H.get i)
  | _ => true
noncomputable def difAt : At → At → Bool
  | .sl i _, .sl j _ => !(Nat.beq i j)
  | _, _ => true
noncomputable def sepAt (m : Mem) (a b : At) : Bool := posAt m a && posAt m b && difAt a b
noncomputable def sepRow (m : Mem) : List At → Bool
  | _ :: a :: b :: _ => sepAt m a b
  | _ => true
noncomputable def sepRows (m : Mem) : Nat → List At → Bool
  | 0, _ => true
  | n + 1, cs => sepRow m (takeR cs 10) && sepRows m n (dropR cs 10)
noncomputable def sepOb (m : Mem) (n : Nat) : Option Ob → Bool
  | some o => sepRows m n o.cs
  | none => true
noncomputable def sepOf : Option (SV × Mem) → Bool
  | some (.one (.sl id n), m) => sepOb m n (m.H.get id)
  | _ => false

theorem sepRows_at {m : Mem} : ∀ {n : Nat} {cs : List At}, sepRows m n cs = true → ∀ (j : Nat) (a b : At), j < n → cs[j * 10 + 1]? = some a → cs[j * 10 + 2]? = some b → sepAt m a b = true
  | 0, _, _, j, _, _, hj, _, _ => absurd hj (by omega)
  | n + 1, cs, h, j, a, b, hj, h1, h2 => by
    simp only [sepRows, takeR_eq, dropR_eq, Bool.and_eq_true] at h
    cases j with
    | zero =>
      have h3 := h.1
      match cs, h1, h2 with
      | [_, _], _, h2 => simp at h2
      | x :: y :: z :: l, h1, h2 =>
        simp at h1 h2
        subst h1
        subst h2
        simpa [sepRow] using h3
    | succ j =>
      refine sepRows_at h.2 j a b (by omega) ?_ ?_
      · rw [List.getElem?_drop, ← h1]
        congr 1
        omega
      · rw [List.getElem?_drop, ← h2]
        congr 1
        omega

/-- A row as the run of shape.Check takes it. -/
def RowAt (w : World) (b j : Nat) (f : Fm) : Prop := ∃ (D : Nat → Prop) (V : Va), (V.sym = (fun _ => Value.bool false) ∧ V.lp = 0) ∧ RelM D V (memOf f) w ∧ (argOf f).on D ∧ ∃ s t, (argOf f).val V = .agg (f.cells s t).toArray ∧ w.rangeAt b (j * 10) (f.cells s t)

/-- One of a row's slices: nil, or an object of its own. -/
def Half (m : Mem) (a : At) (xs : List Int) : Prop :=
  (xs = [] ∧ a = .lit (.slice none 0 0)) ∨ ∃ i o, a = .sl i xs.length ∧ 0 < xs.length ∧ m.H.get i = some o ∧ o.t = 3 ∧ o.sz = 1 ∧ o.cs = xs.map fun n => .lit (.int .i64 n)
theorem half_of {xs : List Int} {a : At} {m : Mem} (h : rdInts m a = some xs) (hn : posAt m a = true) : Half m a xs := by
  unfold rdInts at h
  split at h
  · cases h
    exact .inl ⟨rfl, rfl⟩
  · rename_i i n
    unfold rdIntsOb at h
    split at h
    case h_2 => cases h
    rename_i o ho
    split at h
    case isFalse => cases h
    rename_i hb
    simp only [Bool.and_eq_true, lenR_eq] at hb
    obtain ⟨⟨b1, b2⟩, b3⟩ := hb
    have e2 : o.cs.length = n := Nat.eq_of_beq_eq_true b2
    have e4 := intsOf_some h
    have e5 : xs.length = n := by rw [← e2, e4, List.length_map]
    simp only [posAt, ho, szOb, Bool.and_eq_true] at hn
    have hp : 0 < n := Nat.le_of_ble_eq_true hn.1
    exact .inr ⟨i, o, by rw [e5], by omega, ho, Nat.eq_of_beq_eq_true b1, Nat.eq_of_beq_eq_true hn.2, e4⟩
  · cases h
theorem row_of {D : Nat → Prop} {V : Va} {w : World} {m : Mem} (hm : RelM D V m w) {a b : At} {f : Fm} (h1 : rdInts m a = some f.sh) (h2 : rdInts m b = some f.sl) (hs : sepAt m a b = true) :
    ∃ (D2 : Nat → Prop) (V2 : Va), (V2.sym = V.sym ∧ V2.lp = V.lp) ∧ RelM D2 V2 (memOf f) w ∧ (slOf 0 f.sh).on D2 ∧ (slOf 1 f.sl).on D2 ∧ (slOf 0 f.sh).val V2 = a.val V ∧ (slOf 1 f.sl).val V2 = b.val V := by
  simp only [sepAt, Bool.and_eq_true] at hs
  obtain ⟨⟨hp1, hp2⟩, hd⟩ := hs
  have g1 := half_of h1 hp1
  have g2 := half_of h2 hp2
  have ia : ∃ i, ∀ j n, a = .sl j n → j = i := by
    cases a with
    | sl i n => exact ⟨i, fun j k e => by cases e; rfl⟩
    | _ => exact ⟨0, fun j k e => by cases e⟩
  have ib : ∃ i, ∀ j n, b = .sl j n → j = i := by
    cases b with
    | sl i n => exact ⟨i, fun j k e => by cases e; rfl⟩
    | _ => exact ⟨0, fun j k e => by cases e⟩
  obtain ⟨i, hi⟩ := ia
  obtain ⟨j, hj⟩ := ib
  let V2 : Va := { blk := fun k => if k = 0 then V.blk i else V.blk j, cap := fun k => if k = 0 then V.cap i else V.cap j, sym := V.sym, lp := V.lp }
  let D2 : Nat → Prop := fun k => (k = 0 ∧ f.sh ≠ []) ∨ (k = 1 ∧ f.sl ≠ [])
  have key : ∀ (k : Nat) (o : Ob), (memOf f).H.get k = some o → (k = 0 ∧ obOf f.sh = some o) ∨ (k = 1 ∧ obOf f.sl = some o) := by
    intro k o hk0
    have hk : (Tr.put (Tr.put .nil 0 (obOf f.sh)) 1 (obOf f.sl)).get k = some o := hk0
    rcases Tr.get_put _ _ _ _ _ hk with ⟨rfl, e⟩ | ⟨_, hk⟩
    · exact .inr ⟨rfl, e⟩
    · rcases Tr.get_put _ _ _ _ _ hk with ⟨rfl, e⟩ | ⟨_, hk⟩
      · exact .inl ⟨rfl, e⟩
      · simp [Tr.get_nil] at hk
  have obs : ∀ {xs : List Int} {o : Ob}, obOf xs = some o → xs ≠ [] ∧ o = { t := 3, sz := 1, cs := xs.map fun k => .lit (.int .i64 k) } := by
    intro xs o h
    cases xs with
    | nil => cases h
    | cons x l =>
      simp only [obOf, Option.some.injEq] at h
      exact ⟨by simp, h.symm⟩
  have half : ∀ {c : At} {xs : List Int} {q k0 : Nat}, Half m c xs → (∀ j n, c = .sl j n → j = q) → V2.blk k0 = V.blk q → V2.cap k0 = V.cap q → (slOf k0 xs).val V2 = c.val V ∧ ∀ o, obOf xs = some o → ObAt V2 k0 o w ∧ ∃ o', m.H.get q = some o' ∧ ∃ n, c = .sl q n := by
    intro c xs q k0 hc hq hb hcap
    rcases hc with ⟨rfl, rfl⟩ | ⟨i', o, rfl, hpos, ho, ht, hsz, hcs⟩
    · exact ⟨rfl, fun o h => by cases h⟩
    · obtain rfl := hq i' xs.length rfl
      refine ⟨?_, fun o1 h1 => ?_⟩
      · cases xs with
        | nil => simp at hpos
        | cons x l => simp only [slOf, At.val, hb, hcap]
      · obtain ⟨_, rfl⟩ := obs h1
        obtain ⟨_, _, hob⟩ := hm.ob i' o ho
        obtain ⟨cur, c1, c2, c3, c4, c5⟩ := hob.ex
        refine ⟨⟨cur, ?_, ?_, ?_, ?_, fun j1 a1 h2 => ?_⟩, o, ho, _, rfl⟩
        · rw [hb, c1, ht]
        · rw [hcap, c2, hsz]
        · rw [hcap]; exact c3
        · rw [hcs] at c4; exact c4
        · have h3 : o.cs[j1]? = some a1 := by rw [hcs]; exact h2
          have h4 := c5 j1 a1 h3
          rw [List.getElem?_map, Option.map_eq_some_iff] at h2
          obtain ⟨n1, _, rfl⟩ := h2
          exact h4
  obtain ⟨v1, b1⟩ := half (k0 := 0) g1 hi rfl rfl
  obtain ⟨v2, b2⟩ := half (k0 := 1) g2 hj rfl rfl
  refine ⟨D2, V2, ⟨rfl, rfl⟩, ⟨?_, ?_, ?_, fun i h => by cases h⟩, ?_, ?_, v1, v2⟩
  · rintro k (⟨rfl, _⟩ | ⟨rfl, _⟩)
    · show 0 < 2; decide
    · show 1 < 2; decide
  · intro k o hk
    have hlit : ∀ {xs : List Int} {o : Ob}, obOf xs = some o → ∀ x ∈ o.cs, x.on D2 := by
      intro xs o h x hx
      obtain ⟨_, rfl⟩ := obs h
      obtain ⟨n1, _, rfl⟩ := List.mem_map.1 hx
      trivial
    rcases key k o hk with ⟨rfl, e⟩ | ⟨rfl, e⟩
    · exact ⟨.inl ⟨rfl, (obs e).1⟩, hlit e, (b1 o e).1⟩
    · exact ⟨.inr ⟨rfl, (obs e).1⟩, hlit e, (b2 o e).1⟩
  · intro k1 k2 o1 o2 hk1 hk2 hblk
    rcases key k1 o1 hk1 with ⟨rfl, e1⟩ | ⟨rfl, e1⟩ <;> rcases key k2 o2 hk2 with ⟨rfl, e2⟩ | ⟨rfl, e2⟩
    · rfl
    · obtain ⟨_, o', q1, n1, rfl⟩ := b1 o1 e1
      obtain ⟨_, o'', q2, n2, rfl⟩ := b2 o2 e2
      have : i = j := hm.inj i j o' o'' q1 q2 hblk
      subst this
      simp [difAt] at hd
    · obtain ⟨_, o', q1, n1, rfl⟩ := b1 o2 e2
      obtain ⟨_, o'', q2, n2, rfl⟩ := b2 o1 e1
      have : i = j := hm.inj i j o' o'' q1 q2 hblk.symm
      subst this
      simp [difAt] at hd
    · rfl
  · cases hx : f.sh with
    | nil => trivial
    | cons x l => exact .inl ⟨rfl, by rw [hx]; simp⟩
  · cases hx : f.sl with
    | nil => trivial
    | cons x l => exact .inr ⟨rfl, by rw [hx]; simp⟩
end Go.Proofs.Ytchodalkdejiiaa.Ma
