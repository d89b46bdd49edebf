/-
  The symbolic run: what its numbers stand for in a world; what a step keeps.
-/
import Derived.Test.YtnkdpcalgllnbaaDoorSyA
namespace Go.Proofs.YtnkdpcalgllnbaaDoor.Sy
open Go Go.RowKit

theorem run_pureVal {α : Type} {P : Program} : ∀ (s : Sem α) (a : α), pureVal P s = some a → ∀ w, s.run P w = .ok a w := by
  intro s
  induction s with
  | pure x => intro a h w; simp only [pureVal, Option.some.injEq] at h; subst h; rfl
  | program k ih => intro a h w; exact ih P a h w
  | _ => intro a h; simp [pureVal] at h

theorem key_split {k m : Nat} (h0 : k ≠ 0) (h1 : m ≠ 0) (h2 : (k - 1) % 2 = (m - 1) % 2) (h3 : (k - 1) / 2 = (m - 1) / 2) : k = m := by omega

section tr
variable {α : Type}
theorem Tr.beq0 (k : Nat) : Nat.beq k 0 = decide (k = 0) := by
  by_cases h : k = 0
  · subst h; rfl
  · rw [decide_eq_false h, Bool.eq_false_iff]; intro e; exact h (Nat.eq_of_beq_eq_true e)
theorem Tr.get_node (v : Option α) (l r : Tr α) (k : Nat) : (Tr.node v l r).get k = if k = 0 then v else if (k - 1) % 2 = 0 then l.get ((k - 1) / 2) else r.get ((k - 1) / 2) := by
  have e1 : (Tr.node v l r).get k = bif Nat.beq k 0 then v else bif Nat.beq ((k - 1) % 2) 0 then l.get ((k - 1) / 2) else r.get ((k - 1) / 2) := by
    show Bool.rec (motive := fun _ => Option α) _ _ (Nat.beq k 0) = _
    cases Nat.beq k 0
    · show Bool.rec (motive := fun _ => Option α) _ _ (Nat.beq ((k - 1) % 2) 0) = _
      cases Nat.beq ((k - 1) % 2) 0 <;> rfl
    · rfl
  rw [e1]
  simp only [Tr.beq0, Bool.cond_decide]
theorem Tr.get_nil (k : Nat) : (Tr.nil : Tr α).get k = none := rfl
theorem Tr.one_succ (x : Option α) (f k : Nat) : Tr.one x (f + 1) k = bif Nat.beq k 0 then .node x .nil .nil else bif Nat.beq ((k - 1) % 2) 0 then .node none (Tr.one x f ((k - 1) / 2)) .nil else .node none .nil (Tr.one x f ((k - 1) / 2)) := by
  show Bool.rec (motive := fun _ => Tr α) _ _ (Nat.beq k 0) = _
  cases Nat.beq k 0
  · show Bool.rec (motive := fun _ => Tr α) _ _ (Nat.beq ((k - 1) % 2) 0) = _
    cases Nat.beq ((k - 1) % 2) 0 <;> rfl
  · rfl
theorem Tr.one_zero (x : Option α) (k : Nat) : Tr.one x 0 k = .nil := rfl
theorem Tr.put_nil (k : Nat) (x : Option α) : (Tr.nil : Tr α).put k x = Tr.one x 24 k := rfl
theorem Tr.put_node (v : Option α) (l r : Tr α) (k : Nat) (x : Option α) : (Tr.node v l r).put k x = bif Nat.beq k 0 then .node x l r else bif Nat.beq ((k - 1) % 2) 0 then .node v (l.put ((k - 1) / 2) x) r else .node v l (r.put ((k - 1) / 2) x) := by
  show Bool.rec (motive := fun _ => Tr α) _ _ (Nat.beq k 0) = _
  cases Nat.beq k 0
  · show Bool.rec (motive := fun _ => Tr α) _ _ (Nat.beq ((k - 1) % 2) 0) = _
    cases Nat.beq ((k - 1) % 2) 0 <;> rfl
  · rfl
theorem Tr.get_one (x : Option α) : ∀ (f k m : Nat) (u : α), (Tr.one x f k).get m = some u → m = k ∧ x = some u := by
  intro f
  induction f with
  | zero => intro k m u h; rw [Tr.one_zero, Tr.get_nil] at h; cases h
  | succ f ih =>
    intro k m u h
    rw [Tr.one_succ] at h
    simp only [Tr.beq0, Bool.cond_decide] at h
    by_cases hk : k = 0
    · rw [if_pos hk, Tr.get_node] at h
      by_cases hm : m = 0
      · rw [if_pos hm] at h; exact ⟨by omega, h⟩
      · rw [if_neg hm] at h; split at h <;> simp [Tr.get_nil] at h
    · rw [if_neg hk] at h
      by_cases hp : (k - 1) % 2 = 0
      · rw [if_pos hp, Tr.get_node] at h
        by_cases hm : m = 0
        · rw [if_pos hm] at h; cases h
        · rw [if_neg hm] at h
          by_cases hq : (m - 1) % 2 = 0
          · rw [if_pos hq] at h
            obtain ⟨e, hx⟩ := ih _ _ _ h
            exact ⟨key_split hm hk (by omega) e, hx⟩
          · rw [if_neg hq] at h; simp [Tr.get_nil] at h
      · rw [if_neg hp, Tr.get_node] at h
        by_cases hm : m = 0
        · rw [if_pos hm] at h; cases h
        · rw [if_neg hm] at h
          by_cases hq : (m - 1) % 2 = 0
          · rw [if_pos hq] at h; simp [Tr.get_nil] at h
          · rw [if_neg hq] at h
            obtain ⟨e, hx⟩ := ih _ _ _ h
            exact ⟨key_split hm hk (by omega) e, hx⟩
theorem Tr.get_put (t : Tr α) : ∀ (k : Nat) (x : Option α) (m : Nat) (u : α), (t.put k x).get m = some u → (m = k ∧ x = some u) ∨ (m ≠ k ∧ t.get m = some u) := by
  induction t with
  | nil => intro k x m u h; rw [Tr.put_nil] at h; exact .inl (Tr.get_one x _ _ _ _ h)
  | node v l r ihl ihr =>
    intro k x m u h
    rw [Tr.put_node] at h
    simp only [Tr.beq0, Bool.cond_decide] at h
    by_cases hk : k = 0
    · rw [if_pos hk, Tr.get_node] at h
      by_cases hm : m = 0
      · rw [if_pos hm] at h; exact .inl ⟨by omega, h⟩
      · refine .inr ⟨by omega, ?_⟩
        rw [Tr.get_node, if_neg hm]; rwa [if_neg hm] at h
    · rw [if_neg hk] at h
      by_cases hp : (k - 1) % 2 = 0
      · rw [if_pos hp, Tr.get_node] at h
        rw [Tr.get_node]
        by_cases hm : m = 0
        · rw [if_pos hm] at h; exact .inr ⟨by omega, by rw [if_pos hm]; exact h⟩
        · rw [if_neg hm] at h
          by_cases hq : (m - 1) % 2 = 0
          · rw [if_pos hq] at h
            rcases ihl _ _ _ _ h with ⟨e, hx⟩ | ⟨e, hx⟩
            · exact .inl ⟨key_split hm hk (by omega) e, hx⟩
            · exact .inr ⟨fun e' => e (by rw [e']), by rw [if_neg hm, if_pos hq]; exact hx⟩
          · rw [if_neg hq] at h
            exact .inr ⟨fun e' => hq (by rw [e']; exact hp), by rw [if_neg hm, if_neg hq]; exact h⟩
      · rw [if_neg hp, Tr.get_node] at h
        rw [Tr.get_node]
        by_cases hm : m = 0
        · rw [if_pos hm] at h; exact .inr ⟨by omega, by rw [if_pos hm]; exact h⟩
        · rw [if_neg hm] at h
          by_cases hq : (m - 1) % 2 = 0
          · rw [if_pos hq] at h
            exact .inr ⟨fun e' => hp (by rw [← e']; exact hq), by rw [if_neg hm, if_pos hq]; exact h⟩
          · rw [if_neg hq] at h
            rcases ihr _ _ _ _ h with ⟨e, hx⟩ | ⟨e, hx⟩
            · exact .inl ⟨key_split hm hk (by omega) e, hx⟩
            · exact .inr ⟨fun e' => e (by rw [e']), by rw [if_neg hm, if_neg hq]; exact hx⟩
end tr

/-! ### values -/
theorem toArray_lits (V : Va) (vs : Array Value) : ((vs.toList.map At.lit).map (At.val V)).toArray = vs := by
  rw [List.map_map]
  have : (At.val V ∘ At.lit) = id := rfl
  rw [this, List.map_id]
theorem ofVal_val (V : Va) (v : Value) : (ofVal v).val V = v := by
  cases v <;> first | rfl | (simp only [ofVal, SV.val]; rw [toArray_lits])
theorem lits_map (V : Va) : ∀ (l : List At) (vs : List Value), lits l = some vs → l.map (At.val V) = vs := by
  intro l
  induction l with
  | nil => intro vs h; simp [lits] at h; subst h; rfl
  | cons a l ih =>
    intro vs h
    cases a <;> simp only [lits, Option.map_eq_some_iff, reduceCtorEq] at h
    obtain ⟨us, hu, rfl⟩ := h
    simp [ih us hu, At.val]
theorem lit?_val (V : Va) (s : SV) (v : Value) (h : s.lit? = some v) : s.val V = v := by
  cases s with
  | one a => cases a <;> simp [SV.lit?, At.lit?] at h; subst h; rfl
  | agg l =>
    simp only [SV.lit?, Option.map_eq_some_iff] at h
    obtain ⟨vs, h1, rfl⟩ := h
    simp only [SV.val, lits_map V l vs h1]
  | tup l =>
    simp only [SV.lit?, Option.map_eq_some_iff] at h
    obtain ⟨vs, h1, rfl⟩ := h
    simp only [SV.val, lits_map V l vs h1]

/-- All objects that an atom names are among D. -/
def At.on (D : Nat → Prop) : At → Prop
  | .ptr id _ | .sl id _ => D id
  | .clo _ caps => ∀ p ∈ caps, D p.1
  | _ => True
def SV.on (D : Nat → Prop) : SV → Prop
  | .one a => a.on D
  | .agg l | .tup l => ∀ a ∈ l, a.on D
theorem At.on_mono {D D' : Nat → Prop} (h : ∀ i, D i → D' i) : ∀ {a : At}, a.on D → a.on D' := by
  intro a ha
  cases a <;> first | exact trivial | exact h _ ha | exact fun p hp => h _ (ha p hp)
theorem SV.on_mono {D D' : Nat → Prop} (h : ∀ i, D i → D' i) : ∀ {s : SV}, s.on D → s.on D' := by
  intro s hs
  cases s <;> first | exact At.on_mono h hs | exact fun a ha => At.on_mono h (hs a ha)
theorem ofVal_on (D : Nat → Prop) (v : Value) : (ofVal v).on D := by
  cases v <;> first | exact trivial | (intro a ha; simp only [List.mem_map] at ha; obtain ⟨x, _, rfl⟩ := ha; exact trivial)

structure Va.agree (D : Nat → Prop) (V V' : Va) : Prop where
  ids : ∀ i, D i → V'.blk i = V.blk i ∧ V'.cap i = V.cap i
  sym : V'.sym = V.sym
  lp : V'.lp = V.lp
theorem At.val_agree {D : Nat → Prop} {V V' : Va} (h : V.agree D V') {a : At} (ha : a.on D) : a.val V' = a.val V := by
  cases a with
  | lit v => rfl
  | sym k => simp only [At.val, h.sym]
  | ptr id off => simp only [At.val, (h.ids id ha).1]
  | sl id len => simp only [At.val, (h.ids id ha).1, (h.ids id ha).2]
  | clo f caps =>
    simp only [At.val]
    congr 2
    exact List.map_congr_left fun p hp => by rw [(h.ids _ (ha p hp)).1]
  | yld => simp only [At.val, h.lp]
theorem SV.val_agree {D : Nat → Prop} {V V' : Va} (h : V.agree D V') {s : SV} (hs : s.on D) : s.val V' = s.val V := by
  cases s with
  | one a => exact At.val_agree h hs
  | agg l => simp only [SV.val]; rw [List.map_congr_left fun a ha => At.val_agree h (hs a ha)]
  | tup l => simp only [SV.val]; rw [List.map_congr_left fun a ha => At.val_agree h (hs a ha)]
theorem Va.agree.refl (D : Nat → Prop) (V : Va) : V.agree D V := ⟨fun _ _ => ⟨rfl, rfl⟩, rfl, rfl⟩

/-- The letters are of one cell each. -/
def SymOK (V : Va) : Prop := ∀ k, (V.sym k).oneCell' = true
theorem At.oneC_val {V : Va} (hs : SymOK V) {a : At} (h : a.oneC = true) : (a.val V).oneCell' = true := by
  cases a with
  | lit v => exact h
  | sym k => exact hs k
  | ptr _ _ => rfl
  | sl _ _ => rfl
  | clo _ _ => rfl
  | yld => rfl
theorem cells_one {v : Value} (h : v.oneCell' = true) : v.cells = #[v] := by cases v <;> first | rfl | simp [Value.oneCell'] at h
theorem SV.cells_val {V : Va} (hs : SymOK V) {s : SV} {l : List At} (h : s.cells = some l) :
    (s.val V).cells = (l.map (At.val V)).toArray ∧ (∀ a ∈ l, a.oneC = true) ∧ (∀ u ∈ l.map (At.val V), u.oneCell' = true) := by
  have key : ∀ l : List At, (∀ a ∈ l, a.oneC = true) → ∀ u ∈ l.map (At.val V), u.oneCell' = true := by
    intro l hl u hu
    obtain ⟨a, ha, rfl⟩ := List.mem_map.1 hu
    exact At.oneC_val hs (hl a ha)
  cases s with
  | one a =>
    simp only [SV.cells] at h
    split at h
    · rename_i ho
      cases h
      refine ⟨?_, by simpa using ho, key _ (by simpa using ho)⟩
      simp only [SV.val, List.map_cons, List.map_nil]
      exact cells_one (At.oneC_val hs ho)
    · cases h
  | agg l' =>
    simp only [SV.cells] at h
    split at h
    · rename_i ho
      cases h
      have ho' : ∀ a ∈ l, a.oneC = true := by simpa using ho
      exact ⟨rfl, ho', key _ ho'⟩
    · cases h
  | tup l' => simp [SV.cells] at h
theorem SV.cells_on {D : Nat → Prop} {s : SV} {l : List At} (h : s.cells = some l) (hs : s.on D) : ∀ a ∈ l, a.on D := by
  cases s with
  | one a =>
    simp only [SV.cells] at h
    split at h <;> cases h
    intro b hb; simp at hb; subst hb; exact hs
  | agg l' =>
    simp only [SV.cells] at h
    split at h <;> cases h
    exact hs
  | tup l' => simp [SV.cells] at h

/-! ### memory -/
def Dn (D : Nat → Prop) (n n' : Nat) : Nat → Prop := fun i => D i ∨ (n ≤ i ∧ i < n')
theorem Dn_le {D : Nat → Prop} {n n' : Nat} : ∀ i, D i → Dn D n n' i := fun _ h => .inl h
theorem Dn_Dn {D : Nat → Prop} {a b c : Nat} (h : a ≤ b) (h' : b ≤ c) : Dn (Dn D a b) b c = Dn D a c := by
  funext i
  apply propext
  unfold Dn
  constructor
  · rintro ((h1 | h1) | h1)
    · exact .inl h1
    · exact .inr ⟨h1.1, by omega⟩
    · exact .inr ⟨by omega, h1.2⟩
  · rintro (h1 | h1)
    · exact .inl (.inl h1)
    · rcases Nat.lt_or_ge i b with hb | hb
      · exact .inl (.inr ⟨h1.1, hb⟩)
      · exact .inr ⟨hb, h1.2⟩
theorem Dn_self {D : Nat → Prop} {a : Nat} : Dn D a a = D := by
  funext i
  apply propext
  unfold Dn
  constructor
  · rintro (h | h)
    · exact h
    · omega
  · exact .inl

structure ObAt (V : Va) (i : Nat) (o : Ob) (w : World) : Prop where
  ex : ∃ cur : Array Value, w.heap[V.blk i]? = some (.cells cur o.t (0, 0)) ∧ cur.size = V.cap i * o.sz ∧ V.cap i ≤ maxLen ∧ o.cs.length ≤ cur.size ∧ ∀ (j : Nat) (a : At), o.cs[j]? = some a → cur[j]? = some (a.val V)
  all : o.full = true → o.cs.length = V.cap i * o.sz

structure RelM (D : Nat → Prop) (V : Va) (m : Mem) (w : World) : Prop where
  dom : ∀ i, D i → i < m.nxt
  ob : ∀ i o, m.H.get i = some o → D i ∧ (∀ a ∈ o.cs, a.on D) ∧ ObAt V i o w
  inj : ∀ i j oi oj, m.H.get i = some oi → m.H.get j = some oj → V.blk i = V.blk j → i = j
  mlt : ∀ i ∈ m.mods, D i

structure StepM (D : Nat → Prop) (V : Va) (w : World) (m : Mem) (V' : Va) (w' : World) (m' : Mem) : Prop where
  nxt : m.nxt ≤ m'.nxt
  agree : V.agree D V'
  mods : ∀ i ∈ m.mods, i ∈ m'.mods
  os : w'.os = w.os
  tape : w'.tape = w.tape
  output : w'.output = w.output
  oth : KeepsOthers w w'
  same : ∀ b, b < w.heap.size → (∀ i ∈ m'.mods, V'.blk i ≠ b) → w'.heap[b]? = w.heap[b]?
  fresh : ∀ i, m.nxt ≤ i → i < m'.nxt → w.heap.size ≤ V'.blk i ∨ ∃ j, j ∈ m'.mods ∧ D j ∧ V.blk j = V'.blk i

theorem ObAt.lt {V : Va} {i : Nat} {o : Ob} {w : World} (h : ObAt V i o w) : V.blk i < w.heap.size := by
  obtain ⟨cur, h, _⟩ := h.ex
  exact (Array.getElem?_eq_some_iff.1 h).1
theorem ObAt.kept {D : Nat → Prop} {V V' : Va} {i : Nat} {o : Ob} {w w' : World} (h : ObAt V i o w) (hD : D i) (ha : ∀ a ∈ o.cs, a.on D) (hV : V.agree D V') (hw : w'.heap[V.blk i]? = w.heap[V.blk i]?) : ObAt V' i o w' := by
  obtain ⟨cur, h1, h2, h3, h4, h5⟩ := h.ex
  refine ⟨⟨cur, ?_, ?_, ?_, h4, fun j a hj => ?_⟩, fun hf => by rw [(hV.ids i hD).2]; exact h.all hf⟩
  · rw [(hV.ids i hD).1, hw]; exact h1
  · rw [(hV.ids i hD).2]; exact h2
  · rw [(hV.ids i hD).2]; exact h3
  · rw [At.val_agree hV (ha a (List.mem_of_getElem? hj))]; exact h5 j a hj

theorem StepM.refl {D : Nat → Prop} {V : Va} {w : World} {m : Mem} : StepM D V w m V w m :=
  ⟨Nat.le_refl _, .refl _ _, fun _ h => h, rfl, rfl, rfl, .refl _, fun _ _ _ => rfl, fun i h1 h2 => by omega⟩

theorem StepM.trans {D : Nat → Prop} {V V1 V2 : Va} {w w1 w2 : World} {m m1 m2 : Mem} (h : StepM D V w m V1 w1 m1) (k : StepM (Dn D m.nxt m1.nxt) V1 w1 m1 V2 w2 m2) (hm : ∀ i ∈ m1.mods, Dn D m.nxt m1.nxt i) : StepM D V w m V2 w2 m2 := by
  refine ⟨Nat.le_trans h.nxt k.nxt, ⟨fun i hi => ?_, k.agree.sym.trans h.agree.sym, k.agree.lp.trans h.agree.lp⟩, fun i hi => k.mods i (h.mods i hi), k.os.trans h.os, k.tape.trans h.tape, k.output.trans h.output, h.oth.trans k.oth, fun b hb hi => ?_, fun i hi hi' => ?_⟩
  · have h1 := h.agree.ids i hi
    have h2 := k.agree.ids i (.inl hi)
    exact ⟨h2.1.trans h1.1, h2.2.trans h1.2⟩
  · rw [k.same b (Nat.lt_of_lt_of_le hb h.oth.size) hi]
    refine h.same b hb fun i hi1 => ?_
    rw [← (k.agree.ids i (hm i hi1)).1]
    exact hi i (k.mods i hi1)
  · rcases Nat.lt_or_ge i m1.nxt with hlt | hge
    · have e := (k.agree.ids i (.inr ⟨hi, hlt⟩)).1
      rcases h.fresh i hi hlt with h1 | ⟨j, hj, hD, hb⟩
      · exact .inl (by rw [e]; exact h1)
      · exact .inr ⟨j, k.mods j hj, hD, by rw [e]; exact hb⟩
    · rcases k.fresh i hge hi' with h1 | ⟨j, hj, hD | ⟨hj1, hj2⟩, hb⟩
      · exact .inl (Nat.le_trans h.oth.size h1)
      · exact .inr ⟨j, hj, hD, by rw [← hb]; exact ((h.agree.ids j hD).1).symm⟩
      · rcases h.fresh j hj1 hj2 with h1 | ⟨j', hj', hD', hb'⟩
        · exact .inl (by rw [← hb]; exact h1)
        · exact .inr ⟨j', k.mods j' hj', hD', by rw [← hb]; exact hb'⟩

/-- A draw turns nothing. -/
theorem StepM.drew {D : Nat → Prop} {V : Va} {w w' : World} {m : Mem} (hh : w'.heap = w.heap) (h1 : w'.os = w.os) (h2 : w'.tape = w.tape) (h3 : w'.output = w.output) : StepM D V w m V w' m :=
  ⟨Nat.le_refl _, .refl _ _, fun _ h => h, h1, h2, h3, ⟨by rw [hh]; exact Nat.le_refl _, fun k o hk _ => by rw [hh]; exact hk⟩, fun _ _ _ => by rw [hh], fun i h1 h2 => by omega⟩
theorem RelM.drew {D : Nat → Prop} {V : Va} {w w' : World} {m : Mem} (h : RelM D V m w) (hh : w'.heap = w.heap) : RelM D V m w' :=
  ⟨h.dom, fun i o hi => let ⟨h1, h2, h3⟩ := h.ob i o hi; ⟨h1, h2, h3.kept h1 h2 (.refl _ _) (by rw [hh])⟩, h.inj, h.mlt⟩

/-- the numbers, with one more. -/
def Va.ext (V : Va) (n b c : Nat) : Va := { V with blk := fun i => if i = n then b else V.blk i, cap := fun i => if i = n then c else V.cap i }
theorem Va.ext_agree {D : Nat → Prop} {V : Va} {n b c : Nat} (h : ∀ i, D i → i < n) : V.agree D (V.ext n b c) :=
  ⟨fun i hi => by have := h i hi; simp [Va.ext, Nat.ne_of_lt this], rfl, rfl⟩
theorem Va.ext_blk {V : Va} {n b c : Nat} : (V.ext n b c).blk n = b := by simp [Va.ext]
theorem Va.ext_cap {V : Va} {n b c : Nat} : (V.ext n b c).cap n = c := by simp [Va.ext]

theorem heap_push_lt (w : World) (o : Obj) {k : Nat} (h : k < w.heap.size) : (w.alloc o).heap[k]? = w.heap[k]? := Below.heap_alloc w o k h

/-- **A NEW OBJECT.** w0: the world w, or one that parts from it by a draw. -/
theorem new_sound {D : Nat → Prop} {V : Va} {m : Mem} {w w0 : World} (h : RelM D V m w) (hh : w0.heap = w.heap) (h1 : w0.os = w.os) (h2 : w0.tape = w.tape) (h3 : w0.output = w.output)
    (o : Ob) (cap : Nat) (cur : Array Value) (hc : cur.size = cap * o.sz) (hm : cap ≤ maxLen) (hl : o.cs.length ≤ cur.size) (hon : ∀ a ∈ o.cs, a.on D) (hv : ∀ (j : Nat) (a : At), o.cs[j]? = some a → cur[j]? = some (a.val V)) (hfl : o.full = true → o.cs.length = cap * o.sz) :
    StepM D V w m (V.ext m.nxt w.heap.size cap) (w0.alloc (.cells cur o.t)) (m.new o) ∧ RelM (Dn D m.nxt (m.nxt + 1)) (V.ext m.nxt w.heap.size cap) (m.new o) (w0.alloc (.cells cur o.t)) := by
  have hag : V.agree D (V.ext m.nxt w.heap.size cap) := Va.ext_agree h.dom
  have hold : ∀ b, b < w.heap.size → (w0.alloc (.cells cur o.t)).heap[b]? = w.heap[b]? := fun b hb => by
    rw [heap_push_lt w0 _ (by rw [hh]; exact hb), hh]
  refine ⟨⟨Nat.le_succ _, hag, fun _ h => h, h1, h2, h3, ⟨by rw [← hh]; simp, fun k o' hk _ => ?_⟩, fun b hb _ => hold b hb, fun i hi hi' => ?_⟩, ⟨fun i hi => ?_, fun i o' hi => ?_, fun i j oi oj hi hj hb => ?_, fun i hi => .inl (h.mlt i hi)⟩⟩
  · rw [hold k (Array.getElem?_eq_some_iff.1 hk).1]; exact hk
  · have : i = m.nxt := by simp only [Mem.new] at hi'; omega
    subst this
    exact .inl (by rw [Va.ext_blk]; exact Nat.le_refl _)
  · simp only [Mem.new]
    rcases hi with hi | ⟨_, hi⟩
    · have := h.dom i hi; omega
    · exact hi
  · rcases Tr.get_put _ _ _ _ _ hi with ⟨rfl, e⟩ | ⟨hne, hi⟩
    · cases e
      refine ⟨.inr ⟨Nat.le_refl _, Nat.lt_succ_self _⟩, fun a ha => At.on_mono Dn_le (hon a ha), ⟨⟨cur, ?_, by rw [Va.ext_cap]; exact hc, by rw [Va.ext_cap]; exact hm, hl, fun j a hj => ?_⟩, fun hf => by rw [Va.ext_cap]; exact hfl hf⟩⟩
      · rw [Va.ext_blk, ← hh]
        exact heap_alloc_new w0 _
      · rw [At.val_agree hag (hon a (List.mem_of_getElem? hj))]; exact hv j a hj
    · obtain ⟨h4, h5, h6⟩ := h.ob i o' hi
      exact ⟨.inl h4, fun a ha => At.on_mono Dn_le (h5 a ha), h6.kept h4 h5 hag (hold _ h6.lt)⟩
  · rcases Tr.get_put _ _ _ _ _ hi with ⟨rfl, e⟩ | ⟨hne, hi⟩ <;> rcases Tr.get_put _ _ _ _ _ hj with ⟨rfl, e'⟩ | ⟨hne', hj⟩
    · rfl
    · obtain ⟨h4, _, h6⟩ := h.ob j oj hj
      rw [Va.ext_blk, (hag.ids j h4).1] at hb
      have := h6.lt
      omega
    · obtain ⟨h4, _, h6⟩ := h.ob i oi hi
      rw [Va.ext_blk, (hag.ids i h4).1] at hb
      have := h6.lt
      omega
    · obtain ⟨h4, _, _⟩ := h.ob i oi hi
      obtain ⟨h4', _, _⟩ := h.ob j oj hj
      rw [(hag.ids i h4).1, (hag.ids j h4').1] at hb
      exact h.inj i j oi oj hi hj hb

theorem KeepsOthers.setRow (w : World) (g : Nat) (old cs : Array Value) (t : TypeId) (fr : Nat × Nat) (hg : w.heap[g]? = some (.cells old t fr)) : KeepsOthers w (w.setRow g cs) :=
  ⟨by simp, fun k o hk ho => by
    by_cases e : k = g
    · subst e; rw [hg] at hk; cases hk; simp [Obj.isCells] at ho
    · rw [setRow_other w g k cs e]; exact hk⟩

/-- **A STORE INTO AN OBJECT.** -/
theorem set_sound {D : Nat → Prop} {V : Va} {m : Mem} {w : World} (h : RelM D V m w) (id : Nat) (o : Ob) (hi : m.H.get id = some o) (cs' : List At) (cur cur' : Array Value)
    (hcur : w.heap[V.blk id]? = some (.cells cur o.t (0, 0))) (hs : cur'.size = cur.size) (hl : cs'.length ≤ cur'.size) (hon : ∀ a ∈ cs', a.on D) (hv : ∀ (j : Nat) (a : At), cs'[j]? = some a → cur'[j]? = some (a.val V)) (hlen : cs'.length = o.cs.length) :
    StepM D V w m V (w.setRow (V.blk id) cur') (m.set id { o with cs := cs' }) ∧ RelM D V (m.set id { o with cs := cs' }) (w.setRow (V.blk id) cur') := by
  obtain ⟨hD, _, hob⟩ := h.ob id o hi
  obtain ⟨cur0, h1, h2, h3, _, _⟩ := hob.ex
  rw [hcur] at h1
  cases h1
  refine ⟨⟨Nat.le_refl _, .refl _ _, fun i hi => List.mem_cons_of_mem _ hi, rfl, rfl, rfl, KeepsOthers.setRow w _ cur cur' o.t _ hcur, fun b _ hb => ?_, fun i h1 h2 => by simp only [Mem.set] at h2; omega⟩, ⟨h.dom, fun i o' hi' => ?_, fun i j oi oj hi' hj' hb => ?_, fun i hi' => ?_⟩⟩
  · exact setRow_other w _ b cur' (fun e => hb id (List.mem_cons_self ..) e.symm)
  · rcases Tr.get_put _ _ _ _ _ hi' with ⟨rfl, e⟩ | ⟨hne, hi'⟩
    · cases e
      exact ⟨hD, hon, ⟨⟨cur', setRow_heap w _ cur cur' o.t _ hcur, by rw [hs]; exact h2, h3, hl, hv⟩, fun hf => hlen.trans (hob.all hf)⟩⟩
    · obtain ⟨h4, h5, h6⟩ := h.ob i o' hi'
      refine ⟨h4, h5, h6.kept h4 h5 (.refl _ _) (setRow_other w _ _ cur' (fun e => hne (h.inj i id o' o hi' hi e)))⟩
  · have key : ∀ k ok, (m.set id { o with cs := cs' }).H.get k = some ok → ∃ o', m.H.get k = some o' := by
      intro k ok hk
      rcases Tr.get_put _ _ _ _ _ hk with ⟨rfl, _⟩ | ⟨_, hk⟩
      · exact ⟨o, hi⟩
      · exact ⟨ok, hk⟩
    obtain ⟨o1, h1⟩ := key i oi hi'
    obtain ⟨o2, h2⟩ := key j oj hj'
    exact h.inj i j o1 o2 h1 h2 hb
  · rcases List.mem_cons.1 hi' with rfl | hi'
    · exact hD
    · exact h.mlt i hi'

/-- **APPEND WHERE THERE IS ROOM**: the elder object is dead, the new one lies in its block. -/
theorem room_sound {D : Nat → Prop} {V : Va} {m : Mem} {w : World} (h : RelM D V m w) (id : Nat) (o : Ob) (hi : m.H.get id = some o) (cs' : List At) (cur cur' : Array Value)
    (hcur : w.heap[V.blk id]? = some (.cells cur o.t (0, 0))) (hs : cur'.size = cur.size) (hl : cs'.length ≤ cur'.size) (hon : ∀ a ∈ cs', a.on D) (hv : ∀ (j : Nat) (a : At), cs'[j]? = some a → cur'[j]? = some (a.val V)) :
    StepM D V w m (V.ext m.nxt (V.blk id) (V.cap id)) (w.setRow (V.blk id) cur') ((m.die id).new { t := o.t, sz := o.sz, cs := cs' }) ∧
      RelM (Dn D m.nxt (m.nxt + 1)) (V.ext m.nxt (V.blk id) (V.cap id)) ((m.die id).new { t := o.t, sz := o.sz, cs := cs' }) (w.setRow (V.blk id) cur') := by
  obtain ⟨hD, _, hob⟩ := h.ob id o hi
  obtain ⟨cur0, h1, h2, h3, _, _⟩ := hob.ex
  rw [hcur] at h1
  cases h1
  have hag : V.agree D (V.ext m.nxt (V.blk id) (V.cap id)) := Va.ext_agree h.dom
  have hget : ∀ k ok, ((m.die id).new { t := o.t, sz := o.sz, cs := cs' }).H.get k = some ok → (k = m.nxt ∧ ok = { t := o.t, sz := o.sz, cs := cs' }) ∨ (k ≠ id ∧ m.H.get k = some ok) := by
    intro k ok hk
    rcases Tr.get_put _ _ _ _ _ hk with ⟨rfl, e⟩ | ⟨_, hk⟩
    · exact .inl ⟨rfl, by cases e; rfl⟩
    · rcases Tr.get_put _ _ _ _ _ hk with ⟨_, e⟩ | ⟨hne, hk⟩
      · cases e
      · exact .inr ⟨hne, hk⟩
  refine ⟨⟨Nat.le_succ _, hag, fun i hi => List.mem_cons_of_mem _ hi, rfl, rfl, rfl, KeepsOthers.setRow w _ cur cur' o.t _ hcur, fun b _ hb => ?_, fun i h1 h2 => ?_⟩, ⟨fun i hi => ?_, fun i o' hi' => ?_, fun i j oi oj hi' hj' hb => ?_, fun i hi' => ?_⟩⟩
  · refine setRow_other w _ b cur' (fun e => hb id (List.mem_cons_self ..) ?_)
    rw [(hag.ids id hD).1]; exact e.symm
  · have : i = m.nxt := by simp only [Mem.new, Mem.die] at h2; omega
    subst this
    exact .inr ⟨id, List.mem_cons_self .., hD, by rw [Va.ext_blk]⟩
  · simp only [Mem.new, Mem.die]
    rcases hi with hi | ⟨_, hi⟩
    · have := h.dom i hi; omega
    · exact hi
  · rcases hget i o' hi' with ⟨rfl, rfl⟩ | ⟨hne, hi'⟩
    · refine ⟨.inr ⟨Nat.le_refl _, Nat.lt_succ_self _⟩, fun a ha => At.on_mono Dn_le (hon a ha), ⟨⟨cur', ?_, by rw [Va.ext_cap, hs]; exact h2, by rw [Va.ext_cap]; exact h3, hl, fun j a hj => ?_⟩, fun hf => by cases hf⟩⟩
      · rw [Va.ext_blk]; exact setRow_heap w _ cur cur' o.t _ hcur
      · rw [At.val_agree hag (hon a (List.mem_of_getElem? hj))]; exact hv j a hj
    · obtain ⟨h4, h5, h6⟩ := h.ob i o' hi'
      exact ⟨.inl h4, fun a ha => At.on_mono Dn_le (h5 a ha), h6.kept h4 h5 hag (setRow_other w _ _ cur' (fun e => hne (h.inj i id o' o hi' hi e)))⟩
  · rcases hget i oi hi' with ⟨rfl, rfl⟩ | ⟨hne, hi'⟩ <;> rcases hget j oj hj' with ⟨rfl, rfl⟩ | ⟨hne', hj'⟩
    · rfl
    · obtain ⟨h4, _, _⟩ := h.ob j oj hj'
      rw [Va.ext_blk, (hag.ids j h4).1] at hb
      exact absurd (h.inj j id oj o hj' hi hb.symm) hne'
    · obtain ⟨h4, _, _⟩ := h.ob i oi hi'
      rw [Va.ext_blk, (hag.ids i h4).1] at hb
      exact absurd (h.inj i id oi o hi' hi hb) hne
    · obtain ⟨h4, _, _⟩ := h.ob i oi hi'
      obtain ⟨h4', _, _⟩ := h.ob j oj hj'
      rw [(hag.ids i h4).1, (hag.ids j h4').1] at hb
      exact h.inj i j oi oj hi' hj' hb
  · rcases List.mem_cons.1 hi' with rfl | hi'
    · exact .inl hD
    · exact .inl (h.mlt i hi')

/-- An object that is forgotten. -/
theorem die_sound {D : Nat → Prop} {V : Va} {m : Mem} {w : World} (h : RelM D V m w) (id : Nat) (hD : D id) : StepM D V w m V w (m.die id) ∧ RelM D V (m.die id) w :=
  ⟨⟨Nat.le_refl _, .refl _ _, fun i hi => List.mem_cons_of_mem _ hi, rfl, rfl, rfl, .refl _, fun _ _ _ => rfl, fun i h1 h2 => by simp only [Mem.die] at h2; omega⟩,
   ⟨h.dom, fun i o hi => by
      rcases Tr.get_put _ _ _ _ _ hi with ⟨_, e⟩ | ⟨_, hi⟩
      · cases e
      · exact h.ob i o hi,
    fun i j oi oj hi hj hb => by
      rcases Tr.get_put _ _ _ _ _ hi with ⟨_, e⟩ | ⟨_, hi⟩
      · cases e
      rcases Tr.get_put _ _ _ _ _ hj with ⟨_, e⟩ | ⟨_, hj⟩
      · cases e
      exact h.inj i j oi oj hi hj hb,
    fun i hi => by
      rcases List.mem_cons.1 hi with rfl | hi
      · exact hD
      · exact h.mlt i hi⟩⟩
end Go.Proofs.YtnkdpcalgllnbaaDoor.Sy
