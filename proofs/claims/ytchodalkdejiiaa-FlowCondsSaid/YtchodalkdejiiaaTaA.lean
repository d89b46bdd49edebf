/-
  A table of forms out of a closed run: what the run leaves reads as the walks ask.
-/
import Derived.Test.YtchodalkdejiiaaSyY
import Derived.Test.YtchodalkdejiiaaWaF
namespace Go.Proofs.Ytchodalkdejiiaa.Tab
open Go Go.RowKit Go.Proofs.Ytchodalkdejiiaa.Sy Go.Proofs.Ytchodalkdejiiaa.Wa

noncomputable def rdIntsOb (n : Nat) : Option Ob → Option (List Int)
  | some o => if Nat.beq o.t 3 && Nat.beq (lenR o.cs) n && Nat.ble n 1000000 then intsOf o.cs else none
  | none => none
noncomputable def rdInts (m : Mem) : At → Option (List Int)
  | .lit (.slice none 0 0) => some []
  | .sl i n => rdIntsOb n (m.H.get i)
  | _ => none

noncomputable def rdForm (m : Mem) : List At → Option Fm
  | [a0, a1, a2, a3, a4, a5, a6, a7, .lit (.bool v), a9] =>
    match intOfAt a0, rdInts m a1, rdInts m a2, intOfAt a3, intOfAt a4, intOfAt a5, intOfAt a6, intOfAt a7, intOfAt a9 with
    | some op, some sh, some sl, some pre, some map, some code, some digit, some w, some l => some ⟨op, sh, sl, pre, map, code, digit, w, v, l⟩
    | _, _, _, _, _, _, _, _, _ => none
  | _ => none

noncomputable def rdForms (m : Mem) : Nat → List At → Option (List Fm)
  | 0, _ => some []
  | n + 1, cs => match rdForm m (takeR cs 10), rdForms m n (dropR cs 10) with
    | some f, some r => some (f :: r)
    | _, _ => none

noncomputable def rdTab (m : Mem) (n : Nat) : Option Ob → Option (List Fm)
  | some o => if Nat.beq o.t 32 && Nat.ble n 1000000 then rdForms m n o.cs else none
  | none => none
noncomputable def tabOf : Option (SV × Mem) → Option (List Fm)
  | some (.one (.sl id n), m) => rdTab m n (m.H.get id)
  | _ => none

theorem intOfAt_some {a : At} {n : Int} (h : intOfAt a = some n) : a = .lit (.int .i64 n) := by
  unfold intOfAt at h
  split at h
  · cases h; rfl
  · cases h
theorem intsOf_some : ∀ {l : List At} {xs : List Int}, intsOf l = some xs → l = xs.map fun n => .lit (.int .i64 n)
  | [], xs, h => by simp only [intsOf, Option.some.injEq] at h; subst h; rfl
  | a :: l, xs, h => by
    simp only [intsOf] at h
    split at h
    · rename_i n r h1 h2
      cases h
      rw [intOfAt_some h1, intsOf_some h2]
      rfl
    · cases h

section
variable {D : Nat → Prop} {V : Va} {w0 w : World} {m : Mem}

theorem rdInts_at (hm : RelM D V m w) {a : At} {xs : List Int} (h : rdInts m a = some xs) : IntsAt w (a.val V) xs := by
  unfold rdInts at h
  split at h
  · cases h
    exact ⟨none, 0, rfl, by simp, fun h => absurd h (by simp)⟩
  · rename_i i n
    unfold rdIntsOb at h
    split at h
    case h_2 => cases h
    rename_i o ho
    split at h
    case isFalse => cases h
    rename_i hb
    simp only [Bool.and_eq_true, lenR_eq] at hb
    obtain ⟨⟨b1, b2⟩, b3⟩ := hb
    have e1 : o.t = 3 := Nat.eq_of_beq_eq_true b1
    have e2 : o.cs.length = n := Nat.eq_of_beq_eq_true b2
    have e3 : n ≤ 1000000 := Nat.le_of_ble_eq_true b3
    have e4 := intsOf_some h
    have e5 : xs.length = n := by rw [← e2, e4, List.length_map]
    obtain ⟨_, _, hob⟩ := hm.ob i o ho
    obtain ⟨cur, c1, c2, c3, c4, c5⟩ := hob.ex
    refine ⟨some ⟨V.blk i, 0, none⟩, V.cap i, by rw [e5]; rfl, by omega, fun _ => ⟨V.blk i, rfl, (Array.getElem?_eq_some_iff.1 c1).1, fun j u hu => ?_⟩⟩
    rw [cell_of_row w _ j cur o.t (0, 0) c1]
    have : o.cs[j]? = some (.lit (.int .i64 u)) := by rw [e4, List.getElem?_map, hu]; rfl
    exact c5 j _ this
  · cases h

theorem rdInts_iw (hm : RelM D V m w) (hB : ∀ i o, m.H.get i = some o → w0.heap.size ≤ V.blk i) {a : At} {xs : List Int} (h : rdInts m a = some xs) : IW w w0.heap.size (a.val V) := by
  unfold rdInts at h
  split at h
  · exact ⟨none, 0, 0, rfl, by simp, fun h => absurd h (by simp)⟩
  · rename_i i n
    unfold rdIntsOb at h
    split at h
    case h_2 => cases h
    rename_i o ho
    split at h
    case isFalse => cases h
    rename_i hb
    simp only [Bool.and_eq_true, lenR_eq] at hb
    obtain ⟨⟨b1, b2⟩, b3⟩ := hb
    have e1 : o.t = 3 := Nat.eq_of_beq_eq_true b1
    have e2 : o.cs.length = n := Nat.eq_of_beq_eq_true b2
    obtain ⟨_, _, hob⟩ := hm.ob i o ho
    obtain ⟨cur, c1, c2, c3, c4, c5⟩ := hob.ex
    exact ⟨some ⟨V.blk i, 0, none⟩, V.cap i, n, rfl, Nat.le_of_ble_eq_true b3, fun _ => ⟨V.blk i, cur, rfl, hB i o ho, by rw [← e1]; exact c1, by omega⟩⟩
  · cases h

theorem rdForm_some {l : List At} {f : Fm} (h : rdForm m l = some f) : ∃ a1 a2, rdInts m a1 = some f.sh ∧ rdInts m a2 = some f.sl ∧ l.length = 10 ∧ l[1]? = some a1 ∧ l[2]? = some a2 ∧ ∀ V : Va, l.map (At.val V) = f.cells (a1.val V) (a2.val V) := by
  unfold rdForm at h
  split at h
  case h_2 => cases h
  rename_i a0 a1 a2 a3 a4 a5 a6 a7 v a9
  split at h
  case h_2 => cases h
  rename_i op sh sl pre map code digit w l h0 h1 h2 h3 h4 h5 h6 h7 h9
  cases h
  refine ⟨a1, a2, h1, h2, rfl, rfl, rfl, fun V => ?_⟩
  rw [intOfAt_some h0, intOfAt_some h3, intOfAt_some h4, intOfAt_some h5, intOfAt_some h6, intOfAt_some h7, intOfAt_some h9]
  rfl

theorem rdForms_some : ∀ {n : Nat} {cs : List At} {fs : List Fm}, rdForms m n cs = some fs → fs.length = n ∧ n * 10 ≤ cs.length ∧ ∀ (j : Nat) (f : Fm), fs[j]? = some f →
    ∃ a1 a2, rdInts m a1 = some f.sh ∧ rdInts m a2 = some f.sl ∧ cs[j * 10 + 1]? = some a1 ∧ cs[j * 10 + 2]? = some a2 ∧ ∀ (V : Va) (i : Nat) (u : Value), (f.cells (a1.val V) (a2.val V))[i]? = some u → (cs[j * 10 + i]?).map (At.val V) = some u
  | 0, cs, fs, h => by
    simp only [rdForms, Option.some.injEq] at h
    subst h
    exact ⟨rfl, by simp, fun j f hj => by simp at hj⟩
  | n + 1, cs, fs, h => by
    simp only [rdForms, takeR_eq, dropR_eq] at h
    split at h
    case h_2 => cases h
    rename_i f r hf hr
    cases h
    obtain ⟨a1, a2, h1, h2, h3, h4, h5, h6⟩ := rdForm_some hf
    obtain ⟨k1, k2, k3⟩ := rdForms_some hr
    have hlen : 10 ≤ cs.length := by
      rw [List.length_take] at h3
      omega
    have htk : ∀ i, i < 10 → (cs.take 10)[i]? = cs[i]? := fun i hi => by rw [List.getElem?_take, if_pos hi]
    refine ⟨by simp [k1], by rw [List.length_drop] at k2; omega, fun j g hj => ?_⟩
    cases j with
    | zero =>
      simp only [List.getElem?_cons_zero, Option.some.injEq] at hj
      subst hj
      refine ⟨a1, a2, h1, h2, by rw [← h4, htk 1 (by decide)], by rw [← h5, htk 2 (by decide)], fun V i u hu => ?_⟩
      have hi : i < 10 := (List.getElem?_eq_some_iff.1 hu).1
      rw [Nat.zero_mul, Nat.zero_add, ← htk i hi, ← List.getElem?_map, h6 V]
      exact hu
    | succ j =>
      rw [List.getElem?_cons_succ] at hj
      obtain ⟨b1, b2, g1, g2, g3, g4, g5⟩ := k3 j g hj
      have e : ∀ i, cs[(j + 1) * 10 + i]? = (cs.drop 10)[j * 10 + i]? := fun i => by rw [List.getElem?_drop]; congr 1; omega
      refine ⟨b1, b2, g1, g2, by rw [e]; exact g3, by rw [e]; exact g4, fun V i u hu => ?_⟩
      rw [e]
      exact g5 V i u hu

/-- What a table is good for. -/
def TabP (w0 : World) (fs : List Fm) (e : Ending) (w : World) : Prop := ∃ v, e = .returned v ∧ FormsAt w v fs ∧ FW w w0.heap.size v ∧ Below w0.heap.size w0 w

theorem tab_sound (hm : RelM D V m w) (hB : ∀ i o, m.H.get i = some o → w0.heap.size ≤ V.blk i) {id n : Nat} {fs : List Fm} (h : rdTab m n (m.H.get id) = some fs) :
    FormsAt w ((At.sl id n).val V) fs ∧ FW w w0.heap.size ((At.sl id n).val V) := by
  unfold rdTab at h
  split at h
  case h_2 => cases h
  rename_i o ho
  split at h
  case isFalse => cases h
  rename_i hb
  simp only [Bool.and_eq_true] at hb
  have e1 : o.t = 32 := Nat.eq_of_beq_eq_true hb.1
  have e2 : n ≤ 1000000 := Nat.le_of_ble_eq_true hb.2
  obtain ⟨k1, k2, k3⟩ := rdForms_some h
  obtain ⟨_, _, hob⟩ := hm.ob id o ho
  obtain ⟨cur, c1, c2, c3, c4, c5⟩ := hob.ex
  rw [e1] at c1
  have hlt := (Array.getElem?_eq_some_iff.1 c1).1
  constructor
  · refine ⟨some ⟨V.blk id, 0, none⟩, V.cap id, by rw [k1]; rfl, by omega, fun _ => ⟨V.blk id, rfl, hlt, fun j f hj => ?_⟩⟩
    obtain ⟨a1, a2, h1, h2, h3, h4, h5⟩ := k3 j f hj
    refine ⟨_, _, rdInts_at hm h1, rdInts_at hm h2, fun i u hu => ?_⟩
    rw [cell_of_row w _ _ cur 32 (0, 0) c1]
    have := h5 V i u hu
    obtain ⟨a, ha, e⟩ := Option.map_eq_some_iff.1 this
    rw [← e]
    exact c5 _ a ha
  · refine ⟨some ⟨V.blk id, 0, none⟩, V.cap id, n, rfl, e2, fun _ => ⟨V.blk id, cur, rfl, hB id o ho, c1, by omega, fun j hj => ?_⟩⟩
    obtain ⟨f, hf⟩ : ∃ f, fs[j]? = some f := ⟨_, List.getElem?_eq_getElem (by omega)⟩
    obtain ⟨a1, a2, h1, h2, h3, h4, h5⟩ := k3 j f hf
    exact ⟨_, _, c5 _ a1 h3, c5 _ a2 h4, rdInts_iw hm hB h1, rdInts_iw hm hB h2⟩
end

/-- **A TABLE's CONTRACT OUT OF ITS RUN.** -/
theorem tab_of_run {call : CallT} (hC : CallOK (ctx (fun _ => Value.bool false) 0 fun _ _ _ => True) call) {f : FuncId} {fs : List Fm} (h : tabOf (call f [] Mem.empty) = some fs) (w : World) : Calls Try.prog f #[] w (TabP w fs) := by
  unfold tabOf at h
  split at h
  case h_2 => cases h
  rename_i id n m' hr
  obtain ⟨_, h2⟩ := hC f [] Mem.empty _ m' hr
  have h3 := h2 (fun _ => False) { blk := fun _ => 0, cap := fun _ => 0, sym := fun _ => Value.bool false, lp := 0 } w ⟨rfl, rfl⟩ (relM_empty _ _) trivial (fun s hs => by cases hs)
  refine Calls.mono (h := h3) ?_
  rintro e w' ⟨V', rfl, h4, h5, _⟩
  have hB : ∀ i o, m'.H.get i = some o → w.heap.size ≤ V'.blk i := by
    intro i o hi
    have hlt := h5.dom i (h5.ob i o hi).1
    rcases h4.fresh i (Nat.zero_le _) hlt with h1 | ⟨j, _, h2, _⟩
    · exact h1
    · exact h2.elim
  obtain ⟨t1, t2⟩ := tab_sound h5 hB h
  exact ⟨_, rfl, t1, t2, below_of_step h4 h5⟩
end Go.Proofs.Ytchodalkdejiiaa.Tab
