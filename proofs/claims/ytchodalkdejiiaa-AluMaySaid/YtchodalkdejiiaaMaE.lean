/-
  A table's contract with its rows as shape.Check takes them; shape.Check's contract.
-/
import Derived.Test.YtchodalkdejiiaaMaB
import Derived.Test.YtchodalkdejiiaaLaZ
namespace Go.Proofs.Ytchodalkdejiiaa.Ma
open Go Go.RowKit Go.Proofs.Ytchodalkdejiiaa.Sy Go.Proofs.Ytchodalkdejiiaa.Wa Go.Proofs.Ytchodalkdejiiaa.Tab

def TabR (w0 : World) (fs : List Fm) (e : Ending) (w : World) : Prop :=
  ∃ b c, e = .returned (.slice (some ⟨b, 0, none⟩) fs.length c) ∧ b < w.heap.size ∧ (∀ (j : Nat) (f : Fm), fs[j]? = some f → RowAt w b j f) ∧ Below w0.heap.size w0 w

theorem tabR_of_run {call : CallT} (hC : CallOK (ctx (fun _ => Value.bool false) 0 fun _ _ _ => True) call) {f : FuncId} {fs : List Fm} (h : tabOf (call f [] Mem.empty) = some fs) (hs : sepOf (call f [] Mem.empty) = true) (w : World) : Calls Try.prog f #[] w (TabR w fs) := by
  unfold tabOf at h
  split at h
  case h_2 => cases h
  rename_i id n m' hr
  rw [hr] at hs
  obtain ⟨_, h2⟩ := hC f [] Mem.empty _ m' hr
  have h3 := h2 (fun _ => False) { blk := fun _ => 0, cap := fun _ => 0, sym := fun _ => Value.bool false, lp := 0 } w ⟨rfl, rfl⟩ (relM_empty _ _) trivial (fun s hs => by cases hs)
  refine Calls.mono (h := h3) ?_
  rintro e w' ⟨V', rfl, h4, h5, _⟩
  unfold rdTab at h
  split at h
  case h_2 => cases h
  rename_i o ho
  split at h
  case isFalse => cases h
  rename_i hb
  simp only [Bool.and_eq_true] at hb
  have e1 : o.t = 32 := Nat.eq_of_beq_eq_true hb.1
  obtain ⟨k1, k2, k3⟩ := rdForms_some h
  obtain ⟨_, _, hob⟩ := h5.ob id o ho
  obtain ⟨cur, c1, c2, c3, c4, c5⟩ := hob.ex
  rw [e1] at c1
  simp only [sepOf, ho, sepOb] at hs
  refine ⟨V'.blk id, V'.cap id, by rw [k1]; rfl, (Array.getElem?_eq_some_iff.1 c1).1, fun j g hj => ?_, below_of_step h4 h5⟩
  obtain ⟨a1, a2, r1, r2, r3, r4, r5⟩ := k3 j g hj
  have hjn : j < n := by rw [← k1]; exact (List.getElem?_eq_some_iff.1 hj).1
  obtain ⟨D2, V2, ⟨y1, y2⟩, q1, q2, q3, q4, q5⟩ := row_of h5 r1 r2 (sepRows_at hs j a1 a2 hjn r3 r4)
  refine ⟨D2, V2, ⟨y1.trans h4.agree.sym, y2.trans h4.agree.lp⟩, q1, ?_, a1.val V', a2.val V', ?_, fun i u hu => ?_⟩
  · intro a ha
    simp only [List.mem_cons, List.not_mem_nil, or_false] at ha
    rcases ha with rfl | rfl | rfl | rfl | rfl | rfl | rfl | rfl | rfl | rfl
    all_goals first | trivial | exact q2 | exact q3
  · simp only [argOf, SV.val, List.map_cons, List.map_nil, q4, q5]
    rfl
  · rw [cell_of_row w' _ _ cur 32 (0, 0) c1]
    obtain ⟨a, ha, e⟩ := Option.map_eq_some_iff.1 (r5 V' i u hu)
    rw [← e]
    exact c5 _ a ha

theorem relM_below {D : Nat → Prop} {V : Va} {w w' : World} {m : Mem} (hm : RelM D V m w) (hb : Below w.heap.size w w') : RelM D V m w' := by
  refine ⟨hm.dom, fun i o hi => ?_, hm.inj, hm.mlt⟩
  obtain ⟨h1, h2, h3⟩ := hm.ob i o hi
  exact ⟨h1, h2, h3.kept h1 h2 (.refl _ _) (hb.block _ h3.lt)⟩
def ZeroP (w : World) (e : Ending) (w' : World) : Prop := e = .returned (.int .i64 0) ∧ Below w.heap.size w w'

theorem check_row {w : World} {b j : Nat} {f : Fm} (h : RowAt w b j f) (hc : checks f = true) : ∃ A1 n1 c1 A2 n2 c2, w.rangeAt b (j * 10) (f.cells (.slice A1 n1 c1) (.slice A2 n2 c2)) ∧ ∀ W, Below w.heap.size w W → Calls Try.prog 27 #[.agg (f.cells (.slice A1 n1 c1) (.slice A2 n2 c2)).toArray] W (ZeroP W) := by
  obtain ⟨D, V, ⟨hy1, hy2⟩, hm, hon, s, t, hv, hr⟩ := h
  unfold checks isZero at hc
  split at hc
  case h_2 => cases hc
  rename_i m' hrun
  have hsl : ∀ (k : Nat) (xs : List Int), ∃ A n c, (slOf k xs).val V = .slice A n c := fun k xs => by cases xs <;> exact ⟨_, _, _, rfl⟩
  simp only [argOf, SV.val, List.map_cons, List.map_nil, Fm.cells, Value.agg.injEq] at hv
  have hs : s = (slOf 0 f.sh).val V := by
    have := congrArg (fun l : Array Value => l[1]?) hv
    simpa using this.symm
  have ht : t = (slOf 1 f.sl).val V := by
    have := congrArg (fun l : Array Value => l[2]?) hv
    simpa using this.symm
  obtain ⟨A1, n1, c1, x1⟩ := hsl 0 f.sh
  obtain ⟨A2, n2, c2, x2⟩ := hsl 1 f.sl
  rw [x1] at hs
  rw [x2] at ht
  subst hs
  subst ht
  refine ⟨A1, n1, c1, A2, n2, c2, hr, fun W hW => ?_⟩
  obtain ⟨_, h2⟩ := call0_ok (S := fun _ => Value.bool false) (lp := 0) (fun _ => rfl) li_true 27 [argOf f] (memOf f) _ m' hrun
  have h3 := h2 D V W ⟨hy1, hy2⟩ (relM_below hm hW) trivial (fun x hx => by rw [List.mem_singleton] at hx; subst hx; exact hon)
  have e : ([argOf f].map (SV.val V)).toArray = #[.agg (f.cells (.slice A1 n1 c1) (.slice A2 n2 c2)).toArray] := by
    simp only [List.map_cons, List.map_nil, argOf, SV.val, Fm.cells]
    rw [hv]
  rw [e] at h3
  refine Calls.mono (h := h3) ?_
  rintro e w' ⟨V', rfl, h4, h5, _⟩
  refine ⟨rfl, ⟨h4.os, h4.tape, h4.output, h4.oth.size, fun k hk => h4.same k hk fun i hi => ?_⟩⟩
  have h6 : 2 ≤ i := Nat.le_of_ble_eq_true (List.all_eq_true.1 hc i hi)
  rcases h4.fresh i h6 (h5.dom i (h5.mlt i hi)) with h7 | ⟨j1, hj1, hD, _⟩
  · omega
  · have h8 : 2 ≤ j1 := Nat.le_of_ble_eq_true (List.all_eq_true.1 hc j1 hj1)
    have h9 : j1 < 2 := hm.dom j1 hD
    omega
end Go.Proofs.Ytchodalkdejiiaa.Ma
