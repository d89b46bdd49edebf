/-
  FlowMay walked.
-/
import Derived.Test.YtchodalkdejiiaaLaA
import Derived.Test.YtchodalkdejiiaaLaY
import Derived.Test.YtchodalkdejiiaaMaE
namespace Go.Proofs.Ytchodalkdejiiaa.Ma
open Go Go.RowKit Go.Proofs.Ytchodalkdejiiaa.Sy Go.Proofs.Ytchodalkdejiiaa.Wa Go.Proofs.Ytchodalkdejiiaa.Tab Go.Proofs.Ytchodalkdejiiaa.La

theorem flow_sep : sepOf (callT 15 [] Mem.empty) = true := by kernel_rfl
theorem rowsR (w : World) : Calls Try.prog 15 #[] w (TabR w flowTab) := tabR_of_run (callT_ok (fun _ => rfl) li_true) flow_run flow_sep w

/-- The law's tests. -/
noncomputable def mayB (f : Fm) : Bool := decide (48 ≤ f.op) && decide (f.op ≤ 115) && !f.vex && f.l == 0
theorem flow_may : flowTab.all mayB = true := by kernel_rfl
theorem flow_length' : flowTab.length = 130 := by kernel_rfl
set_option maxHeartbeats 4000000 in
theorem flow_may_of (hchk : ∀ (k : Nat) (f : Fm), k < 130 → flowTab[k]? = some f → checks f = true) (w : World) (x : Int) : Calls Try.prog 13 #[.int .i64 x] w (FormP w true) := by
  obtain ⟨i, hxi, hi⟩ := pick_lt x 130 (by decide)
  obtain ⟨f, hf⟩ : ∃ f, flowTab[i]? = some f := ⟨_, List.getElem?_eq_getElem (by rw [flow_length']; exact hi)⟩
  have hmay := List.all_eq_true.1 flow_may f (List.mem_of_getElem? hf)
  simp only [mayB, Bool.and_eq_true, decide_eq_true_eq, Bool.not_eq_true', beq_iff_eq] at hmay
  obtain ⟨⟨⟨m1, m2⟩, m3⟩, m4⟩ := hmay
  have HC := Lib.hid (hchk i f hi hf)
  have HP := Lib.hid hxi
  have HF := Lib.hid hf
  have HV := Lib.hid (And.intro m3 m4)
  clear hxi hf m3 m4 hchk
  go_enter Try.func13, Try.ntmps13
  go_wp2_with fail
  refine (awake15 w).mono ?_
  rintro e w1 ⟨rfl, hB⟩
  have B1 := Lib.hid hB
  clear hB
  go_wp2_with fail
  refine (rowsR w1).mono ?_
  rintro e w2 ⟨b, c, rfl, hbl, hrow, hB⟩
  rw [flow_length']
  obtain ⟨A1, l1, c1, A2, l2, c2, r1, hcall⟩ := check_row (hrow i f HF.out) HC.out
  have B2 := Lib.hid (bel B1.out hB)
  have KC : Hid (∀ W, Below w2.heap.size w2 W → Calls Try.prog 27 #[.agg #[.int .i64 f.op, .slice A1 l1 c1, .slice A2 l2 c2, .int .i64 f.pre, .int .i64 f.map, .int .i64 f.code, .int .i64 f.digit, .int .i64 f.w, .bool false, .int .i64 f.l]] W (ZeroP W)) :=
    Lib.hid fun W hW => by have h := hcall W hW; simp only [Fm.cells, HV.out.1] at h; exact h
  obtain ⟨p0, p1, p2, p3, p4, p5, p6, p7, p8, p9⟩ := form_cells r1
  clear hB B1 hrow hcall r1
  go_wp2_with fail
  refine (pick_nat w2 x 130 i (by decide) (by decide) HP.out).mono ?_
  rintro e w' ⟨rfl, rfl⟩
  have h0 : (0 : Int) ≤ (i : Int) := by omega
  have h1 : (i : Int) < (130 : Int) := by omega
  have x1 : f.vex = false := HV.out.1
  have x2 : (f.l == 0) = true := by simp [HV.out.2]
  go_wp2_with fail
  refine (KC.out _ ((Below.refl _ _).alloc (Nat.le_refl _) _)).mono ?_
  rintro e w3 ⟨rfl, hB⟩
  have hlt : w2.heap.size < (w2.alloc (.cells #[.int .i64 f.op, .slice A1 l1 c1, .slice A2 l2 c2, .int .i64 f.pre, .int .i64 f.map, .int .i64 f.code, .int .i64 f.digit, .int .i64 f.w, .bool false, .int .i64 f.l] 32)).heap.size := by simp
  have g0 : w3.cell? ⟨w2.heap.size, 0, none⟩ = some (.int .i64 f.op) := (hB.cell (p := ⟨w2.heap.size, 0, none⟩) hlt).trans (by rw [cell_of_row _ _ _ _ 32 (0, 0) (heap_alloc_new _ _)]; rfl)
  have g8 : w3.cell? ⟨w2.heap.size, 8, none⟩ = some (.bool false) := (hB.cell (p := ⟨w2.heap.size, 8, none⟩) hlt).trans (by rw [cell_of_row _ _ _ _ 32 (0, 0) (heap_alloc_new _ _)]; rfl)
  have g9 : w3.cell? ⟨w2.heap.size, 9, none⟩ = some (.int .i64 f.l) := (hB.cell (p := ⟨w2.heap.size, 9, none⟩) hlt).trans (by rw [cell_of_row _ _ _ _ 32 (0, 0) (heap_alloc_new _ _)]; rfl)
  have B3 := Lib.hid (B2.out.trans (((Below.refl _ w2).alloc (Nat.le_refl _) _).trans (hB.mono (Nat.le_of_lt hlt)) |>.mono B2.out.size))
  clear hlt hB p0 p1 p2 p3 p4 p5 p6 p7 p8 p9 KC
  go_wp2
  go_ret
  exact ⟨rfl, B3.out⟩
end Go.Proofs.Ytchodalkdejiiaa.Ma
