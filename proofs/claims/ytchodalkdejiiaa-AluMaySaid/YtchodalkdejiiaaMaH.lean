/-
  AluMay walked.
-/
import Derived.Test.YtchodalkdejiiaaLbA
import Derived.Test.YtchodalkdejiiaaLaY
import Derived.Test.YtchodalkdejiiaaMaE
namespace Go.Proofs.Ytchodalkdejiiaa.Ma
open Go Go.RowKit Go.Proofs.Ytchodalkdejiiaa.Sy Go.Proofs.Ytchodalkdejiiaa.Wa Go.Proofs.Ytchodalkdejiiaa.Tab Go.Proofs.Ytchodalkdejiiaa.La Go.Proofs.Ytchodalkdejiiaa.Lb

theorem alu_sep : sepOf (callRf 24 [] Mem.empty) = true := by kernel_rfl
theorem rowsR24 (w : World) : Calls Try.prog 24 #[] w (TabR w aluTab) := tabR_of_run (callRf_ok (fun _ => rfl) li_true) alu_run alu_sep w

/-- The law's tests. -/
noncomputable def mayB13 (f : Fm) : Bool := decide (1 ≤ f.op) && decide (f.op ≤ 16) && !f.vex && f.l == 0 && (f.w == 1 && f.pre == 0 || f.w == 0 && (f.pre == 0 || f.pre == 1))
theorem alu_may : aluTab.all mayB13 = true := by kernel_rfl
theorem alu_length' : aluTab.length = 207 := by kernel_rfl
set_option maxHeartbeats 4000000 in
theorem alu_may_of (hchk : ∀ (k : Nat) (f : Fm), k < 207 → aluTab[k]? = some f → checks f = true) (w : World) (x : Int) : Calls Try.prog 14 #[.int .i64 x] w (FormP w true) := by
  obtain ⟨i, hxi, hi⟩ := pick_lt x 207 (by decide)
  obtain ⟨f, hf⟩ : ∃ f, aluTab[i]? = some f := ⟨_, List.getElem?_eq_getElem (by rw [alu_length']; exact hi)⟩
  have hmay := List.all_eq_true.1 alu_may f (List.mem_of_getElem? hf)
  simp only [mayB13, Bool.and_eq_true, Bool.or_eq_true, decide_eq_true_eq, Bool.not_eq_true', beq_iff_eq] at hmay
  obtain ⟨⟨⟨⟨m1, m2⟩, m3⟩, m4⟩, m5⟩ := hmay
  have HM : Hid (((f.w == 1) = true ∧ (f.pre == 0) = true) ∨ ((f.w == 1) = false ∧ (f.w == 0) = true ∧ (f.pre == 0) = true) ∨ ((f.w == 1) = false ∧ (f.w == 0) = true ∧ (f.pre == 0) = false ∧ (f.pre == 1) = true)) := by
    apply Lib.hid
    rcases m5 with ⟨a, b⟩ | ⟨a, b | b⟩
    · exact .inl (by simp [a, b])
    · exact .inr (.inl (by simp [a, b]))
    · exact .inr (.inr (by simp [a, b]))
  have HC := Lib.hid (hchk i f hi hf)
  have HP := Lib.hid hxi
  have HF := Lib.hid hf
  have HV := Lib.hid (And.intro m3 m4)
  clear hxi hf m3 m4 m5 hchk
  go_enter Try.func14, Try.ntmps14
  go_wp2_with fail
  refine (awake13 w).mono ?_
  rintro e w1 ⟨rfl, hB⟩
  have B1 := Lib.hid hB
  clear hB
  go_wp2_with fail
  refine (rowsR24 w1).mono ?_
  rintro e w2 ⟨b, c, rfl, hbl, hrow, hB⟩
  rw [alu_length']
  obtain ⟨A1, l1, c1, A2, l2, c2, r1, hcall⟩ := check_row (hrow i f HF.out) HC.out
  have B2 := Lib.hid (bel B1.out hB)
  have KC : Hid (∀ W, Below w2.heap.size w2 W → Calls Try.prog 27 #[.agg #[.int .i64 f.op, .slice A1 l1 c1, .slice A2 l2 c2, .int .i64 f.pre, .int .i64 f.map, .int .i64 f.code, .int .i64 f.digit, .int .i64 f.w, .bool false, .int .i64 f.l]] W (ZeroP W)) :=
    Lib.hid fun W hW => by have h := hcall W hW; simp only [Fm.cells, HV.out.1] at h; exact h
  obtain ⟨p0, p1, p2, p3, p4, p5, p6, p7, p8, p9⟩ := form_cells r1
  clear hB B1 hrow hcall r1
  go_wp2_with fail
  refine (pick_nat w2 x 207 i (by decide) (by decide) HP.out).mono ?_
  rintro e w' ⟨rfl, rfl⟩
  rcases HM.out with ⟨y1, y2⟩ | ⟨y1, y2, y3⟩ | ⟨y1, y2, y3, y4⟩
  all_goals
    clear HM
    have h0 : (0 : Int) ≤ (i : Int) := by omega
    have h1 : (i : Int) < (207 : Int) := by omega
    have x1 : f.vex = false := HV.out.1
    have x2 : (f.l == 0) = true := by simp [HV.out.2]
    go_wp2_with fail
    refine (KC.out _ ((Below.refl _ _).alloc (Nat.le_refl _) _)).mono ?_
    rintro e w3 ⟨rfl, hB⟩
    have hlt : w2.heap.size < (w2.alloc (.cells #[.int .i64 f.op, .slice A1 l1 c1, .slice A2 l2 c2, .int .i64 f.pre, .int .i64 f.map, .int .i64 f.code, .int .i64 f.digit, .int .i64 f.w, .bool false, .int .i64 f.l] 32)).heap.size := by simp
    have g0 : w3.cell? ⟨w2.heap.size, 0, none⟩ = some (.int .i64 f.op) := (hB.cell (p := ⟨w2.heap.size, 0, none⟩) hlt).trans (by rw [cell_of_row _ _ _ _ 32 (0, 0) (heap_alloc_new _ _)]; rfl)
    have g8 : w3.cell? ⟨w2.heap.size, 8, none⟩ = some (.bool false) := (hB.cell (p := ⟨w2.heap.size, 8, none⟩) hlt).trans (by rw [cell_of_row _ _ _ _ 32 (0, 0) (heap_alloc_new _ _)]; rfl)
    have g9 : w3.cell? ⟨w2.heap.size, 9, none⟩ = some (.int .i64 f.l) := (hB.cell (p := ⟨w2.heap.size, 9, none⟩) hlt).trans (by rw [cell_of_row _ _ _ _ 32 (0, 0) (heap_alloc_new _ _)]; rfl)
    have B3 := Lib.hid (B2.out.trans (((Below.refl _ w2).alloc (Nat.le_refl _) _).trans (hB.mono (Nat.le_of_lt hlt)) |>.mono B2.out.size))
    clear hlt hB p0 p1 p2 p3 p4 p5 p6 p7 p8 p9 KC
    go_wp2
    go_ret
    exact ⟨rfl, B3.out⟩
end Go.Proofs.Ytchodalkdejiiaa.Ma
