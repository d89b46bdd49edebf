/-
  AluKnown walked.
-/
import Derived.Test.YtchodalkdejiiaaLbA
namespace Go.Proofs.Ytchodalkdejiiaa.Lb
open Go Go.RowKit Go.Proofs.Ytchodalkdejiiaa.La Go.Proofs.Ytchodalkdejiiaa.Sy Go.Proofs.Ytchodalkdejiiaa.Wa Go.Proofs.Ytchodalkdejiiaa.Tab

theorem n1 : (ofOp aluTab 1).length = 19 := by kernel_rfl
theorem n9 : (ofOp aluTab 9).length = 16 := by kernel_rfl
theorem n15 : (ofOp aluTab 15).length = 1 := by kernel_rfl
theorem n16 : (ofOp aluTab 16).length = 9 := by kernel_rfl

theorem alu_known_law (w : World) : Calls Try.prog 12 #[] w (FormP w true) := by
  go_enter Try.func12, Try.ntmps12
  go_wp2_with fail
  refine (rows24 w).mono ?_
  rintro e w1 ⟨v, rfl, hA, _, hB⟩
  have KA := Lib.hid hA
  have B1 := Lib.hid hB
  clear hA hB
  go_wp2_with fail
  refine (awake13 w1).mono ?_
  rintro e w2 ⟨rfl, hB⟩
  have B2 := Lib.hid hB
  clear hB
  go_wp2_with fail
  refine (forms_len w2 v aluTab 1 19 (KA.out.below B2.out) n1).mono ?_
  rintro e w3 ⟨A3, c3, rfl, hB⟩
  have B3 := Lib.hid hB
  clear hB
  go_wp2_with fail
  refine (forms_len w3 v aluTab 9 16 ((KA.out.below B2.out).below B3.out) n9).mono ?_
  rintro e w4 ⟨A4, c4, rfl, hB⟩
  have B4 := Lib.hid hB
  clear hB
  go_wp2_with fail
  refine (forms_len w4 v aluTab 15 1 (((KA.out.below B2.out).below B3.out).below B4.out) n15).mono ?_
  rintro e w5 ⟨A5, c5, rfl, hB⟩
  have B5 := Lib.hid hB
  clear hB
  go_wp2_with fail
  refine (forms_len w5 v aluTab 16 9 ((((KA.out.below B2.out).below B3.out).below B4.out).below B5.out) n16).mono ?_
  rintro e w6 ⟨A6, c6, rfl, hB⟩
  have B6 := Lib.hid (bel (bel (bel (bel (bel B1.out B2.out) B3.out) B4.out) B5.out) hB)
  clear hB B1 B2 B3 B4 B5 KA
  go_wp2
  go_ret
  exact ⟨rfl, B6.out⟩
end Go.Proofs.Ytchodalkdejiiaa.Lb
