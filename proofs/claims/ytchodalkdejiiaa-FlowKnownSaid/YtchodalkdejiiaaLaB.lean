/-
  FlowKnown walked.
-/
import Derived.Test.YtchodalkdejiiaaLaA
namespace Go.Proofs.Ytchodalkdejiiaa.La
open Go Go.RowKit Go.Proofs.Ytchodalkdejiiaa.Sy Go.Proofs.Ytchodalkdejiiaa.Wa Go.Proofs.Ytchodalkdejiiaa.Tab

theorem n48 : (ofOp flowTab 48).length = 6 := by kernel_rfl
theorem n72 : (ofOp flowTab 72).length = 2 := by kernel_rfl
theorem n104 : (ofOp flowTab 104).length = 3 := by kernel_rfl
theorem n58 : (ofOp flowTab 58).length = 1 := by kernel_rfl

theorem flow_known_law (w : World) : Calls Try.prog 6 #[] w (FormP w true) := by
  go_enter Try.func6, Try.ntmps6
  go_wp2_with fail
  refine (rows15 w).mono ?_
  rintro e w1 ⟨v, rfl, hA, _, hB⟩
  have KA := Lib.hid hA
  have B1 := Lib.hid hB
  clear hA hB
  go_wp2_with fail
  refine (awake15 w1).mono ?_
  rintro e w2 ⟨rfl, hB⟩
  have B2 := Lib.hid hB
  clear hB
  go_wp2_with fail
  refine (forms_len w2 v flowTab 48 6 (KA.out.below B2.out) n48).mono ?_
  rintro e w3 ⟨A3, c3, rfl, hB⟩
  have B3 := Lib.hid hB
  clear hB
  go_wp2_with fail
  refine (forms_len w3 v flowTab 72 2 ((KA.out.below B2.out).below B3.out) n72).mono ?_
  rintro e w4 ⟨A4, c4, rfl, hB⟩
  have B4 := Lib.hid hB
  clear hB
  go_wp2_with fail
  refine (forms_len w4 v flowTab 104 3 (((KA.out.below B2.out).below B3.out).below B4.out) n104).mono ?_
  rintro e w5 ⟨A5, c5, rfl, hB⟩
  have B5 := Lib.hid hB
  clear hB
  go_wp2_with fail
  refine (forms_len w5 v flowTab 58 1 ((((KA.out.below B2.out).below B3.out).below B4.out).below B5.out) n58).mono ?_
  rintro e w6 ⟨A6, c6, rfl, hB⟩
  have B6 := Lib.hid (bel (bel (bel (bel (bel B1.out B2.out) B3.out) B4.out) B5.out) hB)
  clear hB B1 B2 B3 B4 B5 KA
  go_wp2
  go_ret
  exact ⟨rfl, B6.out⟩
end Go.Proofs.Ytchodalkdejiiaa.La
