/-
  The flow laws: contracts of what they call; FlowRows, FlowOf.
-/
import Derived.Test.YtchodalkdejiiaaTaB
import Derived.Test.YtchodalkdejiiaaTaD
import Derived.Test.YtchodalkdejiiaaTaH
import Derived.Test.YtchodalkdejiiaaLaZ
namespace Go.Proofs.Ytchodalkdejiiaa.La
open Go Go.RowKit Go.Proofs.Ytchodalkdejiiaa.Sy Go.Proofs.Ytchodalkdejiiaa.Wa Go.Proofs.Ytchodalkdejiiaa.Tab

theorem rows15 (w : World) : Calls Try.prog 15 #[] w (TabP w flowTab) := tab_of_run (callT_ok (fun _ => rfl) li_true) flow_run w
theorem ref15 (w : World) : Calls Try.prog 17 #[] w (TabP w flowTab) := tab_of_run (callT_ok (fun _ => rfl) li_true) ref15_run w
theorem awake15 (w : World) : Calls Try.prog 19 #[] w (FormP w true) := true_of_run (callT_ok (fun _ => rfl) li_true) awake15_run w

theorem flow_rows_law (w : World) : Calls Try.prog 3 #[] w (FormP w true) := by
  go_enter Try.func3, Try.ntmps3
  go_wp2_with fail
  refine (rows15 w).mono ?_
  rintro e w1 ⟨v, rfl, hA, hF, hB⟩
  have KA := Lib.hid hA
  have KF := Lib.hid hF
  have B1 := Lib.hid hB
  clear hA hF hB
  go_wp2_with fail
  refine (ref15 w1).mono ?_
  rintro e w2 ⟨u, rfl, hA, _, hB⟩
  have KA2 := Lib.hid hA
  have B2 := Lib.hid hB
  clear hA hB
  go_wp2_with fail
  refine (same_forms_yes w2 v u flowTab (KA.out.below B2.out) KA2.out).mono ?_
  rintro e w3 ⟨rfl, hB⟩
  have B3 := Lib.hid hB
  clear hB
  go_wp2_with fail
  refine (over_forms w3 w.heap.size v (fw_below (fw_below KF.out B2.out) B3.out)).mono ?_
  rintro e w4 ⟨rfl, hB⟩
  have B4 : Hid (Below w.heap.size w w4) := Lib.hid ((bel (bel B1.out B2.out) B3.out).trans hB.below)
  clear hB B1 B2 B3 KA KF KA2
  go_wp2_with fail
  refine (rows15 w4).mono ?_
  rintro e w5 ⟨v, rfl, hA, _, hB⟩
  have KA := Lib.hid hA
  have B5 := Lib.hid hB
  clear hA hB
  go_wp2_with fail
  refine (ref15 w5).mono ?_
  rintro e w6 ⟨u, rfl, hA, _, hB⟩
  have KA2 := Lib.hid hA
  have B6 := Lib.hid hB
  clear hA hB
  go_wp2_with fail
  refine (same_forms_yes w6 v u flowTab (KA.out.below B6.out) KA2.out).mono ?_
  rintro e w7 ⟨rfl, hB⟩
  have B7 := Lib.hid hB
  clear hB
  go_wp2_with fail
  refine (awake15 w7).mono ?_
  rintro e w8 ⟨rfl, hB⟩
  have B8 := Lib.hid (bel (bel (bel (bel B4.out B5.out) B6.out) B7.out) hB)
  clear hB B4 B5 B6 B7 KA KA2
  go_wp2
  go_ret
  exact ⟨rfl, B8.out⟩

theorem flow_of_law (w : World) (op : Int) : Calls Try.prog 4 #[.int .i64 op] w (FormP w true) := by
  go_enter Try.func4, Try.ntmps4
  go_wp2_with fail
  refine (rows15 w).mono ?_
  rintro e w1 ⟨v, rfl, hA, _, hB⟩
  have KA := Lib.hid hA
  have B1 := Lib.hid hB
  clear hA hB
  go_wp2_with fail
  refine (forms_of w1 v flowTab op KA.out).mono ?_
  rintro e w2 ⟨v1, rfl, hA, hB⟩
  have KA1 := Lib.hid hA
  have B2 := Lib.hid (bel B1.out hB)
  clear hA hB KA B1
  go_wp2_with fail
  refine (ref15 w2).mono ?_
  rintro e w3 ⟨u, rfl, hA, _, hB⟩
  have KA := Lib.hid hA
  have B3 := Lib.hid hB
  clear hA hB
  go_wp2_with fail
  refine (forms_of w3 u flowTab op KA.out).mono ?_
  rintro e w4 ⟨u1, rfl, hA, hB⟩
  have KA2 := Lib.hid hA
  have B4 := Lib.hid hB
  clear hA hB KA
  go_wp2_with fail
  refine (same_forms_yes w4 v1 u1 (ofOp flowTab op) ((KA1.out.below B3.out).below B4.out) KA2.out).mono ?_
  rintro e w5 ⟨rfl, hB⟩
  have B5 := Lib.hid (bel (bel (bel B2.out B3.out) B4.out) hB)
  clear hB B2 B3 B4 KA1 KA2
  go_wp2_with fail
  refine (awake15 w5).mono ?_
  rintro e w6 ⟨rfl, hB⟩
  have B6 := Lib.hid (bel B5.out hB)
  clear hB B5
  go_wp2
  go_ret
  exact ⟨rfl, B6.out⟩
end Go.Proofs.Ytchodalkdejiiaa.La
