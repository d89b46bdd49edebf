/-
  Walks: SameForm, case 1 (laid by gen_form.py).
-/
import Derived.Test.YtchodalkdejiiaaWaA
namespace Go.Proofs.Ytchodalkdejiiaa.Wa
open Go Go.RowKit
set_option linter.unusedVariables false
set_option maxHeartbeats 8000000 in
set_option maxRecDepth 100000 in
theorem same_form_1 (w : World) (a0 a3 a4 a5 a6 a7 a9 : Int) (b3 b4 b5 b6 b7 b9 : Int) (a8 b8 : Bool) (s t s1 t1 : Value) (xs xt ys yt : List Int)
    (hs : IntsAt w s xs) (ht : IntsAt w t xt) (hs1 : IntsAt w s1 ys) (ht1 : IntsAt w t1 yt) (h : ¬ xs = ys) :
    Calls Try.prog 23 #[.agg #[.int .i64 a0, s, t, .int .i64 a3, .int .i64 a4, .int .i64 a5, .int .i64 a6, .int .i64 a7, .bool a8, .int .i64 a9], .agg #[.int .i64 a0, s1, t1, .int .i64 b3, .int .i64 b4, .int .i64 b5, .int .i64 b6, .int .i64 b7, .bool b8, .int .i64 b9]] w (FormP w false) := by
  have B2 : ∀ (W : World), Below w.heap.size w W → IntsAt W s xs ∧ IntsAt W t xt ∧ IntsAt W s1 ys ∧ IntsAt W t1 yt := fun W hW => ⟨hs.below hW, ht.below hW, hs1.below hW, ht1.below hW⟩
  have KB := Lib.hid B2
  clear B2 hs ht hs1 ht1
  have KH := Lib.hid h
  clear h
  go_enter Try.func23, Try.ntmps23
  go_wp2_with fail
  refine (same_ints_no _ s s1 xs ys (KB.out _ (by first | exact bl2 _ _ _ | exact bl2n _ _ _ _ | exact bl2nn _ _ _ _ _)).1 (KB.out _ (by first | exact bl2 _ _ _ | exact bl2n _ _ _ _ | exact bl2nn _ _ _ _ _)).2.2.1 KH.out).mono ?_
  rintro e w1 ⟨rfl, n1, rfl⟩
  go_wp2
  go_ret
  exact ⟨rfl, by first | exact bl2 _ _ _ | exact bl2n _ _ _ _ | exact bl2nn _ _ _ _ _⟩
end Go.Proofs.Ytchodalkdejiiaa.Wa
