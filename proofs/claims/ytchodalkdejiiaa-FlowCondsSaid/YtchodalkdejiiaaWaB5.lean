/-
  Walks: SameForm, case 5 (laid by gen_form.py).
-/
import Derived.Test.YtchodalkdejiiaaWaA
namespace Go.Proofs.Ytchodalkdejiiaa.Wa
open Go Go.RowKit
set_option linter.unusedVariables false
set_option maxHeartbeats 8000000 in
set_option maxRecDepth 100000 in
theorem same_form_5 (w : World) (a0 a3 a4 a5 a6 a7 a9 : Int) (b5 b6 b7 b9 : Int) (a8 b8 : Bool) (s t s1 t1 : Value) (xs xt : List Int)
    (hs : IntsAt w s xs) (ht : IntsAt w t xt) (hs1 : IntsAt w s1 xs) (ht1 : IntsAt w t1 xt) (h : ¬ a5 = b5) :
    Calls Try.prog 23 #[.agg #[.int .i64 a0, s, t, .int .i64 a3, .int .i64 a4, .int .i64 a5, .int .i64 a6, .int .i64 a7, .bool a8, .int .i64 a9], .agg #[.int .i64 a0, s1, t1, .int .i64 a3, .int .i64 a4, .int .i64 b5, .int .i64 b6, .int .i64 b7, .bool b8, .int .i64 b9]] w (FormP w false) := by
  have hb : (a5 == b5) = false := by simp [h]
  have B2 : ∀ (W : World), Below w.heap.size w W → IntsAt W s xs ∧ IntsAt W t xt ∧ IntsAt W s1 xs ∧ IntsAt W t1 xt := fun W hW => ⟨hs.below hW, ht.below hW, hs1.below hW, ht1.below hW⟩
  have KB := Lib.hid B2
  clear B2 hs ht hs1 ht1
  clear h
  go_enter Try.func23, Try.ntmps23
  go_wp2_with fail
  refine (same_ints_yes _ s s1 xs (KB.out _ (by first | exact bl2 _ _ _ | exact bl2n _ _ _ _ | exact bl2nn _ _ _ _ _)).1 (KB.out _ (by first | exact bl2 _ _ _ | exact bl2n _ _ _ _ | exact bl2nn _ _ _ _ _)).2.2.1).mono ?_
  rintro e w1 ⟨rfl, n1, rfl⟩
  go_wp2_with fail
  refine (same_ints_yes _ t t1 xt (KB.out _ (by first | exact bl2 _ _ _ | exact bl2n _ _ _ _ | exact bl2nn _ _ _ _ _)).2.1 (KB.out _ (by first | exact bl2 _ _ _ | exact bl2n _ _ _ _ | exact bl2nn _ _ _ _ _)).2.2.2).mono ?_
  rintro e w2 ⟨rfl, n2, rfl⟩
  go_wp2
  go_ret
  exact ⟨rfl, by first | exact bl2 _ _ _ | exact bl2n _ _ _ _ | exact bl2nn _ _ _ _ _⟩
end Go.Proofs.Ytchodalkdejiiaa.Wa
