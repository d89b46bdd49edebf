/-
  CondKnown, by its run.
-/
import Derived.Test.YtnkdpcalgllnbaaCoA
namespace Go.Proofs.Ytnkdpcalgllnbaa.Co
open Go Go.RowKit Go.Proofs.Ytnkdpcalgllnbaa.Sy
theorem known_run : isTrue (call0 7 [] Mem.empty) = true := by kernel_rfl
theorem known_law (w : World) : Calls Try.prog 7 #[] w (BoolP w true) :=
  true_of_run (X := ctx S0 0 fun _ _ _ => True) (call0_ok (fun _ => rfl) li_true) known_run (fun _ _ _ => trivial) (fun _ h => by cases h) w (fun _ _ => rfl)
end Go.Proofs.Ytnkdpcalgllnbaa.Co
