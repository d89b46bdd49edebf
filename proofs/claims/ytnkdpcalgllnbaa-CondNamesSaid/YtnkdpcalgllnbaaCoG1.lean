/-
  CondNames' runs, part 1.
-/
import Derived.Test.YtnkdpcalgllnbaaCoF
namespace Go.Proofs.Ytnkdpcalgllnbaa.Co
open Go Go.RowKit Go.Proofs.Ytnkdpcalgllnbaa.Sy
theorem names_6 : ((List.range 18).all fun b => names1 6 b) = true := by kernel_rfl
theorem names_7 : ((List.range 18).all fun b => names1 7 b) = true := by kernel_rfl
theorem names_8 : ((List.range 18).all fun b => names1 8 b) = true := by kernel_rfl
theorem names_9 : ((List.range 18).all fun b => names1 9 b) = true := by kernel_rfl
end Go.Proofs.Ytnkdpcalgllnbaa.Co
