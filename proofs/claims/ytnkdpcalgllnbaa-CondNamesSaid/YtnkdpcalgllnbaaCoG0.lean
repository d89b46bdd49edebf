/-
  CondNames' runs, part 0.
-/
import Derived.Test.YtnkdpcalgllnbaaCoF
namespace Go.Proofs.Ytnkdpcalgllnbaa.Co
open Go Go.RowKit Go.Proofs.Ytnkdpcalgllnbaa.Sy
theorem names_0 : ((List.range 18).all fun b => names1 0 b) = true := by kernel_rfl
theorem names_1 : ((List.range 18).all fun b => names1 1 b) = true := by kernel_rfl
theorem names_2 : ((List.range 18).all fun b => names1 2 b) = true := by kernel_rfl
theorem names_3 : ((List.range 18).all fun b => names1 3 b) = true := by kernel_rfl
theorem names_4 : ((List.range 18).all fun b => names1 4 b) = true := by kernel_rfl
theorem names_5 : ((List.range 18).all fun b => names1 5 b) = true := by kernel_rfl
end Go.Proofs.Ytnkdpcalgllnbaa.Co
