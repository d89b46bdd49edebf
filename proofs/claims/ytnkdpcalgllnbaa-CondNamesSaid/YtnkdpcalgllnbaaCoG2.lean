/-
  CondNames' runs, part 2.
-/
import Derived.Test.YtnkdpcalgllnbaaCoF
namespace Go.Proofs.Ytnkdpcalgllnbaa.Co
open Go Go.RowKit Go.Proofs.Ytnkdpcalgllnbaa.Sy
theorem names_10 : ((List.range 18).all fun b => names1 10 b) = true := by kernel_rfl
theorem names_11 : ((List.range 18).all fun b => names1 11 b) = true := by kernel_rfl
theorem names_12 : ((List.range 18).all fun b => names1 12 b) = true := by kernel_rfl
theorem names_13 : ((List.range 18).all fun b => names1 13 b) = true := by kernel_rfl
theorem names_14 : ((List.range 18).all fun b => names1 14 b) = true := by kernel_rfl
end Go.Proofs.Ytnkdpcalgllnbaa.Co
