/-
  CondTells' runs, part 1.
-/
import Derived.Test.YtnkdpcalgllnbaaCoK
namespace Go.Proofs.Ytnkdpcalgllnbaa.Co
open Go Go.RowKit Go.Proofs.Ytnkdpcalgllnbaa.Sy
theorem tells_9 : tells 9 = true := by kernel_rfl
theorem tells_10 : tells 10 = true := by kernel_rfl
theorem tells_11 : tells 11 = true := by kernel_rfl
theorem tells_12 : tells 12 = true := by kernel_rfl
theorem tells_13 : tells 13 = true := by kernel_rfl
theorem tells_14 : tells 14 = true := by kernel_rfl
theorem tells_15 : tells 15 = true := by kernel_rfl
end Go.Proofs.Ytnkdpcalgllnbaa.Co
