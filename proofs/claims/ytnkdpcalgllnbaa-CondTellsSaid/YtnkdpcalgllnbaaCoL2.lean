/-
  CondTells' runs, part 2.
-/
import Derived.Test.YtnkdpcalgllnbaaCoK
namespace Go.Proofs.Ytnkdpcalgllnbaa.Co
open Go Go.RowKit Go.Proofs.Ytnkdpcalgllnbaa.Sy
theorem tells_16 : tells 16 = true := by kernel_rfl
theorem tells_17 : tells 17 = true := by kernel_rfl
end Go.Proofs.Ytnkdpcalgllnbaa.Co
