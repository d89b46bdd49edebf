/-
  CondCompares' runs, part 2.
-/
import Derived.Test.YtnkdpcalgllnbaaCoN
namespace Go.Proofs.Ytnkdpcalgllnbaa.Co
open Go Go.RowKit Go.Proofs.Ytnkdpcalgllnbaa.Sy
theorem comps_11 : comps 11 = true := by kernel_rfl
theorem comps_12 : comps 12 = true := by kernel_rfl
theorem comps_13 : comps 13 = true := by kernel_rfl
end Go.Proofs.Ytnkdpcalgllnbaa.Co
