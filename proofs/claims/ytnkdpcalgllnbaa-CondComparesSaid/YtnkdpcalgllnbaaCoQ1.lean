/-
  CondCompares' runs, part 1.
-/
import Derived.Test.YtnkdpcalgllnbaaCoN
namespace Go.Proofs.Ytnkdpcalgllnbaa.Co
open Go Go.RowKit Go.Proofs.Ytnkdpcalgllnbaa.Sy
theorem comps_6 : comps 6 = true := by kernel_rfl
theorem comps_7 : comps 7 = true := by kernel_rfl
theorem comps_8 : comps 8 = true := by kernel_rfl
theorem comps_9 : comps 9 = true := by kernel_rfl
theorem comps_10 : comps 10 = true := by kernel_rfl
end Go.Proofs.Ytnkdpcalgllnbaa.Co
