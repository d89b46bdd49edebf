/-
  CondCompares' runs, part 0.
-/
import Derived.Test.YtnkdpcalgllnbaaCoN
namespace Go.Proofs.Ytnkdpcalgllnbaa.Co
open Go Go.RowKit Go.Proofs.Ytnkdpcalgllnbaa.Sy
theorem comps_0 : comps 0 = true := by kernel_rfl
theorem comps_1 : comps 1 = true := by kernel_rfl
theorem comps_2 : comps 2 = true := by kernel_rfl
theorem comps_3 : comps 3 = true := by kernel_rfl
theorem comps_4 : comps 4 = true := by kernel_rfl
theorem comps_5 : comps 5 = true := by kernel_rfl
end Go.Proofs.Ytnkdpcalgllnbaa.Co
