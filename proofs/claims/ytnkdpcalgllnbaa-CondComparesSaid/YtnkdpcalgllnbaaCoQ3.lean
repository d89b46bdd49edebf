/-
  CondCompares' runs, part 3.
-/
import Derived.Test.YtnkdpcalgllnbaaCoN
namespace Go.Proofs.Ytnkdpcalgllnbaa.Co
open Go Go.RowKit Go.Proofs.Ytnkdpcalgllnbaa.Sy
theorem comps_14 : comps 14 = true := by kernel_rfl
theorem comps_15 : comps 15 = true := by kernel_rfl
end Go.Proofs.Ytnkdpcalgllnbaa.Co
