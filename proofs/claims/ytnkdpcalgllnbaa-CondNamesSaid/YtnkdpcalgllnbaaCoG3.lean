/-
  CondNames' runs, part 3.
-/
import Derived.Test.YtnkdpcalgllnbaaCoF
namespace Go.Proofs.Ytnkdpcalgllnbaa.Co
open Go Go.RowKit Go.Proofs.Ytnkdpcalgllnbaa.Sy
theorem names_15 : ((List.range 18).all fun b => names1 15 b) = true := by kernel_rfl
theorem names_16 : ((List.range 18).all fun b => names1 16 b) = true := by kernel_rfl
theorem names_17 : ((List.range 18).all fun b => names1 17 b) = true := by kernel_rfl
end Go.Proofs.Ytnkdpcalgllnbaa.Co
