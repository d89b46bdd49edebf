/-
  CondTells' runs, part 0.
-/
import Derived.Test.YtnkdpcalgllnbaaCoK
namespace Go.Proofs.Ytnkdpcalgllnbaa.Co
open Go Go.RowKit Go.Proofs.Ytnkdpcalgllnbaa.Sy
theorem tells_long : isTrue (callT (fun _ _ => none) true 5 [.one (.sym 0), .one (.sym 7), .agg (fl none none none none none)] Mem.empty) = true := by kernel_rfl
theorem tells_0 : tells 0 = true := by kernel_rfl
theorem tells_1 : tells 1 = true := by kernel_rfl
theorem tells_2 : tells 2 = true := by kernel_rfl
theorem tells_3 : tells 3 = true := by kernel_rfl
theorem tells_4 : tells 4 = true := by kernel_rfl
theorem tells_5 : tells 5 = true := by kernel_rfl
theorem tells_6 : tells 6 = true := by kernel_rfl
theorem tells_7 : tells 7 = true := by kernel_rfl
theorem tells_8 : tells 8 = true := by kernel_rfl
end Go.Proofs.Ytnkdpcalgllnbaa.Co
