/-
  FlowConds' runs, part 0.
-/
import Derived.Test.YtchodalkdejiiaaLcA
namespace Go.Proofs.Ytchodalkdejiiaa.Lc
open Go Go.RowKit Go.Proofs.Ytchodalkdejiiaa.Sy Go.Proofs.Ytchodalkdejiiaa.Wa Go.Proofs.Ytchodalkdejiiaa.Tab Go.Proofs.Ytchodalkdejiiaa.La
theorem conds_0 : conds 0 = true := by kernel_rfl
theorem conds_1 : conds 1 = true := by kernel_rfl
theorem conds_2 : conds 2 = true := by kernel_rfl
theorem conds_3 : conds 3 = true := by kernel_rfl
end Go.Proofs.Ytchodalkdejiiaa.Lc
