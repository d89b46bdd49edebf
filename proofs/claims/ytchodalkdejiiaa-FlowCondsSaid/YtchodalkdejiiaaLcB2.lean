/-
  FlowConds' runs, part 2.
-/
import Derived.Test.YtchodalkdejiiaaLcA
namespace Go.Proofs.Ytchodalkdejiiaa.Lc
open Go Go.RowKit Go.Proofs.Ytchodalkdejiiaa.Sy Go.Proofs.Ytchodalkdejiiaa.Wa Go.Proofs.Ytchodalkdejiiaa.Tab Go.Proofs.Ytchodalkdejiiaa.La
theorem conds_8 : conds 8 = true := by kernel_rfl
theorem conds_9 : conds 9 = true := by kernel_rfl
theorem conds_10 : conds 10 = true := by kernel_rfl
theorem conds_11 : conds 11 = true := by kernel_rfl
end Go.Proofs.Ytchodalkdejiiaa.Lc
