/-
  FlowConds' runs, part 3.
-/
import Derived.Test.YtchodalkdejiiaaLcA
namespace Go.Proofs.Ytchodalkdejiiaa.Lc
open Go Go.RowKit Go.Proofs.Ytchodalkdejiiaa.Sy Go.Proofs.Ytchodalkdejiiaa.Wa Go.Proofs.Ytchodalkdejiiaa.Tab Go.Proofs.Ytchodalkdejiiaa.La
theorem conds_12 : conds 12 = true := by kernel_rfl
theorem conds_13 : conds 13 = true := by kernel_rfl
theorem conds_14 : conds 14 = true := by kernel_rfl
theorem conds_15 : conds 15 = true := by kernel_rfl
end Go.Proofs.Ytchodalkdejiiaa.Lc
