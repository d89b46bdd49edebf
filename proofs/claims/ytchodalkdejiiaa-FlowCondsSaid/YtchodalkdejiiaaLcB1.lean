/-
  FlowConds' runs, part 1.
-/
import Derived.Test.YtchodalkdejiiaaLcA
namespace Go.Proofs.Ytchodalkdejiiaa.Lc
open Go Go.RowKit Go.Proofs.Ytchodalkdejiiaa.Sy Go.Proofs.Ytchodalkdejiiaa.Wa Go.Proofs.Ytchodalkdejiiaa.Tab Go.Proofs.Ytchodalkdejiiaa.La
theorem conds_4 : conds 4 = true := by kernel_rfl
theorem conds_5 : conds 5 = true := by kernel_rfl
theorem conds_6 : conds 6 = true := by kernel_rfl
theorem conds_7 : conds 7 = true := by kernel_rfl
end Go.Proofs.Ytchodalkdejiiaa.Lc
