/-
  The run of the document's flow table.
-/
import Derived.Test.YtchodalkdejiiaaTaB
import Derived.KernelRfl
namespace Go.Proofs.Ytchodalkdejiiaa.Tab
open Go Go.RowKit Go.Proofs.Ytchodalkdejiiaa.Sy Go.Proofs.Ytchodalkdejiiaa.Wa
theorem ref15_run : tabOf (callT 17 [] Mem.empty) = some flowTab := by kernel_rfl
end Go.Proofs.Ytchodalkdejiiaa.Tab
