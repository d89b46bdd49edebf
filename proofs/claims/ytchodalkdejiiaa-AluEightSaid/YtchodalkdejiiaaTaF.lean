/-
  The run of the document's alu table.
-/
import Derived.Test.YtchodalkdejiiaaTaC
import Derived.KernelRfl
namespace Go.Proofs.Ytchodalkdejiiaa.Tab
open Go Go.RowKit Go.Proofs.Ytchodalkdejiiaa.Sy Go.Proofs.Ytchodalkdejiiaa.Wa
theorem ref13_run : tabOf (callT 25 [] Mem.empty) = some aluTab := by kernel_rfl
end Go.Proofs.Ytchodalkdejiiaa.Tab
