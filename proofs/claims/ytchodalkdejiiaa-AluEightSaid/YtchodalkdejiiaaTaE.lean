/-
  The run of alu.Rows.
-/
import Derived.Test.YtchodalkdejiiaaTaC
import Derived.KernelRfl
namespace Go.Proofs.Ytchodalkdejiiaa.Tab
open Go Go.RowKit Go.Proofs.Ytchodalkdejiiaa.Sy Go.Proofs.Ytchodalkdejiiaa.Wa
theorem alu_run : tabOf (callRf 24 [] Mem.empty) = some aluTab := by kernel_rfl
end Go.Proofs.Ytchodalkdejiiaa.Tab
