/-
  The runs of linotypelaw15.awake.
-/
import Derived.Test.YtchodalkdejiiaaTaG
import Derived.KernelRfl
namespace Go.Proofs.Ytchodalkdejiiaa.Tab
open Go Go.RowKit Go.Proofs.Ytchodalkdejiiaa.Sy Go.Proofs.Ytchodalkdejiiaa.Wa
theorem awake15_run : isTrue (callT 19 [] Mem.empty) = true := by kernel_rfl
end Go.Proofs.Ytchodalkdejiiaa.Tab
