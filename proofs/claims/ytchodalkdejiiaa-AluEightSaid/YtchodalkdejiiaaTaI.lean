/-
  The runs of linotypelaw13.awake.
-/
import Derived.Test.YtchodalkdejiiaaTaG
import Derived.KernelRfl
namespace Go.Proofs.Ytchodalkdejiiaa.Tab
open Go Go.RowKit Go.Proofs.Ytchodalkdejiiaa.Sy Go.Proofs.Ytchodalkdejiiaa.Wa
theorem awake13_run : isTrue (callR 26 [] Mem.empty) = true := by kernel_rfl
end Go.Proofs.Ytchodalkdejiiaa.Tab
