/-
  shape.Check of the forms of flowTab, by runs, part 3.
-/
import Derived.Test.YtchodalkdejiiaaMaA
import Derived.Test.YtchodalkdejiiaaTaB
import Derived.KernelRfl
namespace Go.Proofs.Ytchodalkdejiiaa.Ma
open Go Go.RowKit Go.Proofs.Ytchodalkdejiiaa.Sy Go.Proofs.Ytchodalkdejiiaa.Wa Go.Proofs.Ytchodalkdejiiaa.Tab
theorem flowTab_chk_120 : (((flowTab.drop 120).take 10).all checks) = true := by kernel_rfl
end Go.Proofs.Ytchodalkdejiiaa.Ma
