/-
  shape.Check of the forms of flowTab, by runs, part 0.
-/
import Derived.Test.YtchodalkdejiiaaMaA
import Derived.Test.YtchodalkdejiiaaTaB
import Derived.KernelRfl
namespace Go.Proofs.Ytchodalkdejiiaa.Ma
open Go Go.RowKit Go.Proofs.Ytchodalkdejiiaa.Sy Go.Proofs.Ytchodalkdejiiaa.Wa Go.Proofs.Ytchodalkdejiiaa.Tab
theorem flowTab_chk_0 : (((flowTab.drop 0).take 10).all checks) = true := by kernel_rfl
theorem flowTab_chk_10 : (((flowTab.drop 10).take 10).all checks) = true := by kernel_rfl
theorem flowTab_chk_20 : (((flowTab.drop 20).take 10).all checks) = true := by kernel_rfl
theorem flowTab_chk_30 : (((flowTab.drop 30).take 10).all checks) = true := by kernel_rfl
end Go.Proofs.Ytchodalkdejiiaa.Ma
