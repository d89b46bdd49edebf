/-
  shape.Check of the forms of flowTab, by runs, part 2.
-/
import Derived.Test.YtchodalkdejiiaaMaA
import Derived.Test.YtchodalkdejiiaaTaB
import Derived.KernelRfl
namespace Go.Proofs.Ytchodalkdejiiaa.Ma
open Go Go.RowKit Go.Proofs.Ytchodalkdejiiaa.Sy Go.Proofs.Ytchodalkdejiiaa.Wa Go.Proofs.Ytchodalkdejiiaa.Tab
theorem flowTab_chk_80 : (((flowTab.drop 80).take 10).all checks) = true := by kernel_rfl
theorem flowTab_chk_90 : (((flowTab.drop 90).take 10).all checks) = true := by kernel_rfl
theorem flowTab_chk_100 : (((flowTab.drop 100).take 10).all checks) = true := by kernel_rfl
theorem flowTab_chk_110 : (((flowTab.drop 110).take 10).all checks) = true := by kernel_rfl
end Go.Proofs.Ytchodalkdejiiaa.Ma
