/-
  shape.Check of the forms of flowTab, by runs, part 1.
-/
import Derived.Test.YtchodalkdejiiaaMaA
import Derived.Test.YtchodalkdejiiaaTaB
import Derived.KernelRfl
namespace Go.Proofs.Ytchodalkdejiiaa.Ma
open Go Go.RowKit Go.Proofs.Ytchodalkdejiiaa.Sy Go.Proofs.Ytchodalkdejiiaa.Wa Go.Proofs.Ytchodalkdejiiaa.Tab
theorem flowTab_chk_40 : (((flowTab.drop 40).take 10).all checks) = true := by kernel_rfl
theorem flowTab_chk_50 : (((flowTab.drop 50).take 10).all checks) = true := by kernel_rfl
theorem flowTab_chk_60 : (((flowTab.drop 60).take 10).all checks) = true := by kernel_rfl
theorem flowTab_chk_70 : (((flowTab.drop 70).take 10).all checks) = true := by kernel_rfl
end Go.Proofs.Ytchodalkdejiiaa.Ma
