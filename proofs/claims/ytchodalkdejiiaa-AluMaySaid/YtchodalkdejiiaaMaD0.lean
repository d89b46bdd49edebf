/-
  shape.Check of the forms of aluTab, by runs, part 0.
-/
import Derived.Test.YtchodalkdejiiaaMaA
import Derived.Test.YtchodalkdejiiaaTaC
import Derived.KernelRfl
namespace Go.Proofs.Ytchodalkdejiiaa.Ma
open Go Go.RowKit Go.Proofs.Ytchodalkdejiiaa.Sy Go.Proofs.Ytchodalkdejiiaa.Wa Go.Proofs.Ytchodalkdejiiaa.Tab
theorem aluTab_chk_0 : (((aluTab.drop 0).take 10).all checks) = true := by kernel_rfl
theorem aluTab_chk_10 : (((aluTab.drop 10).take 10).all checks) = true := by kernel_rfl
theorem aluTab_chk_20 : (((aluTab.drop 20).take 10).all checks) = true := by kernel_rfl
theorem aluTab_chk_30 : (((aluTab.drop 30).take 10).all checks) = true := by kernel_rfl
theorem aluTab_chk_40 : (((aluTab.drop 40).take 10).all checks) = true := by kernel_rfl
theorem aluTab_chk_50 : (((aluTab.drop 50).take 10).all checks) = true := by kernel_rfl
theorem aluTab_chk_60 : (((aluTab.drop 60).take 10).all checks) = true := by kernel_rfl
theorem aluTab_chk_70 : (((aluTab.drop 70).take 10).all checks) = true := by kernel_rfl
end Go.Proofs.Ytchodalkdejiiaa.Ma
