/-
  shape.Check of the forms of aluTab, by runs, part 1.
-/
import Derived.Test.YtchodalkdejiiaaMaA
import Derived.Test.YtchodalkdejiiaaTaC
import Derived.KernelRfl
namespace Go.Proofs.Ytchodalkdejiiaa.Ma
open Go Go.RowKit Go.Proofs.Ytchodalkdejiiaa.Sy Go.Proofs.Ytchodalkdejiiaa.Wa Go.Proofs.Ytchodalkdejiiaa.Tab
theorem aluTab_chk_80 : (((aluTab.drop 80).take 10).all checks) = true := by kernel_rfl
theorem aluTab_chk_90 : (((aluTab.drop 90).take 10).all checks) = true := by kernel_rfl
theorem aluTab_chk_100 : (((aluTab.drop 100).take 10).all checks) = true := by kernel_rfl
theorem aluTab_chk_110 : (((aluTab.drop 110).take 10).all checks) = true := by kernel_rfl
theorem aluTab_chk_120 : (((aluTab.drop 120).take 10).all checks) = true := by kernel_rfl
theorem aluTab_chk_130 : (((aluTab.drop 130).take 10).all checks) = true := by kernel_rfl
theorem aluTab_chk_140 : (((aluTab.drop 140).take 10).all checks) = true := by kernel_rfl
theorem aluTab_chk_150 : (((aluTab.drop 150).take 10).all checks) = true := by kernel_rfl
end Go.Proofs.Ytchodalkdejiiaa.Ma
