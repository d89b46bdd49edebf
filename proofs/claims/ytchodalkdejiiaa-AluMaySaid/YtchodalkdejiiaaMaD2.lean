/-
  shape.Check of the forms of aluTab, by runs, part 2.
-/
import Derived.Test.YtchodalkdejiiaaMaA
import Derived.Test.YtchodalkdejiiaaTaC
import Derived.KernelRfl
namespace Go.Proofs.Ytchodalkdejiiaa.Ma
open Go Go.RowKit Go.Proofs.Ytchodalkdejiiaa.Sy Go.Proofs.Ytchodalkdejiiaa.Wa Go.Proofs.Ytchodalkdejiiaa.Tab
theorem aluTab_chk_160 : (((aluTab.drop 160).take 10).all checks) = true := by kernel_rfl
theorem aluTab_chk_170 : (((aluTab.drop 170).take 10).all checks) = true := by kernel_rfl
theorem aluTab_chk_180 : (((aluTab.drop 180).take 10).all checks) = true := by kernel_rfl
theorem aluTab_chk_190 : (((aluTab.drop 190).take 10).all checks) = true := by kernel_rfl
theorem aluTab_chk_200 : (((aluTab.drop 200).take 10).all checks) = true := by kernel_rfl
end Go.Proofs.Ytchodalkdejiiaa.Ma
