/-
  NameBack's runs: the first part, part 2.
-/
import Derived.Test.YtnkdpcalgllnbaaDoorNbG
namespace Go.Proofs.YtnkdpcalgllnbaaDoor.Nv
open Go Go.RowKit Go.Proofs.YtnkdpcalgllnbaaDoor Go.Proofs.YtnkdpcalgllnbaaDoor.Sy Go.Proofs.YtnkdpcalgllnbaaDoor.Na Go.Proofs.YtnkdpcalgllnbaaDoor.Nc Go.Proofs.YtnkdpcalgllnbaaDoor.Np Go.Proofs.YtnkdpcalgllnbaaDoor.Nr Go.Proofs.YtnkdpcalgllnbaaDoor.Nb
theorem first_part2 : ((List.range 80).all fun j => firstK (162 + j)) = true := by kernel_rfl
end Go.Proofs.YtnkdpcalgllnbaaDoor.Nv
