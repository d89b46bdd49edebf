/-
  NameBack's runs: the first part, part 3.
-/
import Derived.Test.YtnkdpcalgllnbaaDoorNbG
namespace Go.Proofs.YtnkdpcalgllnbaaDoor.Nv
open Go Go.RowKit Go.Proofs.YtnkdpcalgllnbaaDoor Go.Proofs.YtnkdpcalgllnbaaDoor.Sy Go.Proofs.YtnkdpcalgllnbaaDoor.Na Go.Proofs.YtnkdpcalgllnbaaDoor.Nc Go.Proofs.YtnkdpcalgllnbaaDoor.Np Go.Proofs.YtnkdpcalgllnbaaDoor.Nr Go.Proofs.YtnkdpcalgllnbaaDoor.Nb
theorem first_part3 : ((List.range 80).all fun j => firstK (242 + j)) = true := by kernel_rfl
end Go.Proofs.YtnkdpcalgllnbaaDoor.Nv
