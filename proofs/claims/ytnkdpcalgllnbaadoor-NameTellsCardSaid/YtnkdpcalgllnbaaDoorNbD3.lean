/-
  NameTells' runs, part 3.
-/
import Derived.Test.YtnkdpcalgllnbaaDoorNbC
namespace Go.Proofs.YtnkdpcalgllnbaaDoor.Nb
open Go Go.RowKit Go.Proofs.YtnkdpcalgllnbaaDoor Go.Proofs.YtnkdpcalgllnbaaDoor.Sy Go.Proofs.YtnkdpcalgllnbaaDoor.Na Go.Proofs.YtnkdpcalgllnbaaDoor.Nc Go.Proofs.YtnkdpcalgllnbaaDoor.Np Go.Proofs.YtnkdpcalgllnbaaDoor.Nr
theorem tells_part3 : ((List.range 80).all fun j => tellsL (242 + j)) = true := by kernel_rfl
end Go.Proofs.YtnkdpcalgllnbaaDoor.Nb
