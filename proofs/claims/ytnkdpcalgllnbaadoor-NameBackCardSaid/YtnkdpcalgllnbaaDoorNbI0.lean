/-
  NameBack's runs: the second part: the words.
-/
import Derived.Test.YtnkdpcalgllnbaaDoorNbG
namespace Go.Proofs.YtnkdpcalgllnbaaDoor.Nv
open Go Go.RowKit Go.Proofs.YtnkdpcalgllnbaaDoor Go.Proofs.YtnkdpcalgllnbaaDoor.Sy Go.Proofs.YtnkdpcalgllnbaaDoor.Na Go.Proofs.YtnkdpcalgllnbaaDoor.Nc Go.Proofs.YtnkdpcalgllnbaaDoor.Np Go.Proofs.YtnkdpcalgllnbaaDoor.Nr Go.Proofs.YtnkdpcalgllnbaaDoor.Nb
theorem second_words : (wordsA.all secondW) = true := by kernel_rfl
end Go.Proofs.YtnkdpcalgllnbaaDoor.Nv
