/-
  NameBack's runs: the second part: what conditions make; the words' numbers.
-/
import Derived.Test.YtnkdpcalgllnbaaDoorNbG
namespace Go.Proofs.YtnkdpcalgllnbaaDoor.Nv
open Go Go.RowKit Go.Proofs.YtnkdpcalgllnbaaDoor Go.Proofs.YtnkdpcalgllnbaaDoor.Sy Go.Proofs.YtnkdpcalgllnbaaDoor.Na Go.Proofs.YtnkdpcalgllnbaaDoor.Nc Go.Proofs.YtnkdpcalgllnbaaDoor.Np Go.Proofs.YtnkdpcalgllnbaaDoor.Nr Go.Proofs.YtnkdpcalgllnbaaDoor.Nb
theorem second_tails : ((List.range 3).all fun i => wordsL.all fun p => secondW ((pfx i).data.toList ++ p.1.data.toList)) = true := by kernel_rfl
theorem words_par : ((List.range 322).all fun k => Nat.beq (parN (wd k)) (k + 1)) = true := by kernel_rfl
theorem none_par : Nat.beq (parN ⟨#[]⟩) 0 = true := by kernel_rfl
end Go.Proofs.YtnkdpcalgllnbaaDoor.Nv
