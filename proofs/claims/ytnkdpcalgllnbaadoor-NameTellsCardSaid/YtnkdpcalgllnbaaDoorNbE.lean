/-
  NameTells, by its runs.
-/
import Derived.Test.YtnkdpcalgllnbaaDoorNbD0
import Derived.Test.YtnkdpcalgllnbaaDoorNbD1
import Derived.Test.YtnkdpcalgllnbaaDoorNbD2
import Derived.Test.YtnkdpcalgllnbaaDoorNbD3
namespace Go.Proofs.YtnkdpcalgllnbaaDoor.Nb
open Go Go.RowKit Go.Proofs.YtnkdpcalgllnbaaDoor Go.Proofs.YtnkdpcalgllnbaaDoor.Sy Go.Proofs.YtnkdpcalgllnbaaDoor.Na Go.Proofs.YtnkdpcalgllnbaaDoor.Nc Go.Proofs.YtnkdpcalgllnbaaDoor.Np Go.Proofs.YtnkdpcalgllnbaaDoor.Nr
theorem tells_any (k : Nat) (h : k < 322) : tellsL k = true := by
  have key : ∀ (o n : Nat), ((List.range n).all fun j => tellsL (o + j)) = true → o ≤ k → k < o + n → tellsL k = true := by
    intro o n h1 h2 h3
    have := List.all_eq_true.1 h1 (k - o) (List.mem_range.2 (by omega))
    rwa [show o + (k - o) = k by omega] at this
  by_cases h1 : k < 81
  · exact key 0 81 tells_part0 (by omega) (by omega)
  by_cases h2 : k < 162
  · exact key 81 81 tells_part1 (by omega) (by omega)
  by_cases h3 : k < 242
  · exact key 162 80 tells_part2 (by omega) (by omega)
  · exact key 242 80 tells_part3 (by omega) (by omega)
theorem tells_law (w : World) (n : Int) (t : ByteArray) : Calls Tryd.prog 3 #[.int .i64 n, .string t] w (BoolP w true) := by
  by_cases hl : (t.size : Int) > 100
  · exact tells_use (cmp := fun _ _ => none) (q := .one (.sym 0)) (fun _ _ _ h => by cases h) (fun _ h => h) trivial (by simp [hl]) tells_long w
  by_cases h1 : n < 1
  · exact tells_use (cmpL_ok h1) (q := .one (.sym 0)) (fun _ h => h) trivial (by simp [hl]) tells_low w
  by_cases h2 : 322 < n
  · exact tells_use (cmpH_ok h2) (q := .one (.sym 0)) (fun _ h => h) trivial (by simp [hl]) tells_high w
  obtain ⟨k, rfl⟩ : ∃ k : Nat, n = ((k + 1 : Nat) : Int) := ⟨n.toNat - 1, by omega⟩
  exact tells_use (cmp := fun _ _ => none) (q := .one (litI (k + 1))) (fun _ _ _ h => by cases h) (fun _ _ => rfl) trivial (by simp [hl]) (tells_any k (by omega)) w
end Go.Proofs.YtnkdpcalgllnbaaDoor.Nb
