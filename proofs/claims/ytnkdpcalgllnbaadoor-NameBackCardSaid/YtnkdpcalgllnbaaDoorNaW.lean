/-
  The document's answers, walked: a number's name.
-/
import Derived.Test.YtnkdpcalgllnbaaDoorNaR
namespace Go.Proofs.YtnkdpcalgllnbaaDoor.Nr
open Go Go.RowKit Go.Proofs.YtnkdpcalgllnbaaDoor Go.Proofs.YtnkdpcalgllnbaaDoor.Sy Go.Proofs.YtnkdpcalgllnbaaDoor.Na Go.Proofs.YtnkdpcalgllnbaaDoor.Nc Go.Proofs.YtnkdpcalgllnbaaDoor.Np

theorem ref16_out (op : Int) (h : ¬ (1 ≤ op ∧ op ≤ 322)) (w : World) : Calls Tryd.prog 16 #[.int .i64 op] w (NmP w (.string ⟨#[]⟩)) := by
  go_enter Tryd.func16, Tryd.ntmps16
  by_cases h1 : 1 ≤ op
  · have h2 : ¬ op ≤ 322 := fun h2 => h ⟨h1, h2⟩
    clear h
    go_wp2
    go_ret
    exact ⟨rfl, .refl _ _⟩
  · clear h
    go_wp2
    go_ret
    exact ⟨rfl, .refl _ _⟩
theorem ref16_in (k : Nat) (hk : k < 322) (w : World) : Calls Tryd.prog 16 #[.int .i64 ((k : Int) + 1)] w (NmP w (.string (wd k))) := by
  have k0 : (0 : Int) ≤ (k : Int) := by omega
  have k1 : (k : Int) < 322 := by omega
  have k2 : (1 : Int) ≤ (k : Int) + 1 := by omega
  have k3 : (k : Int) + 1 ≤ 322 := by omega
  go_enter Tryd.func16, Tryd.ntmps16
  go_wp2_with (go_at_call 14; go_in)
  refine (names26 _).mono ?_
  rintro e w1 ⟨b, c, rfl, hT, hB⟩
  have hc : w1.cell? ⟨b, k, none⟩ = some (.string (wd k)) := hT.2 k hk
  clear hT
  go_wp2
  go_ret
  exact ⟨rfl, hB⟩
end Go.Proofs.YtnkdpcalgllnbaaDoor.Nr
