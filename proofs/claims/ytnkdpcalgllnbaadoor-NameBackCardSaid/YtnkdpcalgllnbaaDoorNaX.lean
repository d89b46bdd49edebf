/-
  The document's answers, walked: what stands behind a beginning; a text parsed.
-/
import Derived.Test.YtnkdpcalgllnbaaDoorNaW
namespace Go.Proofs.YtnkdpcalgllnbaaDoor.Nr
open Go Go.RowKit Go.Proofs.YtnkdpcalgllnbaaDoor Go.Proofs.YtnkdpcalgllnbaaDoor.Sy Go.Proofs.YtnkdpcalgllnbaaDoor.Na Go.Proofs.YtnkdpcalgllnbaaDoor.Nc Go.Proofs.YtnkdpcalgllnbaaDoor.Np

theorem ref16 (op : Int) (w : World) : Calls Tryd.prog 16 #[.int .i64 op] w (NmP w (.string (nameOf op))) := by
  unfold nameOf
  by_cases h : 1 ≤ op ∧ op ≤ 322
  · rw [if_pos h]
    have := ref16_in (op.toNat - 1) (by omega) w
    rw [show ((op.toNat - 1 : Nat) : Int) + 1 = op by omega] at this
    exact this
  · rw [if_neg h]
    exact ref16_out op h w

/-- What stands behind a beginning. -/
noncomputable def behS (s p : ByteArray) : ByteArray := if Lib.hasPrefix s.data.toList p.data.toList = true then ⟨(Lib.trimPrefix s.data.toList p.data.toList).toArray⟩ else ⟨#[]⟩
theorem behind27 (s p : ByteArray) (w : World) : Calls Tryd.prog 27 #[.string s, .string p] w fun e w' => e = .returned (.tuple #[.string (behS s p), .bool (Lib.hasPrefix s.data.toList p.data.toList)]) ∧ w' = w := by
  by_cases h1 : p.size ≤ s.size
  · have h1' : ¬ (s.size : Int) < (p.size : Int) := by omega
    have h1'' : (p.size : Int) ≤ (s.size : Int) := by omega
    by_cases h2 : ((s.extract 0 p.size).toList == p.toList) = true
    · have e1 : Lib.hasPrefix s.data.toList p.data.toList = true := by rw [← Lib.hasPrefix_raw, h2, decide_eq_true h1]; rfl
      have e2 : behS s p = s.extract p.size s.size := by
        unfold behS
        rw [if_pos e1, Lib.trimPrefix_hit s p h1 h2]
      rw [e1, e2]
      clear e1 e2
      go_enter Tryd.func27, Tryd.ntmps27
      go_wp2
      go_ret2
      exact ⟨rfl, rfl⟩
    · have h2' : ((s.extract 0 p.size).toList == p.toList) = false := by simpa using h2
      have e1 : Lib.hasPrefix s.data.toList p.data.toList = false := by rw [← Lib.hasPrefix_raw, h2']; simp
      have e2 : behS s p = ⟨#[]⟩ := by
        unfold behS
        rw [if_neg (by rw [e1]; simp)]
      rw [e1, e2]
      clear e1 e2
      go_enter Tryd.func27, Tryd.ntmps27
      go_wp2
      go_ret2
      exact ⟨rfl, rfl⟩
  · have h1' : (s.size : Int) < (p.size : Int) := by omega
    have e1 : Lib.hasPrefix s.data.toList p.data.toList = false := by rw [← Lib.hasPrefix_raw, decide_eq_false h1]; rfl
    have e2 : behS s p = ⟨#[]⟩ := by
      unfold behS
      rw [if_neg (by rw [e1]; simp)]
    rw [e1, e2]
    clear e1 e2
    go_enter Tryd.func27, Tryd.ntmps27
    go_wp2
    go_ret2
    exact ⟨rfl, rfl⟩
end Go.Proofs.YtnkdpcalgllnbaaDoor.Nr
