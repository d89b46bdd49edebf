/-
  The document's answers, walked: the names' list, a number's name, a text parsed.
-/
import Derived.Test.YtnkdpcalgllnbaaDoorNaP
import Derived.WalkKit
import Derived.WalkSpells
import Derived.StillTactics
import Derived.LoopTactic
import Derived.IntWalk
import Derived.RowKit3
import Derived.Below
import Derived.Lib.Hide
namespace Go.Proofs.YtnkdpcalgllnbaaDoor.Nr
open Go Go.RowKit Go.Proofs.YtnkdpcalgllnbaaDoor Go.Proofs.YtnkdpcalgllnbaaDoor.Sy Go.Proofs.YtnkdpcalgllnbaaDoor.Na Go.Proofs.YtnkdpcalgllnbaaDoor.Nc Go.Proofs.YtnkdpcalgllnbaaDoor.Np

/-- The k-th word. -/
noncomputable def wd (k : Nat) : ByteArray := ⟨(wordsA.getD k []).toArray⟩
def TextsIn (w : World) (b : Nat) : Prop := b < w.heap.size ∧ ∀ k, k < 322 → w.cell? ⟨b, k, none⟩ = some (.string (wd k))
theorem TextsIn.below {w w' : World} {b : Nat} (h : TextsIn w b) (hb : Below w.heap.size w w') : TextsIn w' b :=
  ⟨Nat.lt_of_lt_of_le h.1 hb.size, fun k hk => (hb.cell (p := ⟨b, k, none⟩) h.1).trans (h.2 k hk)⟩

noncomputable def textsOk : List At → List (List UInt8) → Bool
  | [], [] => true
  | .lit (.string s) :: l, x :: ws => sameL s.data.toList x && textsOk l ws
  | _, _ => false
theorem textsOk_at : ∀ {l : List At} {ws : List (List UInt8)}, textsOk l ws = true → ∀ k, k < ws.length → l[k]? = some (.lit (.string ⟨(ws.getD k []).toArray⟩))
  | [], [], _, k, h => by simp at h
  | a :: l, x :: ws, h, k, hk => by
    unfold textsOk at h
    split at h
    · rename_i h1 h2; cases h1
    · rename_i s l' x' ws' h1 h2
      cases h1
      cases h2
      rw [Bool.and_eq_true] at h
      cases k with
      | zero =>
        have := sameL_eq h.1
        simp only [List.getElem?_cons_zero, List.getD_cons_zero, ← this]
      | succ k =>
        have := textsOk_at h.2 k (by simpa using hk)
        simpa using this
    · cases h
  | [], _ :: _, h, _, _ => by cases h
  | _ :: _, [], _, k, h => by simp at h
noncomputable def namesOb (n : Nat) : Option Ob → Bool
  | some o => Nat.beq o.t 9 && Nat.beq n 322 && textsOk o.cs wordsA
  | none => false
noncomputable def namesOk : Option (SV × Mem) → Bool
  | some (.one (.sl id n), m) => namesOb n (m.H.get id)
  | _ => false
theorem names_run : namesOk (call0 26 [] Mem.empty) = true := by kernel_rfl
theorem names26 (w : World) : Calls Tryd.prog 26 #[] w fun e w' => ∃ b c, e = .returned (.slice (some ⟨b, 0, none⟩) 322 c) ∧ TextsIn w' b ∧ Below w.heap.size w w' := by
  have hr := names_run
  unfold namesOk at hr
  split at hr
  case h_2 => cases hr
  rename_i id n m h
  unfold namesOb at hr
  split at hr
  case h_2 => cases hr
  rename_i o ho
  simp only [Bool.and_eq_true] at hr
  obtain ⟨⟨h1, h2⟩, h3⟩ := hr
  have en := Nat.eq_of_beq_eq_true h2
  subst en
  obtain ⟨_, hc⟩ := call0_ok (S := fun _ => Value.bool false) (lp := 0) (LI := T3) (fun _ => rfl) liT 26 [] Mem.empty _ m h
  have h4 := hc (fun _ => False) { blk := fun _ => 0, cap := fun _ => 0, sym := fun _ => Value.bool false, lp := 0 } w ⟨rfl, rfl⟩ (relM_empty _ _) trivial (fun s hs => by cases hs)
  refine Calls.mono (h := h4) ?_
  rintro e w' ⟨V', rfl, s1, s2, _⟩
  obtain ⟨_, _, hob⟩ := s2.ob id o ho
  obtain ⟨cur, c1, c2, c3, c4, c5⟩ := hob.ex
  refine ⟨V'.blk id, V'.cap id, rfl, ⟨hob.lt, fun k hk => ?_⟩, below_of_step s1 s2⟩
  have h5 := c5 k _ (textsOk_at h3 k (by rw [wlen]; exact hk))
  simp only [World.cell?, c1]
  simpa [At.val, wd] using h5

def NmP (w : World) (v : Value) (e : Ending) (w' : World) : Prop := e = .returned v ∧ Below w.heap.size w w'
end Go.Proofs.YtnkdpcalgllnbaaDoor.Nr
