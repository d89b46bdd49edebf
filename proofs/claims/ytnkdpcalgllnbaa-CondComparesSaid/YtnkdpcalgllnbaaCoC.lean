/-
  CondOne: a number out of range; the law walked.
-/
import Derived.Test.YtnkdpcalgllnbaaCoB
namespace Go.Proofs.Ytnkdpcalgllnbaa.Co
open Go Go.RowKit Go.Proofs.Ytnkdpcalgllnbaa.Sy

noncomputable def Cn (cmp : BinOp → Int → Option Bool) : Cfg := { P := Try.prog, FT := ftOf, neq := fun _ _ => false, ora := oraN cmp }
noncomputable def callN (cmp : BinOp → Int → Option Bool) (sum : CallT) : CallT := callF (Cn cmp) sum noYld (fun call => drawRun (Cn cmp) call noYld) 12
noncomputable def ctxN (cmp : BinOp → Int → Option Bool) (S : Nat → Value) : Ctx := { C := Cn cmp, S := S, lp := 0, LI := fun _ _ _ => True }
theorem ctxN_ok {cmp : BinOp → Int → Option Bool} {S : Nat → Value} {n : Int} (hS : ∀ k, (S k).oneCell' = true) (h0 : S 0 = .int .i64 n) (hc : CmpOK n cmp) : XOK (ctxN cmp S) :=
  ⟨hS, (fun k a h => by cases h), oraN_ok h0 hc, fun _ _ _ _ _ _ _ _ _ _ => trivial⟩
theorem callN_ok {cmp : BinOp → Int → Option Bool} {S : Nat → Value} {n : Int} (hS : ∀ k, (S k).oneCell' = true) (h0 : S 0 = .int .i64 n) (hc : CmpOK n cmp) {sum : CallT} (hsum : CallOK (ctxN cmp S) sum) : CallOK (ctxN cmp S) (callN cmp sum) :=
  callF_sound (X := ctxN cmp S) (ctxN_ok hS h0 hc) hsum (noYld_ok _) (drawRun_ok (X := ctxN cmp S) (ctxN_ok hS h0 hc) (noYld_ok _) follows_mixed) ftOf_ok 12

/-- A number below zero. -/
noncomputable def cmpLow : BinOp → Int → Option Bool
  | .lss, .ofNat _ => some true
  | .geq, .ofNat _ => some false
  | .gtr, .ofNat _ => some false
  | .eql, .ofNat _ => some false
  | _, _ => none
theorem cmpLow_ok {n : Int} (h : n < 0) : CmpOK n cmpLow := by
  intro b c r hr
  unfold cmpLow at hr
  split at hr
  all_goals first | (cases hr; done) | cases hr
  · exact .inl ⟨rfl, by simp; omega⟩
  · exact .inr (.inr (.inr (.inl ⟨rfl, by simp; omega⟩)))
  · exact .inr (.inr (.inl ⟨rfl, by simp; omega⟩))
  · exact .inr (.inr (.inr (.inr ⟨rfl, by simp; omega⟩)))
/-- A number above fifteen. -/
noncomputable def cmpHigh : BinOp → Int → Option Bool
  | .lss, .ofNat k => if Nat.ble k 16 then some false else none
  | .geq, .ofNat k => if Nat.ble k 16 then some true else none
  | .gtr, .ofNat k => if Nat.ble k 15 then some true else none
  | .eql, .ofNat k => if Nat.ble k 15 then some false else none
  | _, _ => none
theorem cmpHigh_ok {n : Int} (h : 15 < n) : CmpOK n cmpHigh := by
  intro b c r hr
  unfold cmpHigh at hr
  split at hr
  case h_5 => cases hr
  all_goals
    split at hr
    case isFalse => cases hr
    rename_i hb
    have hb' := Nat.le_of_ble_eq_true hb
    cases hr
  · exact .inl ⟨rfl, by simp; omega⟩
  · exact .inr (.inr (.inr (.inl ⟨rfl, by simp; omega⟩)))
  · exact .inr (.inr (.inl ⟨rfl, by simp; omega⟩))
  · exact .inr (.inr (.inr (.inr ⟨rfl, by simp; omega⟩)))

theorem one_low : isTrue (callN cmpLow sumAw 3 [.one (.sym 0), .agg (fl none none none none none)] Mem.empty) = true := by kernel_rfl
theorem one_high : isTrue (callN cmpHigh sumAw 3 [.one (.sym 0), .agg (fl none none none none none)] Mem.empty) = true := by kernel_rfl

theorem one_out {cmp : BinOp → Int → Option Bool} {n : Int} (hc : CmpOK n cmp) (h : isTrue (callN cmp sumAw 3 [.one (.sym 0), .agg (fl none none none none none)] Mem.empty) = true) (c z s o p : Bool) (w : World) :
    Calls Try.prog 3 #[.int .i64 n, .agg #[.bool c, .bool z, .bool s, .bool o, .bool p]] w (BoolP w true) := by
  refine true_of_run (X := ctxN cmp (Sf n c z s o p)) (callN_ok (Sf_one n c z s o p) rfl hc (sumAw_ok _ rfl)) h (fun _ _ _ => trivial) ?_ w ?_
  · intro t ht
    simp only [List.mem_cons, List.not_mem_nil, or_false] at ht
    rcases ht with rfl | rfl
    · trivial
    · intro a ha
      simp only [fl, flc, List.mem_cons, List.not_mem_nil, or_false] at ha
      rcases ha with rfl | rfl | rfl | rfl | rfl <;> trivial
  · intro V hV
    have e : ∀ k, V.sym k = Sf n c z s o p k := fun k => by rw [hV]; rfl
    simp only [List.map_cons, List.map_nil, SV.val, At.val, fl, flc, e]
    rfl

theorem one_law (w : World) (n : Int) (c z s o p : Bool) : Calls Try.prog 3 #[.int .i64 n, .agg #[.bool c, .bool z, .bool s, .bool o, .bool p]] w (BoolP w true) := by
  by_cases h1 : n < 0
  · exact one_out (cmpLow_ok h1) one_low c z s o p w
  by_cases h2 : 15 < n
  · exact one_out (cmpHigh_ok h2) one_high c z s o p w
  obtain ⟨k, rfl⟩ := Int.eq_ofNat_of_zero_le (show 0 ≤ n by omega)
  exact one_in k (by omega) c z s o p w
end Go.Proofs.Ytnkdpcalgllnbaa.Co
