/-
  The symbolic run: calls of flow.form, Row.Of and alu.of told by their templates.
-/
import Derived.Test.YtchodalkdejiiaaSyT
namespace Go.Proofs.Ytchodalkdejiiaa.Sy
open Go Go.RowKit

noncomputable def K48 (k : Nat) : Kd := .agg [.one (.lit (.int .i64 (Int.ofNat k)))]
noncomputable def orT (a b : Option (SV × Mem)) : Option (SV × Mem) := match a with | some r => some r | none => b

noncomputable def sumT : CallT := fun f args m =>
  if Nat.beq f 61 then tmSum .flat [T61_2, T61_4, T61_0] args m
  else if Nat.beq f 48 then orT (tmSum (K48 2) [T48_2_1, T48_2_2, T48_2_3, T48_2_0] args m) (orT (tmSum (K48 4) [T48_4_1, T48_4_2, T48_4_3, T48_4_0] args m) (tmSum (K48 8) [T48_8_1, T48_8_2, T48_8_3, T48_8_0] args m))
  else if Nat.beq f 96 then tmSum (.agg [.agg []]) [T96_2, T96_3] args m
  else if Nat.beq f 97 then tmSum (.agg [.agg []]) [T97_2, T97_3] args m
  else if Nat.beq f 98 then tmSum (.agg [.agg []]) [T98_2, T98_3] args m
  else none

theorem sumT_ok {S : Nat → Value} {lp : Nat} {LI : (Nat → Prop) → Va → World → Prop} (hS : ∀ k, (S k).oneCell' = true) (hL : LIok LI) : CallOK (ctx S lp LI) sumT := by
  have key : ∀ (f : Nat) (K : Kd) (Ts : List Tm), f ∈ ftl → (∀ T ∈ Ts, T.OK call0 f K) → ∀ args m r m', tmSum K Ts args m = some (r, m') →
      (∀ xs w, (callFunc f xs).run (ctx S lp LI).C.P w = .ok (.enter f xs) w) ∧ ∀ (D : Nat → Prop) V w, Good (ctx S lp LI) V → RelM D V m w → (ctx S lp LI).LI D V w → (∀ s ∈ args, s.on D) → Calls (ctx S lp LI).C.P f (args.map (SV.val V)).toArray w (Gives D V w m r m') := by
    intro f K Ts hf hT args m r m' h
    refine ⟨enters_all f hf, fun D V w hg hm _ hargs => ?_⟩
    exact tmSum_sound (X := ctx S lp LI) (C0 := C0) (ctx_ok hS hL) rfl (fun S' hS' => call0_ok (S := S') (lp := lp) hS' li_true) hg hm hargs Ts hT h
  intro f args m r m' h
  unfold sumT at h
  split at h
  · rename_i e
    obtain rfl := Nat.eq_of_beq_eq_true e
    exact key 61 _ _ (by decide) (by simp only [List.forall_mem_cons]; exact ⟨T61_2_ok, T61_4_ok, T61_0_ok, fun _ h => by cases h⟩) args m r m' h
  · split at h
    · rename_i e
      obtain rfl := Nat.eq_of_beq_eq_true e
      have h2 : ∀ T ∈ [T48_2_1, T48_2_2, T48_2_3, T48_2_0], T.OK call0 48 (K48 2) := by simp only [List.forall_mem_cons]; exact ⟨T48_2_1_ok, T48_2_2_ok, T48_2_3_ok, T48_2_0_ok, fun _ h => by cases h⟩
      have h4 : ∀ T ∈ [T48_4_1, T48_4_2, T48_4_3, T48_4_0], T.OK call0 48 (K48 4) := by simp only [List.forall_mem_cons]; exact ⟨T48_4_1_ok, T48_4_2_ok, T48_4_3_ok, T48_4_0_ok, fun _ h => by cases h⟩
      have h8 : ∀ T ∈ [T48_8_1, T48_8_2, T48_8_3, T48_8_0], T.OK call0 48 (K48 8) := by simp only [List.forall_mem_cons]; exact ⟨T48_8_1_ok, T48_8_2_ok, T48_8_3_ok, T48_8_0_ok, fun _ h => by cases h⟩
      unfold orT at h
      split at h
      · rename_i q hq
        cases h
        exact key 48 _ _ (by decide) h2 args m r m' hq
      · split at h
        · rename_i q hq
          cases h
          exact key 48 _ _ (by decide) h4 args m r m' hq
        · exact key 48 _ _ (by decide) h8 args m r m' h
    · split at h
      · rename_i e
        obtain rfl := Nat.eq_of_beq_eq_true e
        exact key 96 _ _ (by decide) (by simp only [List.forall_mem_cons]; exact ⟨T96_2_ok, T96_3_ok, fun _ h => by cases h⟩) args m r m' h
      · split at h
        · rename_i e
          obtain rfl := Nat.eq_of_beq_eq_true e
          exact key 97 _ _ (by decide) (by simp only [List.forall_mem_cons]; exact ⟨T97_2_ok, T97_3_ok, fun _ h => by cases h⟩) args m r m' h
        · split at h
          · rename_i e
            obtain rfl := Nat.eq_of_beq_eq_true e
            exact key 98 _ _ (by decide) (by simp only [List.forall_mem_cons]; exact ⟨T98_2_ok, T98_3_ok, fun _ h => by cases h⟩) args m r m' h
          · cases h

noncomputable def callT : CallT := callS sumT
theorem callT_ok {S : Nat → Value} {lp : Nat} {LI : (Nat → Prop) → Va → World → Prop} (hS : ∀ k, (S k).oneCell' = true) (hL : LIok LI) : CallOK (ctx S lp LI) callT := callS_ok hS hL (sumT_ok hS hL)
end Go.Proofs.Ytchodalkdejiiaa.Sy
