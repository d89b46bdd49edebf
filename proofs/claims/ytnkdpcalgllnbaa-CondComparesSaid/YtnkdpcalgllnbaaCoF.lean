/-
  Letters for two numbers.
-/
import Derived.Test.YtnkdpcalgllnbaaCoE
namespace Go.Proofs.Ytnkdpcalgllnbaa.Co
open Go Go.RowKit Go.Proofs.Ytnkdpcalgllnbaa.Sy

abbrev CmpT := Nat → BinOp → Int → Option Bool
def CmpK (S : Nat → Value) (cmp : CmpT) : Prop := ∀ k, (∃ n, S k = .int .i64 n ∧ CmpOK n (cmp k)) ∨ ∀ b c, cmp k b c = none
noncomputable def oraK (cmp : CmpT) (op : Op) (ev : Operand → Option SV) : Option SV :=
  match op with
  | .binOp b _ x y _ => match ev x, ev y with
    | some (.one (.sym k)), some (.one (.lit (.int .i64 c))) => (cmp k b c).map fun r => .one (.lit (.bool r))
    | _, _ => none
  | _ => none

theorem oraK_ok {P : Program} {S : Nat → Value} {cmp : CmpT} (hc : CmpK S cmp) : ∀ op ev s, oraK cmp op ev = some s → ∀ o : Oper, o.op = op → ∀ V : Va, V.sym = S → ∀ ρ : Operand → Value, (∀ x t, ev x = some t → ρ x = t.val V) → (∀ w, (execOp ρ o).run P w = .ok (.value (s.val V)) w) ∧ s.on fun _ => False := by
  intro op ev s h o ho V hV ρ hρ
  unfold oraK at h
  split at h
  case h_2 => cases h
  rename_i b t x y t'
  split at h
  case h_2 => cases h
  rename_i k c hx hy
  obtain ⟨r, hr, rfl⟩ := Option.map_eq_some_iff.1 h
  rcases hc k with ⟨n, hn, hcmp⟩ | hno
  · have h1 : ρ x = .int .i64 n := by rw [hρ x _ hx, SV.val, At.val, hV, hn]
    have h2 : ρ y = .int .i64 c := hρ y _ hy
    refine ⟨fun w => ?_, trivial⟩
    unfold execOp
    simp only [ho, h1, h2]
    rcases hcmp b c r hr with ⟨rfl, rfl⟩ | ⟨rfl, rfl⟩ | ⟨rfl, rfl⟩ | ⟨rfl, rfl⟩ | ⟨rfl, rfl⟩
    all_goals simp [eqGuard, binOp, Op.intCmp, SV.val, At.val]
  · rw [hno] at hr
    cases hr

noncomputable def Ck (cmp : CmpT) : Cfg := { P := Try.prog, FT := ftOf, neq := fun _ _ => false, ora := oraK cmp }
noncomputable def callK (cmp : CmpT) (sum : CallT) : CallT := callF (Ck cmp) sum noYld (fun call => drawRun (Ck cmp) call noYld) 12
noncomputable def ctxK (cmp : CmpT) (S : Nat → Value) : Ctx := { C := Ck cmp, S := S, lp := 0, LI := fun _ _ _ => True }
theorem ctxK_ok {cmp : CmpT} {S : Nat → Value} (hS : ∀ k, (S k).oneCell' = true) (hc : CmpK S cmp) : XOK (ctxK cmp S) :=
  ⟨hS, (fun k a h => by cases h), oraK_ok hc, fun _ _ _ _ _ _ _ _ _ _ => trivial⟩
theorem callK_ok {cmp : CmpT} {S : Nat → Value} (hS : ∀ k, (S k).oneCell' = true) (hc : CmpK S cmp) {sum : CallT} (hsum : CallOK (ctxK cmp S) sum) : CallOK (ctxK cmp S) (callK cmp sum) :=
  callF_sound (X := ctxK cmp S) (ctxK_ok hS hc) hsum (noYld_ok _) (drawRun_ok (X := ctxK cmp S) (ctxK_ok hS hc) (noYld_ok _) follows_mixed) ftOf_ok 12

/-- How a number stands: 0: below zero; 1: above fifteen; k + 2: it is k. -/
noncomputable def cmpOf : Nat → BinOp → Int → Option Bool
  | 0 => cmpLow
  | 1 => cmpHigh
  | _ => fun _ _ => none
noncomputable def numOf (letter : Nat) : Nat → SV
  | 0 => .one (.sym letter)
  | 1 => .one (.sym letter)
  | k + 2 => .one (.lit (.int .i64 (.ofNat k)))
def Stands (n : Int) : Nat → Prop
  | 0 => n < 0
  | 1 => 15 < n
  | k + 2 => n = (k : Int)
theorem stands (n : Int) : ∃ a, a < 18 ∧ Stands n a := by
  by_cases h1 : n < 0
  · exact ⟨0, by omega, h1⟩
  by_cases h2 : 15 < n
  · exact ⟨1, by omega, h2⟩
  obtain ⟨k, rfl⟩ := Int.eq_ofNat_of_zero_le (show 0 ≤ n by omega)
  exact ⟨k + 2, by omega, rfl⟩
theorem cmpOf_ok {n : Int} : ∀ {a : Nat}, Stands n a → CmpOK n (cmpOf a)
  | 0, h => cmpLow_ok h
  | 1, h => cmpHigh_ok h
  | _ + 2, _ => fun b c r h => by cases h
theorem numOf_val {V : Va} {letter : Nat} {n : Int} (hs : V.sym letter = .int .i64 n) : ∀ {a : Nat}, Stands n a → (numOf letter a).val V = .int .i64 n
  | 0, _ => hs
  | 1, _ => hs
  | k + 2, h => by
    have h : n = (k : Int) := h
    subst h
    rfl
theorem numOf_on (letter a : Nat) : (numOf letter a).on fun _ => False := by
  match a with
  | 0 => trivial
  | 1 => trivial
  | k + 2 => trivial

noncomputable def cmp2 (a b : Nat) : CmpT := fun k => if Nat.beq k 0 then cmpOf a else if Nat.beq k 6 then cmpOf b else fun _ _ => none
noncomputable def S2 (n m : Int) : Nat → Value := fun k => if Nat.beq k 6 then .int .i64 m else .int .i64 n
theorem cmp2_ok {n m : Int} {a b : Nat} (ha : Stands n a) (hb : Stands m b) : CmpK (S2 n m) (cmp2 a b) := by
  intro k
  unfold cmp2
  by_cases h0 : Nat.beq k 0 = true
  · have e := Nat.eq_of_beq_eq_true h0
    subst e
    exact .inl ⟨n, rfl, cmpOf_ok ha⟩
  · rw [if_neg h0]
    by_cases h6 : Nat.beq k 6 = true
    · have e := Nat.eq_of_beq_eq_true h6
      subst e
      exact .inl ⟨m, rfl, cmpOf_ok hb⟩
    · rw [if_neg h6]
      exact .inr fun _ _ => rfl

noncomputable def names1 (a b : Nat) : Bool := isTrue (callK (cmp2 a b) sumP 6 [numOf 0 a, numOf 6 b] Mem.empty)
theorem names_use {n m : Int} {a b : Nat} (ha : Stands n a) (hb : Stands m b) (h : names1 a b = true) (w : World) : Calls Try.prog 6 #[.int .i64 n, .int .i64 m] w (BoolP w true) := by
  have hS : ∀ k, (S2 n m k).oneCell' = true := fun k => by unfold S2; split <;> rfl
  refine true_of_run (X := ctxK (cmp2 a b) (S2 n m)) (call := callK (cmp2 a b) sumP) (f := 6) (args := [numOf 0 a, numOf 6 b]) (callK_ok hS (cmp2_ok ha hb) (sumP_ok _ rfl)) h (fun _ _ _ => trivial) ?_ w ?_
  · intro s hs
    rw [List.mem_cons, List.mem_singleton] at hs
    rcases hs with rfl | rfl
    · exact numOf_on 0 a
    · exact numOf_on 6 b
  · intro V hV
    simp only [List.map_cons, List.map_nil]
    rw [numOf_val (n := n) (by rw [hV]; rfl) ha, numOf_val (n := m) (by rw [hV]; rfl) hb]
end Go.Proofs.Ytnkdpcalgllnbaa.Co
