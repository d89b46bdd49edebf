/-
  The symbolic run over the seat of cond: letters for a number out of range, for flags; what a closed call leaves.
-/
import Derived.Test.YtnkdpcalgllnbaaSyXc
namespace Go.Proofs.Ytnkdpcalgllnbaa.Co
open Go Go.RowKit Go.Proofs.Ytnkdpcalgllnbaa.Sy

def BoolP (w : World) (r : Bool) (e : Ending) (w' : World) : Prop := e = .returned (.bool r) ∧ Below w.heap.size w w'

/-- What a call that touches no elder block is good for in the run. -/
theorem gives_of_below {D : Nat → Prop} {V : Va} {w w' : World} {m : Mem} (hm : RelM D V m w) (hb : Below w.heap.size w w') : StepM D V w m V w' m ∧ RelM (Dn D m.nxt m.nxt) V m w' := by
  refine ⟨⟨Nat.le_refl _, .refl _ _, fun _ h => h, hb.os, hb.tape, hb.output, ⟨hb.size, fun k o hk _ => ?_⟩, fun b hlt _ => hb.block b hlt, fun i h1 h2 => absurd h2 (by omega)⟩, ?_⟩
  · rw [hb.block k (Array.getElem?_eq_some_iff.1 hk).1]
    exact hk
  · rw [Dn_self]
    refine ⟨hm.dom, fun i o hi => ?_, hm.inj, hm.mlt⟩
    obtain ⟨h1, h2, h3⟩ := hm.ob i o hi
    exact ⟨h1, h2, h3.kept h1 h2 (.refl _ _) (hb.block _ h3.lt)⟩

noncomputable def isTrue : Option (SV × Mem) → Bool
  | some (.one (.lit (.bool true)), _) => true
  | _ => false

/-- A run that ends in true. -/
theorem true_of_run {X : Ctx} {call : CallT} (hC : CallOK X call) {f : FuncId} {args : List SV} (h : isTrue (call f args Mem.empty) = true) (hl : ∀ D V w, X.LI D V w) (hargs : ∀ s ∈ args, s.on fun _ => False) (w : World) {vs : Array Value}
    (hvs : ∀ V : Va, V.sym = X.S → (args.map (SV.val V)).toArray = vs) : Calls X.C.P f vs w (BoolP w true) := by
  unfold isTrue at h
  split at h
  case h_2 => cases h
  rename_i m' hr
  exact call_lit hC hr hl hargs w hvs rfl

noncomputable def S0 : Nat → Value := fun _ => .bool false
theorem awake_run : isTrue (call0 8 [] Mem.empty) = true := by kernel_rfl
theorem awake (w : World) : Calls Try.prog 8 #[] w (BoolP w true) :=
  true_of_run (X := ctx S0 0 fun _ _ _ => True) (call0_ok (fun _ => rfl) li_true) awake_run (fun _ _ _ => trivial) (fun _ h => by cases h) w (fun _ _ => rfl)

noncomputable def sumAw : CallT := fun f args m => if Nat.beq f 8 then (match args with | [] => some (.one (.lit (.bool true)), m) | _ => none) else none
theorem sumAw_ok (X : Ctx) (hP : X.C.P = Try.prog) : CallOK X sumAw := by
  intro f args m r m' h
  unfold sumAw at h
  split at h
  case isFalse => cases h
  rename_i e
  obtain rfl := Nat.eq_of_beq_eq_true e
  split at h
  case h_2 => cases h
  cases h
  refine ⟨by rw [hP]; exact fun xs w => Try.call8 xs w, fun D V w _ hm _ _ => ?_⟩
  rw [hP]
  refine Calls.mono (h := awake w) ?_
  rintro e w' ⟨rfl, hb⟩
  obtain ⟨h1, h2⟩ := gives_of_below hm hb
  exact ⟨V, rfl, h1, h2, trivial⟩

/-! ### A letter for a number -/
/-- What a comparison with a literal says. -/
def CmpOK (n : Int) (cmp : BinOp → Int → Option Bool) : Prop := ∀ b c r, cmp b c = some r → (b = .lss ∧ r = decide (n < c)) ∨ (b = .leq ∧ r = decide (n ≤ c)) ∨ (b = .gtr ∧ r = decide (n > c)) ∨ (b = .geq ∧ r = decide (n ≥ c)) ∨ (b = .eql ∧ r = (n == c))
noncomputable def oraN (cmp : BinOp → Int → Option Bool) (op : Op) (ev : Operand → Option SV) : Option SV :=
  match op with
  | .binOp b _ x y _ => match ev x, ev y with
    | some (.one (.sym 0)), some (.one (.lit (.int .i64 c))) => (cmp b c).map fun r => .one (.lit (.bool r))
    | _, _ => none
  | _ => none

theorem oraN_ok {P : Program} {S : Nat → Value} {n : Int} {cmp : BinOp → Int → Option Bool} (hS : S 0 = .int .i64 n) (hc : CmpOK n cmp) : ∀ op ev s, oraN cmp op ev = some s → ∀ o : Oper, o.op = op → ∀ V : Va, V.sym = S → ∀ ρ : Operand → Value, (∀ x t, ev x = some t → ρ x = t.val V) → (∀ w, (execOp ρ o).run P w = .ok (.value (s.val V)) w) ∧ s.on fun _ => False := by
  intro op ev s h o ho V hV ρ hρ
  unfold oraN at h
  split at h
  case h_2 => cases h
  rename_i b t x y t'
  split at h
  case h_2 => cases h
  rename_i c hx hy
  obtain ⟨r, hr, rfl⟩ := Option.map_eq_some_iff.1 h
  have h1 : ρ x = .int .i64 n := by rw [hρ x _ hx, SV.val, At.val, hV, hS]
  have h2 : ρ y = .int .i64 c := hρ y _ hy
  refine ⟨fun w => ?_, trivial⟩
  unfold execOp
  simp only [ho, h1, h2]
  rcases hc b c r hr with ⟨rfl, rfl⟩ | ⟨rfl, rfl⟩ | ⟨rfl, rfl⟩ | ⟨rfl, rfl⟩ | ⟨rfl, rfl⟩
  all_goals simp [eqGuard, binOp, Op.intCmp, SV.val, At.val]
end Go.Proofs.Ytnkdpcalgllnbaa.Co
