/-
  NameTells: the run's letters and what is asked of them.
-/
import Derived.Test.YtnkdpcalgllnbaaDoorNbA
namespace Go.Proofs.YtnkdpcalgllnbaaDoor.Nb
open Go Go.RowKit Go.Proofs.YtnkdpcalgllnbaaDoor Go.Proofs.YtnkdpcalgllnbaaDoor.Sy Go.Proofs.YtnkdpcalgllnbaaDoor.Na Go.Proofs.YtnkdpcalgllnbaaDoor.Nc Go.Proofs.YtnkdpcalgllnbaaDoor.Np Go.Proofs.YtnkdpcalgllnbaaDoor.Nr

/-- What a comparison with a literal says. -/
def CmpOK (n : Int) (cmp : BinOp → Int → Option Bool) : Prop := ∀ b c r, cmp b c = some r → (b = .lss ∧ r = decide (n < c)) ∨ (b = .leq ∧ r = decide (n ≤ c)) ∨ (b = .gtr ∧ r = decide (n > c)) ∨ (b = .geq ∧ r = decide (n ≥ c)) ∨ (b = .eql ∧ r = (n == c))
/-- A number below one. -/
noncomputable def cmpL : BinOp → Int → Option Bool
  | .lss, .ofNat c => if Nat.ble 1 c then some true else none
  | .leq, .ofNat _ => some true
  | .gtr, .ofNat _ => some false
  | .geq, .ofNat c => if Nat.ble 1 c then some false else none
  | .eql, .ofNat c => if Nat.ble 1 c then some false else none
  | _, _ => none
theorem cmpL_ok {n : Int} (h : n < 1) : CmpOK n cmpL := by
  intro b c r hr
  unfold cmpL at hr
  split at hr
  case h_6 => cases hr
  · split at hr
    case isFalse => cases hr
    rename_i hb
    have hb' := Nat.le_of_ble_eq_true hb
    cases hr
    exact .inl ⟨rfl, by simp; omega⟩
  · cases hr
    exact .inr (.inl ⟨rfl, by simp; omega⟩)
  · cases hr
    exact .inr (.inr (.inl ⟨rfl, by simp; omega⟩))
  · split at hr
    case isFalse => cases hr
    rename_i hb
    have hb' := Nat.le_of_ble_eq_true hb
    cases hr
    exact .inr (.inr (.inr (.inl ⟨rfl, by simp; omega⟩)))
  · split at hr
    case isFalse => cases hr
    rename_i hb
    have hb' := Nat.le_of_ble_eq_true hb
    cases hr
    exact .inr (.inr (.inr (.inr ⟨rfl, by simp; omega⟩)))
/-- A number above 322. -/
noncomputable def cmpH : BinOp → Int → Option Bool
  | .lss, .ofNat c => if Nat.ble c 323 then some false else none
  | .leq, .ofNat c => if Nat.ble c 322 then some false else none
  | .gtr, .ofNat c => if Nat.ble c 322 then some true else none
  | .geq, .ofNat c => if Nat.ble c 323 then some true else none
  | .eql, .ofNat c => if Nat.ble c 322 then some false else none
  | _, _ => none
theorem cmpH_ok {n : Int} (h : 322 < n) : CmpOK n cmpH := by
  intro b c r hr
  unfold cmpH at hr
  split at hr
  case h_6 => cases hr
  all_goals
    split at hr
    case isFalse => cases hr
    rename_i hb
    have hb' := Nat.le_of_ble_eq_true hb
    cases hr
  · exact .inl ⟨rfl, by simp; omega⟩
  · exact .inr (.inl ⟨rfl, by simp; omega⟩)
  · exact .inr (.inr (.inl ⟨rfl, by simp; omega⟩))
  · exact .inr (.inr (.inr (.inl ⟨rfl, by simp; omega⟩)))
  · exact .inr (.inr (.inr (.inr ⟨rfl, by simp; omega⟩)))

noncomputable def litB (b : Bool) : SV := .one (.lit (.bool b))
noncomputable def tBin (cmp : BinOp → Int → Option Bool) (long : Bool) (u : Nat) (b : BinOp) : Option SV → Option SV → Option SV
  | some (.one (.sym k)), some (.one (.lit (.int .i64 c))) =>
    if Nat.beq k 0 then (cmp b c).map litB else
    if Nat.beq k 10 then (match b, c with | .gtr, .ofNat d => if Nat.beq d 100 then some (litB long) else none | _, _ => none) else none
  | some (.one (.sym j)), some (.one (.sym k)) => match b with
    | .eql => if Nat.beq j k && (Nat.beq j 60 || Nat.beq j 61 || Nat.beq j 62 && Nat.beq u 4) then some (litB true) else none
    | _ => none
  | _, _ => none
noncomputable def tLen (ts : List Nat) (x : Option SV) : Option SV :=
  match ts, x with
  | [t], some (.one (.sym 1)) => if Nat.beq t 9 then some (.one (.sym 10)) else none
  | _, _ => none
noncomputable def tCall (ev : Operand → Option SV) : Callee → List Operand → List Nat → Option SV
  | .builtin .len, [x], ts => tLen ts (ev x)
  | _, _, _ => none
noncomputable def oraT (cmp : BinOp → Int → Option Bool) (long : Bool) (op : Op) (ev : Operand → Option SV) : Option SV :=
  match op with
  | .binOp b u x y _ => tBin cmp long u b (ev x) (ev y)
  | .call c => tCall ev c.callee c.args.toList c.argTypes.toList
  | _ => none
/-- What the letters stand for. -/
noncomputable def St (n : Int) (t : ByteArray) : Nat → Value
  | 0 => .int .i64 n
  | 1 => .string t
  | 10 => .int .i64 (t.size : Int)
  | 60 => .string (nameOf n)
  | 61 => .int .i64 (parN t : Int)
  | 62 => .bool (parB t)
  | _ => .bool false
theorem St_one (n : Int) (t : ByteArray) : ∀ k, (St n t k).oneCell' = true := by
  intro k
  unfold St
  split <;> rfl
theorem under4 : Tryd.prog.underlying 4 = some .bool := by kernel_rfl
theorem under9 : Tryd.prog.underlying 9 = some .string := by kernel_rfl

theorem oraT_ok {n : Int} {t : ByteArray} {cmp : BinOp → Int → Option Bool} {long : Bool} (hc : CmpOK n cmp) (hl : long = decide ((t.size : Int) > 100)) :
    ∀ op ev r, oraT cmp long op ev = some r → ∀ o' : Oper, o'.op = op → ∀ V : Va, V.sym = St n t → ∀ ρ : Operand → Value, (∀ x u, ev x = some u → ρ x = u.val V) → (∀ w, (execOp ρ o').run Tryd.prog w = .ok (.value (r.val V)) w) ∧ r.on fun _ => False := by
  intro op ev r h o' ho V hV ρ hρ
  unfold oraT at h
  split at h
  case h_3 => cases h
  · rename_i b u x y u'
    unfold tBin at h
    split at h
    case h_3 => cases h
    · rename_i k d hx hy
      have h2 : ρ y = .int .i64 d := hρ y _ hy
      by_cases h0 : Nat.beq k 0 = true
      · rw [if_pos h0] at h
        obtain ⟨q, hq, rfl⟩ := Option.map_eq_some_iff.1 h
        have e := Nat.eq_of_beq_eq_true h0
        subst e
        have h1 : ρ x = .int .i64 n := by rw [hρ x _ hx, SV.val, At.val, hV]; rfl
        refine ⟨fun w => ?_, trivial⟩
        unfold execOp
        simp only [ho, h1, h2]
        rcases hc b d q hq with ⟨rfl, rfl⟩ | ⟨rfl, rfl⟩ | ⟨rfl, rfl⟩ | ⟨rfl, rfl⟩ | ⟨rfl, rfl⟩
        all_goals simp [eqGuard, binOp, Op.intCmp, litB, SV.val, At.val]
      · rw [if_neg h0] at h
        by_cases h10 : Nat.beq k 10 = true
        · rw [if_pos h10] at h
          have e := Nat.eq_of_beq_eq_true h10
          subst e
          have h1 : ρ x = .int .i64 (t.size : Int) := by rw [hρ x _ hx, SV.val, At.val, hV]; rfl
          split at h
          case h_2 => cases h
          rename_i b' d'
          split at h
          case isFalse => cases h
          rename_i hd
          have e := Nat.eq_of_beq_eq_true hd
          subst e
          cases h
          refine ⟨fun w => ?_, trivial⟩
          unfold execOp
          simp only [ho, h1, h2]
          simp [eqGuard, binOp, Op.intCmp, litB, SV.val, At.val, hl]
        · rw [if_neg h10] at h
          cases h
    · rename_i j k hx hy
      split at h
      case h_2 => cases h
      split at h
      case isFalse => cases h
      rename_i hj
      cases h
      simp only [Bool.and_eq_true, Bool.or_eq_true] at hj
      have e := Nat.eq_of_beq_eq_true hj.1
      subst e
      refine ⟨fun w => ?_, trivial⟩
      rcases hj.2 with (hj | hj) | hj
      · have e := Nat.eq_of_beq_eq_true hj
        subst e
        have h1 : ρ x = .string (nameOf n) := by rw [hρ x _ hx, SV.val, At.val, hV]; rfl
        have h2 : ρ y = .string (nameOf n) := by rw [hρ y _ hy, SV.val, At.val, hV]; rfl
        unfold execOp
        simp only [ho, h1, h2]
        simp [eqGuard, binOp, Op.stringOp, litB, SV.val, At.val]
      · have e := Nat.eq_of_beq_eq_true hj
        subst e
        have h1 : ρ x = .int .i64 (parN t : Int) := by rw [hρ x _ hx, SV.val, At.val, hV]; rfl
        have h2 : ρ y = .int .i64 (parN t : Int) := by rw [hρ y _ hy, SV.val, At.val, hV]; rfl
        unfold execOp
        simp only [ho, h1, h2]
        simp [eqGuard, binOp, Op.intCmp, litB, SV.val, At.val]
      · have e := Nat.eq_of_beq_eq_true hj.1
        have e4 := Nat.eq_of_beq_eq_true hj.2
        subst e
        subst e4
        have h1 : ρ x = .bool (parB t) := by rw [hρ x _ hx, SV.val, At.val, hV]; rfl
        have h2 : ρ y = .bool (parB t) := by rw [hρ y _ hy, SV.val, At.val, hV]; rfl
        unfold execOp
        simp only [ho, h1, h2]
        simp [eqGuard, binOp, litB, SV.val, At.val, run_equal_bool _ 4 _ _ under4]
  · rename_i cl
    obtain ⟨callee, args, ats⟩ := cl
    simp only at h
    unfold tCall at h
    split at h
    case h_2 => cases h
    rename_i ts x ha
    unfold tLen at h
    split at h
    case h_2 => cases h
    rename_i t9 ht hx
    split at h
    case isFalse => cases h
    rename_i h9
    have e := Nat.eq_of_beq_eq_true h9
    subst e
    cases h
    have e1 : args = #[x] := Array.ext' ha
    have e2 : ats = #[9] := Array.ext' ht
    subst e1
    subst e2
    have h1 : ρ x = .string t := by rw [hρ x _ hx, SV.val, At.val, hV]; rfl
    refine ⟨fun w => ?_, trivial⟩
    unfold execOp
    simp only [ho, resolve, invoke, Sem.run_bind, Sem.run_pure, Result.andThen_ok]
    simp only [List.map_toArray, List.map_cons, List.map_nil, h1, builtin, SV.val, At.val, hV]
    simp [Builtin.len_, run_underlying under9, goInt, St]

noncomputable def neqT (cmp : BinOp → Int → Option Bool) (k : Nat) (a : Int) : Bool := if Nat.beq k 0 then (match cmp .eql a with | some false => true | _ => false) else false
theorem neqT_ok {n : Int} {cmp : BinOp → Int → Option Bool} (hc : CmpOK n cmp) {k : Nat} {a : Int} (h : neqT cmp k a = true) : k = 0 ∧ n ≠ a := by
  unfold neqT at h
  split at h
  case isFalse => cases h
  rename_i hk
  split at h
  case h_2 => cases h
  rename_i hcmp
  refine ⟨Nat.eq_of_beq_eq_true hk, ?_⟩
  rcases hc .eql a false hcmp with ⟨h1, _⟩ | ⟨h1, _⟩ | ⟨h1, _⟩ | ⟨h1, _⟩ | ⟨_, h1⟩
  · cases h1
  · cases h1
  · cases h1
  · cases h1
  · intro e
    subst e
    simp at h1
noncomputable def Ct (cmp : BinOp → Int → Option Bool) (long : Bool) : Cfg := { P := Tryd.prog, FT := ftOf, neq := neqT cmp, ora := oraT cmp long }
noncomputable def sumT : CallT := fun f args m =>
  if isName f then (match args with | [.one (.sym 0)] => some (.one (.sym 60), m) | _ => sumL f args m) else
  if isParse f then (match args with | [.one (.sym 1)] => some (.tup [.sym 61, .sym 62], m) | _ => sumL f args m) else
  if Nat.beq f 17 then (match args with | [] => some (litB true, m) | _ => none) else none
noncomputable def callT (cmp : BinOp → Int → Option Bool) (long : Bool) : CallT := callF (Ct cmp long) sumT noYld (fun call => drawRun (Ct cmp long) call noYld) 12
theorem xokT {n : Int} {t : ByteArray} {cmp : BinOp → Int → Option Bool} {long : Bool} (hc : CmpOK n cmp) (hl : long = decide ((t.size : Int) > 100)) : XOK (cx (Ct cmp long) (St n t)) := by
  refine ⟨St_one n t, fun k a h => ?_, oraT_ok hc hl, fun _ _ _ _ _ _ _ _ _ _ => trivial⟩
  obtain ⟨rfl, h1⟩ := neqT_ok hc h
  exact ⟨n, rfl, fun e => h1 e.symm⟩
theorem sumT_ok {n : Int} {t : ByteArray} {cmp : BinOp → Int → Option Bool} {long : Bool} : CallOK (cx (Ct cmp long) (St n t)) sumT := by
  intro f args m r m' h
  unfold sumT at h
  by_cases e : isName f = true
  · rw [if_pos e] at h
    split at h
    · cases h
      refine ⟨enter_name e, fun D V w hg hm _ _ => ?_⟩
      have hV : V.sym = St n t := hg.sym
      have ha : (([SV.one (At.sym 0)]).map (SV.val V)).toArray = #[.int .i64 n] := by
        simp only [List.map_cons, List.map_nil, SV.val, At.val, hV]
        rfl
      rw [ha]
      refine give_val hm ?_ trivial (name_any e n w)
      simp only [SV.val, At.val, hV]
      rfl
    · exact sumL_ok _ rfl f args m r m' h
  · rw [if_neg e] at h
    by_cases e2 : isParse f = true
    · rw [if_pos e2] at h
      split at h
      · cases h
        refine ⟨enter_parse e2, fun D V w hg hm _ _ => ?_⟩
        have hV : V.sym = St n t := hg.sym
        have ha : (([SV.one (At.sym 1)]).map (SV.val V)).toArray = #[.string t] := by
          simp only [List.map_cons, List.map_nil, SV.val, At.val, hV]
          rfl
        rw [ha]
        refine give_val hm ?_ ?_ (parse_all e2 t w)
        · simp only [SV.val, List.map_cons, List.map_nil, At.val, hV]
          rfl
        · intro a ha
          rw [List.mem_cons, List.mem_singleton] at ha
          rcases ha with rfl | rfl <;> trivial
      · exact sumL_ok _ rfl f args m r m' h
    · rw [if_neg e2] at h
      by_cases e3 : Nat.beq f 17 = true
      · rw [if_pos e3] at h
        have e' := Nat.eq_of_beq_eq_true e3
        subst e'
        split at h
        case h_2 => cases h
        cases h
        exact ⟨Tryd.call17, fun D V w _ hm _ _ => give_val hm rfl trivial (awake17 w)⟩
      · rw [if_neg e3] at h
        cases h
theorem callT_ok {n : Int} {t : ByteArray} {cmp : BinOp → Int → Option Bool} {long : Bool} (hc : CmpOK n cmp) (hl : long = decide ((t.size : Int) > 100)) : CallOK (cx (Ct cmp long) (St n t)) (callT cmp long) :=
  callF_sound (X := cx (Ct cmp long) (St n t)) (xokT hc hl) sumT_ok (noYld_ok _) (drawRun_ok (X := cx (Ct cmp long) (St n t)) (xokT hc hl) (noYld_ok _) follows_mixed) ftOf_ok 12
theorem tells_use {n : Int} {t : ByteArray} {cmp : BinOp → Int → Option Bool} {q : SV} {long : Bool} (hc : CmpOK n cmp) (hq : ∀ V : Va, V.sym 0 = .int .i64 n → q.val V = .int .i64 n) (hqo : q.on fun _ => False) (hl : long = decide ((t.size : Int) > 100))
    (h : isTrue (callT cmp long 3 [q, .one (.sym 1)] Mem.empty) = true) (w : World) : Calls Tryd.prog 3 #[.int .i64 n, .string t] w (BoolP w true) := by
  refine true_of_run (X := cx (Ct cmp long) (St n t)) (callT_ok hc hl) h (fun _ _ _ => trivial) ?_ w ?_
  · intro u hu
    simp only [List.mem_cons, List.not_mem_nil, or_false] at hu
    rcases hu with rfl | rfl
    · exact hqo
    · trivial
  · intro V hV
    simp only [List.map_cons, List.map_nil]
    rw [hq V (by rw [hV]; rfl)]
    simp only [SV.val, At.val, hV]
    rfl
noncomputable def tellsL (k : Nat) : Bool := isTrue (callT (fun _ _ => none) false 3 [.one (litI (k + 1)), .one (.sym 1)] Mem.empty)
theorem tells_low : isTrue (callT cmpL false 3 [.one (.sym 0), .one (.sym 1)] Mem.empty) = true := by kernel_rfl
theorem tells_high : isTrue (callT cmpH false 3 [.one (.sym 0), .one (.sym 1)] Mem.empty) = true := by kernel_rfl
theorem tells_long : isTrue (callT (fun _ _ => none) true 3 [.one (.sym 0), .one (.sym 1)] Mem.empty) = true := by kernel_rfl
end Go.Proofs.YtnkdpcalgllnbaaDoor.Nb
