/-
  CondTells: the run's letters and what is asked of them.
-/
import Derived.Test.YtnkdpcalgllnbaaCoJ
namespace Go.Proofs.Ytnkdpcalgllnbaa.Co
open Go Go.RowKit Go.Proofs.Ytnkdpcalgllnbaa.Sy

noncomputable def litB (b : Bool) : SV := .one (.lit (.bool b))
noncomputable def tBin (cmp : BinOp → Int → Option Bool) (long : Bool) (u : Nat) (b : BinOp) : Option SV → Option SV → Option SV
  | some (.one (.sym k)), some (.one (.lit (.int .i64 c))) =>
    if Nat.beq k 0 then (cmp b c).map litB else
    if Nat.beq k 10 then (match b, c with | .gtr, .ofNat d => if Nat.beq d 100 then some (litB long) else none | _, _ => none) else none
  | some (.one (.sym j)), some (.one (.sym k)) => match b with
    | .eql => if Nat.beq j k && (Nat.beq j 8 || Nat.beq j 9 && Nat.beq u 4) then some (litB true) else none
    | _ => none
  | _, _ => none
noncomputable def tLen (ts : List Nat) (x : Option SV) : Option SV :=
  match ts, x with
  | [t], some (.one (.sym 7)) => if Nat.beq t 9 then some (.one (.sym 10)) else none
  | _, _ => none
noncomputable def tCall (ev : Operand → Option SV) : Callee → List Operand → List Nat → Option SV
  | .builtin .len, [x], ts => tLen ts (ev x)
  | _, _, _ => none
noncomputable def oraT (cmp : BinOp → Int → Option Bool) (long : Bool) (op : Op) (ev : Operand → Option SV) : Option SV :=
  match op with
  | .binOp b u x y _ => tBin cmp long u b (ev x) (ev y)
  | .call c => tCall ev c.callee c.args.toList c.argTypes.toList
  | _ => none

/-- What the letters stand for. -/
noncomputable def St (n : Int) (c z s o p : Bool) (t : ByteArray) : Nat → Value
  | 0 => .int .i64 n
  | 1 => .bool c
  | 2 => .bool z
  | 3 => .bool s
  | 4 => .bool o
  | 5 => .bool p
  | 7 => .string t
  | 8 => .int .i64 (paN t : Int)
  | 9 => .bool (paB t)
  | 10 => .int .i64 (t.size : Int)
  | _ => .bool false
theorem St_one (n : Int) (c z s o p : Bool) (t : ByteArray) : ∀ k, (St n c z s o p t k).oneCell' = true := by
  intro k
  unfold St
  split <;> rfl

theorem under4 : Try.prog.underlying 4 = some .bool := by kernel_rfl
theorem under9 : Try.prog.underlying 9 = some .string := by kernel_rfl

theorem oraT_ok {n : Int} {c z s o p : Bool} {t : ByteArray} {cmp : BinOp → Int → Option Bool} {long : Bool} (hc : CmpOK n cmp) (hl : long = decide ((t.size : Int) > 100)) :
    ∀ op ev r, oraT cmp long op ev = some r → ∀ o' : Oper, o'.op = op → ∀ V : Va, V.sym = St n c z s o p t → ∀ ρ : Operand → Value, (∀ x u, ev x = some u → ρ x = u.val V) → (∀ w, (execOp ρ o').run Try.prog w = .ok (.value (r.val V)) w) ∧ r.on fun _ => False := by
  intro op ev r h o' ho V hV ρ hρ
  unfold oraT at h
  split at h
  case h_3 => cases h
  · rename_i b u x y u'
    unfold tBin at h
    split at h
    case h_3 => cases h
    · rename_i k d hx hy
      have h2 : ρ y = .int .i64 d := hρ y _ hy
      by_cases h0 : Nat.beq k 0 = true
      · rw [if_pos h0] at h
        obtain ⟨q, hq, rfl⟩ := Option.map_eq_some_iff.1 h
        have e := Nat.eq_of_beq_eq_true h0
        subst e
        have h1 : ρ x = .int .i64 n := by rw [hρ x _ hx, SV.val, At.val, hV]; rfl
        refine ⟨fun w => ?_, trivial⟩
        unfold execOp
        simp only [ho, h1, h2]
        rcases hc b d q hq with ⟨rfl, rfl⟩ | ⟨rfl, rfl⟩ | ⟨rfl, rfl⟩ | ⟨rfl, rfl⟩ | ⟨rfl, rfl⟩
        all_goals simp [eqGuard, binOp, Op.intCmp, litB, SV.val, At.val]
      · rw [if_neg h0] at h
        by_cases h10 : Nat.beq k 10 = true
        · rw [if_pos h10] at h
          have e := Nat.eq_of_beq_eq_true h10
          subst e
          have h1 : ρ x = .int .i64 (t.size : Int) := by rw [hρ x _ hx, SV.val, At.val, hV]; rfl
          split at h
          case h_2 => cases h
          rename_i b' d'
          split at h
          case isFalse => cases h
          rename_i hd
          have e := Nat.eq_of_beq_eq_true hd
          subst e
          cases h
          refine ⟨fun w => ?_, trivial⟩
          unfold execOp
          simp only [ho, h1, h2]
          simp [eqGuard, binOp, Op.intCmp, litB, SV.val, At.val, hl]
        · rw [if_neg h10] at h
          cases h
    · rename_i j k hx hy
      split at h
      case h_2 => cases h
      split at h
      case isFalse => cases h
      rename_i hj
      cases h
      simp only [Bool.and_eq_true, Bool.or_eq_true] at hj
      have e := Nat.eq_of_beq_eq_true hj.1
      subst e
      refine ⟨fun w => ?_, trivial⟩
      rcases hj.2 with hj | hj
      · have e := Nat.eq_of_beq_eq_true hj
        subst e
        have h1 : ρ x = .int .i64 (paN t : Int) := by rw [hρ x _ hx, SV.val, At.val, hV]; rfl
        have h2 : ρ y = .int .i64 (paN t : Int) := by rw [hρ y _ hy, SV.val, At.val, hV]; rfl
        unfold execOp
        simp only [ho, h1, h2]
        simp [eqGuard, binOp, Op.intCmp, litB, SV.val, At.val]
      · have e := Nat.eq_of_beq_eq_true hj.1
        have e4 := Nat.eq_of_beq_eq_true hj.2
        subst e
        subst e4
        have h1 : ρ x = .bool (paB t) := by rw [hρ x _ hx, SV.val, At.val, hV]; rfl
        have h2 : ρ y = .bool (paB t) := by rw [hρ y _ hy, SV.val, At.val, hV]; rfl
        unfold execOp
        simp only [ho, h1, h2]
        simp [eqGuard, binOp, litB, SV.val, At.val, run_equal_bool _ 4 _ _ under4]
  · rename_i cl
    obtain ⟨callee, args, ats⟩ := cl
    simp only at h
    unfold tCall at h
    split at h
    case h_2 => cases h
    rename_i ts x ha
    unfold tLen at h
    split at h
    case h_2 => cases h
    rename_i t9 ht hx
    split at h
    case isFalse => cases h
    rename_i h9
    have e := Nat.eq_of_beq_eq_true h9
    subst e
    cases h
    have e1 : args = #[x] := Array.ext' ha
    have e2 : ats = #[9] := Array.ext' ht
    subst e1
    subst e2
    have h1 : ρ x = .string t := by rw [hρ x _ hx, SV.val, At.val, hV]; rfl
    refine ⟨fun w => ?_, trivial⟩
    unfold execOp
    simp only [ho, resolve, invoke, Sem.run_bind, Sem.run_pure, Result.andThen_ok]
    simp only [List.map_toArray, List.map_cons, List.map_nil, h1, builtin, SV.val, At.val, hV]
    simp [Builtin.len_, run_underlying under9, goInt, St]

noncomputable def neqT (cmp : BinOp → Int → Option Bool) (k : Nat) (a : Int) : Bool := if Nat.beq k 0 then (match cmp .eql a with | some false => true | _ => false) else false
noncomputable def Ct (cmp : BinOp → Int → Option Bool) (long : Bool) : Cfg := { P := Try.prog, FT := ftOf, neq := neqT cmp, ora := oraT cmp long }
noncomputable def ctxT (cmp : BinOp → Int → Option Bool) (long : Bool) (S : Nat → Value) : Ctx := { C := Ct cmp long, S := S, lp := 0, LI := fun _ _ _ => True }
theorem neqT_ok {n : Int} {cmp : BinOp → Int → Option Bool} (hc : CmpOK n cmp) {k : Nat} {a : Int} (h : neqT cmp k a = true) : k = 0 ∧ n ≠ a := by
  unfold neqT at h
  split at h
  case isFalse => cases h
  rename_i hk
  split at h
  case h_2 => cases h
  rename_i hcmp
  refine ⟨Nat.eq_of_beq_eq_true hk, ?_⟩
  rcases hc .eql a false hcmp with ⟨h1, _⟩ | ⟨h1, _⟩ | ⟨h1, _⟩ | ⟨h1, _⟩ | ⟨_, h1⟩
  · cases h1
  · cases h1
  · cases h1
  · cases h1
  · intro e
    subst e
    simp at h1

noncomputable def sumT : CallT := fun f args m =>
  if Nat.beq f 15 || Nat.beq f 16 then (match args with | [.one (.sym 7)] => some (.tup [.sym 8, .sym 9], m) | _ => none) else sumAw f args m
noncomputable def callT (cmp : BinOp → Int → Option Bool) (long : Bool) : CallT := callF (Ct cmp long) sumT noYld (fun call => drawRun (Ct cmp long) call noYld) 12

theorem ctxT_ok {n : Int} {c z s o p : Bool} {t : ByteArray} {cmp : BinOp → Int → Option Bool} {long : Bool} (hc : CmpOK n cmp) (hl : long = decide ((t.size : Int) > 100)) : XOK (ctxT cmp long (St n c z s o p t)) := by
  refine ⟨St_one n c z s o p t, fun k a h => ?_, oraT_ok hc hl, fun _ _ _ _ _ _ _ _ _ _ => trivial⟩
  obtain ⟨rfl, h1⟩ := neqT_ok hc h
  exact ⟨n, rfl, fun e => h1 e.symm⟩

theorem parse_give {D : Nat → Prop} {V : Va} {w : World} {m : Mem} {f : FuncId} {n : Int} {c z s o p : Bool} {t : ByteArray} (hm : RelM D V m w) (hV : V.sym = St n c z s o p t)
    (h : Calls Try.prog f #[.string t] w (ValP w (.tuple #[.int .i64 (paN t : Int), .bool (paB t)]))) : Calls Try.prog f #[.string t] w (Gives D V w m (.tup [.sym 8, .sym 9]) m) := by
  refine h.mono ?_
  rintro e w' ⟨rfl, hb⟩
  obtain ⟨h1, h2⟩ := gives_of_below hm hb
  refine ⟨V, ?_, h1, h2, fun a ha => ?_⟩
  · simp only [SV.val, List.map_cons, List.map_nil, At.val, hV]
    rfl
  · rw [List.mem_cons, List.mem_singleton] at ha
    rcases ha with rfl | rfl <;> trivial

theorem sumT_ok {n : Int} {c z s o p : Bool} {t : ByteArray} {cmp : BinOp → Int → Option Bool} {long : Bool} : CallOK (ctxT cmp long (St n c z s o p t)) sumT := by
  intro f args m r m' h
  unfold sumT at h
  by_cases e : (Nat.beq f 15 || Nat.beq f 16) = true
  · rw [if_pos e] at h
    split at h
    case h_2 => cases h
    cases h
    have key : ∀ g : FuncId, (∀ xs w, (callFunc g xs).run Try.prog w = .ok (.enter g xs) w) → (∀ w, Calls Try.prog g #[.string t] w (ValP w (.tuple #[.int .i64 (paN t : Int), .bool (paB t)]))) →
        (∀ xs w, (callFunc g xs).run (ctxT cmp long (St n c z s o p t)).C.P w = .ok (.enter g xs) w) ∧ ∀ (D : Nat → Prop) (V : Va) (w : World), Sy.Good (ctxT cmp long (St n c z s o p t)) V → RelM D V m w → (ctxT cmp long (St n c z s o p t)).LI D V w → (∀ s' ∈ [SV.one (At.sym 7)], s'.on D) →
          Calls (ctxT cmp long (St n c z s o p t)).C.P g (([SV.one (At.sym 7)]).map (SV.val V)).toArray w (Gives D V w m (.tup [.sym 8, .sym 9]) m) := by
      intro g hg hw
      refine ⟨hg, fun D V w hgood hm _ _ => ?_⟩
      have hV : V.sym = St n c z s o p t := hgood.sym
      have h7 : (([SV.one (At.sym 7)]).map (SV.val V)).toArray = #[.string t] := by
        simp only [List.map_cons, List.map_nil, SV.val, At.val, hV]
        rfl
      rw [h7]
      exact parse_give hm hV (hw w)
    rw [Bool.or_eq_true] at e
    rcases e with e | e
    · have e' := Nat.eq_of_beq_eq_true e
      clear e
      subst e'
      exact key 15 Try.call15 (parse15 t)
    · have e' := Nat.eq_of_beq_eq_true e
      clear e
      subst e'
      exact key 16 Try.call16 (parse16 t)
  · rw [if_neg e] at h
    exact sumAw_ok _ rfl f args m r m' h

theorem callT_ok {n : Int} {c z s o p : Bool} {t : ByteArray} {cmp : BinOp → Int → Option Bool} {long : Bool} (hc : CmpOK n cmp) (hl : long = decide ((t.size : Int) > 100)) : CallOK (ctxT cmp long (St n c z s o p t)) (callT cmp long) :=
  callF_sound (X := ctxT cmp long (St n c z s o p t)) (ctxT_ok hc hl) sumT_ok (noYld_ok _) (drawRun_ok (X := ctxT cmp long (St n c z s o p t)) (ctxT_ok hc hl) (noYld_ok _) follows_mixed) ftOf_ok 12

theorem tells_use0 {n : Int} {cmp : BinOp → Int → Option Bool} {q : SV} {long : Bool} (c z s o p : Bool) (t : ByteArray) {c' z' s' o' p' : Option Bool} (hc : CmpOK n cmp) (hq : ∀ V : Va, V.sym 0 = .int .i64 n → q.val V = .int .i64 n) (hqo : q.on fun _ => False) (hl : long = decide ((t.size : Int) > 100))
    (h : isTrue (callT cmp long 5 [q, .one (.sym 7), .agg (fl c' z' s' o' p')] Mem.empty) = true) (h1 : okF c' c) (h2 : okF z' z) (h3 : okF s' s) (h4 : okF o' o) (h5 : okF p' p) (w : World) :
    Calls Try.prog 5 #[.int .i64 n, .string t, .agg #[.bool c, .bool z, .bool s, .bool o, .bool p]] w (BoolP w true) := by
  refine true_of_run (X := ctxT cmp long (St n c z s o p t)) (callT_ok hc hl) h (fun _ _ _ => trivial) ?_ w ?_
  · intro u hu
    simp only [List.mem_cons, List.not_mem_nil, or_false] at hu
    rcases hu with rfl | rfl | rfl
    · exact hqo
    · trivial
    · intro b hb
      simp only [fl, List.mem_cons, List.not_mem_nil, or_false] at hb
      have key : ∀ k x, (flc k x).on fun _ => False := fun k x => by cases x <;> trivial
      rcases hb with rfl | rfl | rfl | rfl | rfl <;> exact key _ _
  · intro V hV
    have e : ∀ k, V.sym k = St n c z s o p t k := fun k => by rw [hV]; rfl
    simp only [List.map_cons, List.map_nil]
    rw [hq V (e 0)]
    simp only [List.map_cons, List.map_nil, SV.val, fl, flc_val h1 (e 1), flc_val h2 (e 2), flc_val h3 (e 3), flc_val h4 (e 4), flc_val h5 (e 5)]
    simp only [At.val, e]
    rfl
theorem tells_use {n : Int} {a : Nat} {long : Bool} (c z s o p : Bool) (t : ByteArray) {c' z' s' o' p' : Option Bool} (ha : Stands n a) (hl : long = decide ((t.size : Int) > 100))
    (h : isTrue (callT (cmpOf a) long 5 [numOf 0 a, .one (.sym 7), .agg (fl c' z' s' o' p')] Mem.empty) = true) (h1 : okF c' c) (h2 : okF z' z) (h3 : okF s' s) (h4 : okF o' o) (h5 : okF p' p) (w : World) :
    Calls Try.prog 5 #[.int .i64 n, .string t, .agg #[.bool c, .bool z, .bool s, .bool o, .bool p]] w (BoolP w true) :=
  tells_use0 c z s o p t (cmpOf_ok ha) (fun _ h => numOf_val h ha) (numOf_on 0 a) hl h h1 h2 h3 h4 h5 w

/-- A flag that is asked: both values; one that is not: a letter. -/
noncomputable def allN (q : Bool) (f : Option Bool → Bool) : Bool :=
  match q with
  | true => f (some true) && f (some false)
  | false => f none
theorem allN_use {q : Bool} {f : Option Bool → Bool} (h : allN q f = true) (b : Bool) : ∃ x, okF x b ∧ f x = true := by
  cases q with
  | false => exact ⟨none, okn, h⟩
  | true =>
    have h : (f (some true) && f (some false)) = true := h
    rw [Bool.and_eq_true] at h
    cases b
    · exact ⟨_, oks, h.2⟩
    · exact ⟨_, oks, h.1⟩
noncomputable def pairOf : Nat → Nat
  | 0 => 9
  | 1 => 9
  | k + 2 => k / 2
noncomputable def tells (a : Nat) : Bool :=
  allN ([1, 3].any (Nat.beq (pairOf a))) fun c => allN ([2, 3, 7].any (Nat.beq (pairOf a))) fun z => allN ([4, 6, 7].any (Nat.beq (pairOf a))) fun s => allN ([0, 6, 7].any (Nat.beq (pairOf a))) fun o => allN (Nat.beq (pairOf a) 5) fun p =>
    isTrue (callT (cmpOf a) false 5 [numOf 0 a, .one (.sym 7), .agg (fl c z s o p)] Mem.empty)
end Go.Proofs.Ytnkdpcalgllnbaa.Co
