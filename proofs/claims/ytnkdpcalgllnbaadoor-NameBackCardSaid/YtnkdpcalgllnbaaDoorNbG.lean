/-
  NameBack: the first part's letters, and what is asked of them; the second part's.
-/
import Derived.Test.YtnkdpcalgllnbaaDoorNbF
namespace Go.Proofs.YtnkdpcalgllnbaaDoor.Nv
open Go Go.RowKit Go.Proofs.YtnkdpcalgllnbaaDoor Go.Proofs.YtnkdpcalgllnbaaDoor.Sy Go.Proofs.YtnkdpcalgllnbaaDoor.Na Go.Proofs.YtnkdpcalgllnbaaDoor.Nc Go.Proofs.YtnkdpcalgllnbaaDoor.Np Go.Proofs.YtnkdpcalgllnbaaDoor.Nr Go.Proofs.YtnkdpcalgllnbaaDoor.Nb

/-! ### The first part -/
/-- The letters: 0: the number; 1: the text; 2: the other number; 10: the text's length; 63: the other number's name. -/
noncomputable def Sb (n o : Int) (t : ByteArray) : Nat → Value
  | 0 => .int .i64 n
  | 1 => .string t
  | 2 => .int .i64 o
  | 10 => .int .i64 (t.size : Int)
  | 63 => .string (nameOf o)
  | _ => .bool false
theorem Sb_one (n o : Int) (t : ByteArray) : ∀ k, (Sb n o t k).oneCell' = true := by
  intro k
  unfold Sb
  split <;> rfl
noncomputable def bBin (cmp : BinOp → Int → Option Bool) (k : Nat) (same long : Bool) (b : BinOp) : Option SV → Option SV → Option SV
  | some (.one (.sym j)), some (.one (.lit (.int .i64 c))) =>
    if Nat.beq j 0 then (cmp b c).map litB else
    if Nat.beq j 10 then (match b, c with | .gtr, .ofNat d => if Nat.beq d 100 then some (litB long) else none | _, _ => none) else none
  | some (.one (.lit (.int .i64 (.ofNat d)))), some (.one (.sym 2)) => match b with
    | .neq => if Nat.beq d k then some (litB (!same)) else none
    | _ => none
  | some (.one (.sym 63)), some (.one (.lit (.string u))) => match b with
    | .eql => if !same && Nat.ble 1 k && Nat.ble k 322 && sameT u (nameOf (Int.ofNat k)) then some (litB false) else none
    | _ => none
  | _, _ => none
noncomputable def bLen (ts : List Nat) (x : Option SV) : Option SV :=
  match ts, x with
  | [t], some (.one (.sym 1)) => if Nat.beq t 9 then some (.one (.sym 10)) else none
  | _, _ => none
noncomputable def bCall (ev : Operand → Option SV) : Callee → List Operand → List Nat → Option SV
  | .builtin .len, [x], ts => bLen ts (ev x)
  | _, _, _ => none
noncomputable def oraB (cmp : BinOp → Int → Option Bool) (k : Nat) (same long : Bool) (op : Op) (ev : Operand → Option SV) : Option SV :=
  match op with
  | .binOp b _ x y _ => bBin cmp k same long b (ev x) (ev y)
  | .call c => bCall ev c.callee c.args.toList c.argTypes.toList
  | _ => none

/-- How the other number stands to the k-th. -/
structure Oth (o : Int) (k : Nat) (same : Bool) : Prop where
  eq : same = (o == (k : Int))
  ne : same = false → 1 ≤ k → k ≤ 322 → ¬ nameOf o = nameOf (Int.ofNat k)

theorem oraB_ok {n o : Int} {t : ByteArray} {cmp : BinOp → Int → Option Bool} {k : Nat} {same long : Bool} (hc : CmpOK n cmp) (hs : long = decide ((t.size : Int) > 100)) (ho' : Oth o k same) :
    ∀ op ev r, oraB cmp k same long op ev = some r → ∀ o' : Oper, o'.op = op → ∀ V : Va, V.sym = Sb n o t → ∀ ρ : Operand → Value, (∀ x u, ev x = some u → ρ x = u.val V) → (∀ w, (execOp ρ o').run Tryd.prog w = .ok (.value (r.val V)) w) ∧ r.on fun _ => False := by
  intro op ev r h o' ho V hV ρ hρ
  unfold oraB at h
  split at h
  case h_3 => cases h
  · rename_i b u x y u'
    unfold bBin at h
    split at h
    case h_4 => cases h
    · rename_i j d hx hy
      have h2 : ρ y = .int .i64 d := hρ y _ hy
      by_cases h0 : Nat.beq j 0 = true
      · rw [if_pos h0] at h
        obtain ⟨q, hq, rfl⟩ := Option.map_eq_some_iff.1 h
        have e := Nat.eq_of_beq_eq_true h0
        subst e
        have h1 : ρ x = .int .i64 n := by rw [hρ x _ hx, SV.val, At.val, hV]; rfl
        refine ⟨fun w => ?_, trivial⟩
        unfold execOp
        simp only [ho, h1, h2]
        rcases hc b d q hq with ⟨rfl, rfl⟩ | ⟨rfl, rfl⟩ | ⟨rfl, rfl⟩ | ⟨rfl, rfl⟩ | ⟨rfl, rfl⟩
        all_goals simp [eqGuard, binOp, Op.intCmp, litB, SV.val, At.val]
      · rw [if_neg h0] at h
        by_cases h10 : Nat.beq j 10 = true
        · rw [if_pos h10] at h
          have e := Nat.eq_of_beq_eq_true h10
          subst e
          have h1 : ρ x = .int .i64 (t.size : Int) := by rw [hρ x _ hx, SV.val, At.val, hV]; rfl
          split at h
          case h_2 => cases h
          rename_i b' d'
          split at h
          case isFalse => cases h
          rename_i hd
          have e := Nat.eq_of_beq_eq_true hd
          subst e
          cases h
          refine ⟨fun w => ?_, trivial⟩
          unfold execOp
          simp only [ho, h1, h2]
          simp [eqGuard, binOp, Op.intCmp, litB, SV.val, At.val, hs]
        · rw [if_neg h10] at h
          cases h
    · rename_i d hx hy
      split at h
      case h_2 => cases h
      split at h
      case isFalse => cases h
      rename_i hd
      have e := Nat.eq_of_beq_eq_true hd
      subst e
      cases h
      have h1 : ρ x = .int .i64 (d : Int) := hρ x _ hx
      have h2 : ρ y = .int .i64 o := by rw [hρ y _ hy, SV.val, At.val, hV]; rfl
      refine ⟨fun w => ?_, trivial⟩
      have e3 : ((d : Int) == o) = same := by
        rw [ho'.eq, Bool.eq_iff_iff]
        simp only [beq_iff_eq]
        exact eq_comm
      unfold execOp
      simp only [ho, h1, h2]
      simp only [eqGuard, binOp, Op.intCmp, litB, SV.val, At.val]
      simp [bne, e3]
    · rename_i u2 hx hy
      split at h
      case h_2 => cases h
      split at h
      case isFalse => cases h
      rename_i hu
      simp only [Bool.and_eq_true, Bool.not_eq_true'] at hu
      obtain ⟨⟨⟨q1, q2⟩, q3⟩, q4⟩ := hu
      have e := sameT_eq q4
      subst e
      cases h
      have h1 : ρ x = .string (nameOf o) := by rw [hρ x _ hx, SV.val, At.val, hV]; rfl
      have h2 : ρ y = .string (nameOf (Int.ofNat k)) := hρ y _ hy
      refine ⟨fun w => ?_, trivial⟩
      have hne : ((nameOf o).toList == (nameOf (Int.ofNat k)).toList) = false := by
        simp only [beq_eq_false_iff_ne]
        intro e
        exact ho'.ne q1 (Nat.le_of_ble_eq_true q2) (Nat.le_of_ble_eq_true q3) (list_inj e)
      unfold execOp
      simp only [ho, h1, h2]
      generalize nameOf o = a1 at *
      generalize nameOf (Int.ofNat k) = a2 at *
      simp only [eqGuard, binOp, Op.stringOp, litB, SV.val, At.val]
      rw [hne]
      simp
  · rename_i cl
    obtain ⟨callee, args, ats⟩ := cl
    simp only at h
    unfold bCall at h
    split at h
    case h_2 => cases h
    rename_i ts x ha
    unfold bLen at h
    split at h
    case h_2 => cases h
    rename_i t9 ht hx
    split at h
    case isFalse => cases h
    rename_i h9
    have e := Nat.eq_of_beq_eq_true h9
    subst e
    cases h
    have e1 : args = #[x] := Array.ext' ha
    have e2 : ats = #[9] := Array.ext' ht
    subst e1
    subst e2
    have h1 : ρ x = .string t := by rw [hρ x _ hx, SV.val, At.val, hV]; rfl
    refine ⟨fun w => ?_, trivial⟩
    unfold execOp
    simp only [ho, resolve, invoke, Sem.run_bind, Sem.run_pure, Result.andThen_ok]
    simp only [List.map_toArray, List.map_cons, List.map_nil, h1, builtin, SV.val, At.val, hV]
    simp [Builtin.len_, run_underlying under9, goInt, Sb]

noncomputable def Cb (cmp : BinOp → Int → Option Bool) (k : Nat) (same long : Bool) : Cfg := { P := Tryd.prog, FT := ftOf, neq := neqT cmp, ora := oraB cmp k same long }
noncomputable def sumB (out : Bool) : CallT := fun f args m =>
  if isName f then (match args with | [.one (.sym 2)] => some (.one (.sym 63), m) | [.one (.sym 0)] => if out then some (litS ⟨#[]⟩, m) else none | _ => sumL f args m) else
  if Nat.beq f 17 then (match args with | [] => some (litB true, m) | _ => none) else sumL f args m
noncomputable def callB (cmp : BinOp → Int → Option Bool) (k : Nat) (same long out : Bool) : CallT := callF (Cb cmp k same long) (sumB out) noYld (fun call => drawRun (Cb cmp k same long) call noYld) 12
theorem xokB {n o : Int} {t : ByteArray} {cmp : BinOp → Int → Option Bool} {k : Nat} {same long : Bool} (hc : CmpOK n cmp) (hs : long = decide ((t.size : Int) > 100)) (ho : Oth o k same) : XOK (cx (Cb cmp k same long) (Sb n o t)) := by
  refine ⟨Sb_one n o t, fun k a h => ?_, oraB_ok hc hs ho, fun _ _ _ _ _ _ _ _ _ _ => trivial⟩
  obtain ⟨rfl, h1⟩ := neqT_ok hc h
  exact ⟨n, rfl, fun e => h1 e.symm⟩
theorem sumB_ok {n o : Int} {t : ByteArray} {cmp : BinOp → Int → Option Bool} {k : Nat} {same long out : Bool} (hout : out = true → nameOf n = ⟨#[]⟩) : CallOK (cx (Cb cmp k same long) (Sb n o t)) (sumB out) := by
  intro f args m r m' h
  unfold sumB at h
  by_cases e : isName f = true
  · rw [if_pos e] at h
    split at h
    · cases h
      refine ⟨enter_name e, fun D V w hg hm _ _ => ?_⟩
      have hV : V.sym = Sb n o t := hg.sym
      have ha : (([SV.one (At.sym 2)]).map (SV.val V)).toArray = #[.int .i64 o] := by
        simp only [List.map_cons, List.map_nil, SV.val, At.val, hV]
        rfl
      rw [ha]
      refine give_val hm ?_ trivial (name_any e o w)
      simp only [SV.val, At.val, hV]
      rfl
    · split at h
      case isFalse => cases h
      rename_i ho
      cases h
      refine ⟨enter_name e, fun D V w hg hm _ _ => ?_⟩
      have hV : V.sym = Sb n o t := hg.sym
      have ha : (([SV.one (At.sym 0)]).map (SV.val V)).toArray = #[.int .i64 n] := by
        simp only [List.map_cons, List.map_nil, SV.val, At.val, hV]
        rfl
      rw [ha]
      refine give_val hm ?_ trivial (name_any e n w)
      rw [hout ho]
      rfl
    · exact sumL_ok _ rfl f args m r m' h
  · rw [if_neg e] at h
    by_cases e3 : Nat.beq f 17 = true
    · rw [if_pos e3] at h
      have e' := Nat.eq_of_beq_eq_true e3
      subst e'
      split at h
      case h_2 => cases h
      cases h
      exact ⟨Tryd.call17, fun D V w _ hm _ _ => give_val hm rfl trivial (awake17 w)⟩
    · rw [if_neg e3] at h
      exact sumL_ok _ rfl f args m r m' h
theorem callB_ok {n o : Int} {t : ByteArray} {cmp : BinOp → Int → Option Bool} {k : Nat} {same long out : Bool} (hc : CmpOK n cmp) (hs : long = decide ((t.size : Int) > 100)) (ho : Oth o k same) (hout : out = true → nameOf n = ⟨#[]⟩) : CallOK (cx (Cb cmp k same long) (Sb n o t)) (callB cmp k same long out) :=
  callF_sound (X := cx (Cb cmp k same long) (Sb n o t)) (xokB hc hs ho) (sumB_ok hout) (noYld_ok _) (drawRun_ok (X := cx (Cb cmp k same long) (Sb n o t)) (xokB hc hs ho) (noYld_ok _) follows_mixed) ftOf_ok 12

/-- The body's parts. -/
noncomputable def nth2 : Nat → Code → Code
  | 0, c => c
  | k + 1, c => nth2 k (c2 c)
noncomputable def L5 : List Code := (List.range 7).map fun k => c1 (nth2 k (bodyOf 5))
noncomputable def P5 : Code := nth2 7 (bodyOf 5)
theorem code5 : Tryd.f5.body = some (spine L5 P5) := by kernel_rfl
noncomputable def first1 (cmp : BinOp → Int → Option Bool) (k : Nat) (same out : Bool) (q : SV) : Bool := goes (chain (Cb cmp k same false) (callB cmp k same false out) L5 { N := 128, tr := putArgs [q, .one (.sym 2), .one (.sym 1)] 0 .nil } Mem.empty)
noncomputable def firstK (k : Nat) : Bool := first1 (fun _ _ => none) (k + 1) true false (.one (litI (k + 1))) && first1 (fun _ _ => none) (k + 1) false false (.one (litI (k + 1)))
theorem first_low : first1 cmpL 0 false true (.one (.sym 0)) = true := by kernel_rfl
theorem first_high : first1 cmpH 0 false true (.one (.sym 0)) = true := by kernel_rfl
theorem long_run : isTrue (callB (fun _ _ => none) 0 false true false 5 [.one (.sym 0), .one (.sym 2), .one (.sym 1)] Mem.empty) = true := by kernel_rfl
theorem long_run' : isTrue (callB (fun _ _ => none) 0 true true false 5 [.one (.sym 0), .one (.sym 2), .one (.sym 1)] Mem.empty) = true := by kernel_rfl
theorem first_low' : first1 cmpL 0 true true (.one (.sym 0)) = true := by kernel_rfl
theorem first_high' : first1 cmpH 0 true true (.one (.sym 0)) = true := by kernel_rfl

/-! ### The second part -/
noncomputable def S2 (t : ByteArray) : Nat → Value := fun j => if Nat.beq j 1 then .string t else .bool false
theorem S2_one (t : ByteArray) : ∀ k, (S2 t k).oneCell' = true := fun k => by unfold S2; split <;> rfl
/-- A text that is not read. -/
noncomputable def sumN : CallT := fun f args m =>
  if isParse f then (match args with | [.one (.sym 1)] => some (.tup [litI 0, .lit (.bool false)], m) | _ => none) else none
noncomputable def callN : CallT := callS sumN
theorem sumN_ok {t : ByteArray} (h0 : parN t = 0) (h1 : parB t = false) : CallOK (ctx (S2 t) 0 T3) sumN := by
  intro f args m r m' h
  unfold sumN at h
  split at h
  case isFalse => cases h
  rename_i e
  split at h
  case h_2 => cases h
  cases h
  refine ⟨enter_parse e, fun D V w hg hm _ _ => ?_⟩
  have hV : V.sym = S2 t := hg.sym
  have ha : (([SV.one (At.sym 1)]).map (SV.val V)).toArray = #[.string t] := by
    simp only [List.map_cons, List.map_nil, SV.val, At.val, hV]
    rfl
  rw [ha]
  refine give_val hm ?_ ?_ (parse_all e t w)
  · rw [h0, h1]
    rfl
  · intro a ha
    rw [List.mem_cons, List.mem_singleton] at ha
    rcases ha with rfl | rfl <;> trivial
noncomputable def second (call : CallT) (q : SV) : Bool := isTrue (endF C0 Tryd.f5.results.toList (run C0 call noY noD maxFuel P5 (frB q) Mem.empty))
theorem second_no : second callN (.one (.sym 1)) = true := by kernel_rfl
noncomputable def secondW (x : List UInt8) : Bool := second callL (litS ⟨x.toArray⟩)
theorem second_0 : secondW (wordsA.getD 0 []) = true := by kernel_rfl
end Go.Proofs.YtnkdpcalgllnbaaDoor.Nv
