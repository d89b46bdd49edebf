/-
  name.Parse: what it tells of any text.
-/
import Derived.Test.YtnkdpcalgllnbaaDoorNaC
namespace Go.Proofs.YtnkdpcalgllnbaaDoor.Np
open Go Go.RowKit Go.Shelf Go.Proofs.YtnkdpcalgllnbaaDoor Go.Proofs.YtnkdpcalgllnbaaDoor.Sy Go.Proofs.YtnkdpcalgllnbaaDoor.Na Go.Proofs.YtnkdpcalgllnbaaDoor.Nc

noncomputable def pfx : Nat → ByteArray
  | 0 => ⟨#[106]⟩
  | 1 => ⟨#[115, 101, 116]⟩
  | _ => ⟨#[99, 109, 111, 118]⟩
noncomputable def fst : Nat → Nat
  | 0 => 68
  | 1 => 84
  | _ => 100
noncomputable def trimI (s : ByteArray) (i : Nat) : ByteArray := ⟨(Lib.trimPrefix s.data.toList (pfx i).data.toList).toArray⟩
noncomputable def hasI (s : ByteArray) (i : Nat) : Bool := Lib.hasPrefix s.data.toList (pfx i).data.toList

noncomputable def S7 (s : ByteArray) : Nat → Value
  | 0 => .string s
  | 30 => .string (trimI s 0)
  | 31 => .string (trimI s 1)
  | 32 => .string (trimI s 2)
  | 40 => .int .i64 (paN (trimI s 0) : Int)
  | 41 => .int .i64 (paN (trimI s 1) : Int)
  | 42 => .int .i64 (paN (trimI s 2) : Int)
  | 50 => .int .i64 ((68 + paN (trimI s 0) : Nat) : Int)
  | 51 => .int .i64 ((84 + paN (trimI s 1) : Nat) : Int)
  | 52 => .int .i64 ((100 + paN (trimI s 2) : Nat) : Int)
  | _ => .bool false
theorem S7_one (s : ByteArray) : ∀ k, (S7 s k).oneCell' = true := by
  intro k
  unfold S7
  split <;> rfl

noncomputable def pre7 : Option (Frm × Mem) := preRun C0 call0 (pA 7) (pB 7) (pE 7) { N := 1 + (Tryd.f7.ntmps - 1), tr := putArgs [.one (.sym 0)] 0 .nil } Mem.empty
noncomputable def fr7 : Frm := fmFr pre7
noncomputable def m7 : Mem := fmMem pre7
theorem code7 : Tryd.f7.body = some (.seq (pA 7) (.seq (pB 7) (.seq (.seq (pE 7) (.block 0 (.rangeFunc (.tmp 12) #[13] (rfA (pL 7)) (rfB (pL 7))))) (pRest 7)))) := by kernel_rfl
theorem hpre7 : pre7 = some (fr7, m7) := by kernel_rfl
theorem all7 : m7.H.get 4 = some (bf 9 (.lit (.string allB))) := by kernel_rfl

/-! ### A round -/
noncomputable def qBin (b : Bool) : BinOp → Option SV → Option SV → Option SV
  | .add, some (.one (.sym 20)), some (.one (.lit (.int .i64 (.ofNat d)))) => if Nat.beq d 1 then some (.one (.sym 21)) else none
  | .eql, some (.one (.sym 7)), some (.one (.sym 0)) => some (.one (.lit (.bool b)))
  | _, _, _ => none
noncomputable def oraQ (b : Bool) (op : Op) (ev : Operand → Option SV) : Option SV :=
  match op with
  | .binOp bo _ x y _ => qBin b bo (ev x) (ev y)
  | _ => none
noncomputable def Cq (b : Bool) : Cfg := { P := Tryd.prog, FT := ftOf, neq := fun _ _ => false, ora := oraQ b }
noncomputable def rd7 (b : Bool) : Option (Out × Frm × Mem) := roundR (Cq b) fr7 [13] (rfA (pL 7)) (rfB (pL 7)) [.one (.sym 7)] (loopMem m7 4 3)
noncomputable def MN7 : Mem := memOf (nrmMem (rd7 false))
noncomputable def MR7 : Mem := memOf (retMem (rd7 true))
theorem hN7 : nrmMem (rd7 false) = some MN7 := by kernel_rfl
theorem hR7 : retMem (rd7 true) = some MR7 := by kernel_rfl
theorem hNa7 : MN7.H = (loopMem m7 4 3).H.put 3 (some (bx 3 (.sym 21))) := by kernel_rfl
theorem hNg7 : MN7.H.get 3 = some (bx 3 (.sym 21)) := by kernel_rfl
theorem hNm7 : modsOk m7 MN7.mods 4 5 6 = true := by kernel_rfl
theorem hRm7 : modsOk m7 MR7.mods 4 5 6 = true := by kernel_rfl
theorem hRs7 : resultsS (Cq true) fr7 MR7 Tryd.f7.results.toList = some (.tup [.sym 21, .lit (.bool true)]) := by kernel_rfl

/-- Is a word this text? -/
noncomputable def hitP (s : ByteArray) (x : List UInt8) : Bool := sameL x s.data.toList
theorem sameL_refl : ∀ l : List UInt8, sameL l l = true
  | [] => rfl
  | a :: l => by
    simp only [sameL, Bool.and_eq_true]
    exact ⟨by simp, sameL_refl l⟩
theorem hitP_iff {s : ByteArray} {x : List UInt8} : hitP s x = true ↔ x = s.data.toList := ⟨sameL_eq, fun h => by unfold hitP; rw [h]; exact sameL_refl _⟩

theorem oraQ_ok {s : ByteArray} {k : Nat} {b : Bool} (hk : k ≤ 1000) (hb : b = hitP s (wordsA.getD k [])) :
    ∀ o ev t, oraQ b o ev = some t → ∀ o' : Oper, o'.op = o → ∀ V : Va, V.sym = Sw (S7 s) wordsA k → ∀ ρ : Operand → Value, (∀ x u, ev x = some u → ρ x = u.val V) → (∀ w, (execOp ρ o').run Tryd.prog w = .ok (.value (t.val V)) w) ∧ t.on fun _ => False := by
  intro o ev t h o' ho V hV ρ hρ
  unfold oraQ at h
  split at h
  case h_2 => cases h
  rename_i bo ty x y ty'
  unfold qBin at h
  split at h
  case h_3 => cases h
  · rename_i d hx hy
    split at h
    case isFalse => cases h
    rename_i hd
    have ed := Nat.eq_of_beq_eq_true hd
    subst ed
    cases h
    have g1 : ρ x = .int .i64 (k : Int) := by rw [hρ x _ hx, SV.val, At.val, hV]; rfl
    have g2 : ρ y = .int .i64 1 := hρ y _ hy
    refine ⟨fun w => ?_, trivial⟩
    have e2 : SV.val V (.one (.sym 21)) = .int .i64 ((k + 1 : Nat) : Int) := by simp only [SV.val, At.val, hV]; rfl
    unfold execOp
    simp only [ho, g1, g2, e2]
    simp [eqGuard, binOp, Op.intArith, IntKind.wrap, IntKind.signed, IntKind.bits]
    omega
  · rename_i hx hy
    cases h
    have g1 : ρ x = .string ⟨(wordsA.getD k []).toArray⟩ := by rw [hρ x _ hx, SV.val, At.val, hV]; rfl
    have g2 : ρ y = .string s := by rw [hρ y _ hy, SV.val, At.val, hV]; rfl
    refine ⟨fun w => ?_, trivial⟩
    have e : ((⟨(wordsA.getD k []).toArray⟩ : ByteArray).toList == s.toList) = b := by
      rw [ByteArray.toList_eq, ByteArray.toList_eq, hb]
      show (wordsA.getD k [] == s.data.toList) = _
      cases hh : hitP s (wordsA.getD k []) with
      | true => simpa using hitP_iff.1 hh
      | false =>
        simp only [beq_eq_false_iff_ne]
        intro e
        rw [hitP_iff.2 e] at hh
        cases hh
    unfold execOp
    simp only [ho, g1, g2]
    simp only [eqGuard, binOp, Op.stringOp, SV.val, At.val]
    have e' : ((wordsA[k]?.getD []) == s.toList) = b := by simpa using e
    simp [e']

theorem xokQ {s : ByteArray} {k : Nat} {b : Bool} (hk : k ≤ 1000) (hb : b = hitP s (wordsA.getD k [])) : XOK (cx (Cq b) (Sw (S7 s) wordsA k)) :=
  ⟨Sw_one (S7_one s) wordsA k, (fun k a h => by cases h), oraQ_ok hk hb, fun _ _ _ _ _ _ _ _ _ _ => trivial⟩

/-! ### The end -/
structure Z where
  h0 : Bool
  h1 : Bool
  h2 : Bool
  i0 : Bool
  i1 : Bool
  i2 : Bool
noncomputable def eBin : BinOp → Option SV → Option SV → Option SV
  | .add, some (.one (.lit (.int .i64 (.ofNat d)))), some (.one (.sym j)) =>
    if Nat.beq d 68 && Nat.beq j 40 then some (.one (.sym 50)) else if Nat.beq d 84 && Nat.beq j 41 then some (.one (.sym 51)) else if Nat.beq d 100 && Nat.beq j 42 then some (.one (.sym 52)) else none
  | _, _, _ => none
noncomputable def oraE (op : Op) (ev : Operand → Option SV) : Option SV :=
  match op with
  | .binOp bo _ x y _ => eBin bo (ev x) (ev y)
  | _ => none
noncomputable def Ce : Cfg := { P := Tryd.prog, FT := ftOf, neq := fun _ _ => false, ora := oraE }
noncomputable def tupE (a : Nat) (b : Bool) : SV := .tup [.sym a, .lit (.bool b)]
noncomputable def sumE (z : Z) : CallT := fun f args m =>
  if Nat.beq f 23 then (match args with
    | [.one (.sym 0), .one (.lit (.string p))] => if sameT p (pfx 0) then some (tupE 30 z.h0, m) else if sameT p (pfx 1) then some (tupE 31 z.h1, m) else if sameT p (pfx 2) then some (tupE 32 z.h2, m) else none
    | _ => none) else
  if Nat.beq f 24 then (match args with
    | [.one (.sym j)] => if Nat.beq j 30 then some (tupE 40 z.i0, m) else if Nat.beq j 31 then some (tupE 41 z.i1, m) else if Nat.beq j 32 then some (tupE 42 z.i2, m) else none
    | _ => none) else none
noncomputable def callE (z : Z) : CallT := callF Ce (sumE z) noYld (fun call => drawRun Ce call noYld) 12
noncomputable def end7 (z : Z) : Option (SV × Mem) := endF Ce Tryd.f7.results.toList (run Ce (callE z) noY noD maxFuel (pRest 7) fr7 (loopMem m7 4 3))
noncomputable def endOf (z : Z) : SV :=
  if z.h0 && z.i0 then tupE 50 true else if z.h1 && z.i1 then tupE 51 true else if z.h2 && z.i2 then tupE 52 true else .tup [.lit (.int .i64 0), .lit (.bool false)]
theorem hE7 : ∀ z : Z, end7 z = some (endOf z, sMem (end7 z)) := by
  rintro ⟨h0, h1, h2, i0, i1, i2⟩
  cases h0 <;> cases h1 <;> cases h2 <;> cases i0 <;> cases i1 <;> cases i2 <;> kernel_rfl

/-- The flags of the end. -/
structure Zok (s : ByteArray) (z : Z) : Prop where
  h0 : z.h0 = hasI s 0
  h1 : z.h1 = hasI s 1
  h2 : z.h2 = hasI s 2
  i0 : z.i0 = paB (trimI s 0)
  i1 : z.i1 = paB (trimI s 1)
  i2 : z.i2 = paB (trimI s 2)
noncomputable def zOf (s : ByteArray) : Z := ⟨hasI s 0, hasI s 1, hasI s 2, paB (trimI s 0), paB (trimI s 1), paB (trimI s 2)⟩
theorem zOk (s : ByteArray) : Zok s (zOf s) := ⟨rfl, rfl, rfl, rfl, rfl, rfl⟩
noncomputable def SE (s : ByteArray) : Nat → Value := Sw (S7 s) wordsA wordsA.length

theorem give_val {D : Nat → Prop} {V : Va} {w : World} {m : Mem} {f : FuncId} {args : Array Value} {v : Value} {s : SV} (hm : RelM D V m w) (hv : v = s.val V) (hon : s.on D)
    (h : Calls Tryd.prog f args w fun e w' => e = .returned v ∧ Below w.heap.size w w') : Calls Tryd.prog f args w (Gives D V w m s m) := by
  refine h.mono ?_
  rintro e w' ⟨rfl, hb⟩
  obtain ⟨h1, h2⟩ := gives_of_below hm hb
  exact ⟨V, by rw [hv], h1, h2, SV.on_mono Dn_le hon⟩
theorem tupE_on {D : Nat → Prop} {a : Nat} {b : Bool} : (tupE a b).on D := by
  intro x hx
  rw [List.mem_cons, List.mem_singleton] at hx
  rcases hx with rfl | rfl <;> trivial
theorem tupE_val {V : Va} {a : Nat} {b : Bool} {v : Value} (h : V.sym a = v) : (tupE a b).val V = .tuple #[v, .bool b] := by
  simp only [tupE, SV.val, List.map_cons, List.map_nil, At.val, h]
theorem cut_any (s p : ByteArray) (w : World) : Calls Tryd.prog 23 #[.string s, .string p] w fun e w' => e = .returned (.tuple #[.string ⟨(Lib.trimPrefix s.data.toList p.data.toList).toArray⟩, .bool (Lib.hasPrefix s.data.toList p.data.toList)]) ∧ Below w.heap.size w w' := by
  refine Calls.mono (h := sh_strings_CutPrefix s p w) ?_
  rintro e w' ⟨rfl, rfl⟩
  exact ⟨rfl, .refl _ _⟩

theorem sumE_ok {s : ByteArray} {z : Z} (hz : Zok s z) : CallOK (cx Ce (SE s)) (sumE z) := by
  intro f args m r m' h
  unfold sumE at h
  by_cases e : Nat.beq f 23 = true
  · rw [if_pos e] at h
    have e' := Nat.eq_of_beq_eq_true e
    clear e
    subst e'
    split at h
    case h_2 => cases h
    rename_i p
    have key : ∀ (i a : Nat) (b : Bool), p = pfx i → (∀ V : Va, V.sym = SE s → V.sym a = .string (trimI s i)) → b = hasI s i →
        (∀ xs w, (callFunc 23 xs).run Tryd.prog w = .ok (.enter 23 xs) w) ∧ ∀ (D : Nat → Prop) (V : Va) (w : World), Sy.Good (cx Ce (SE s)) V → RelM D V m w → (cx Ce (SE s)).LI D V w → (∀ x ∈ [SV.one (At.sym 0), SV.one (At.lit (.string p))], x.on D) →
          Calls Tryd.prog 23 (([SV.one (At.sym 0), SV.one (At.lit (.string p))]).map (SV.val V)).toArray w (Gives D V w m (tupE a b) m) := by
      intro i a b hp hV hb
      refine ⟨Tryd.call23, fun D V w hg hm _ _ => ?_⟩
      have hs : V.sym = SE s := hg.sym
      have ha : (([SV.one (At.sym 0), SV.one (At.lit (.string p))]).map (SV.val V)).toArray = #[.string s, .string p] := by
        simp only [List.map_cons, List.map_nil, SV.val, At.val, hs]
        rfl
      rw [ha]
      refine give_val hm ?_ tupE_on (cut_any s p w)
      rw [tupE_val (hV V hs), hb, hp]
      rfl
    by_cases e0 : sameT p (pfx 0) = true
    · rw [if_pos e0] at h
      cases h
      exact key 0 30 _ (sameT_eq e0) (fun V hV => by rw [hV]; rfl) hz.h0
    · rw [if_neg e0] at h
      by_cases e1 : sameT p (pfx 1) = true
      · rw [if_pos e1] at h
        cases h
        exact key 1 31 _ (sameT_eq e1) (fun V hV => by rw [hV]; rfl) hz.h1
      · rw [if_neg e1] at h
        by_cases e2 : sameT p (pfx 2) = true
        · rw [if_pos e2] at h
          cases h
          exact key 2 32 _ (sameT_eq e2) (fun V hV => by rw [hV]; rfl) hz.h2
        · rw [if_neg e2] at h
          cases h
  · rw [if_neg e] at h
    by_cases e3 : Nat.beq f 24 = true
    · rw [if_pos e3] at h
      have e' := Nat.eq_of_beq_eq_true e3
      clear e e3
      subst e'
      split at h
      case h_2 => cases h
      rename_i j
      have key : ∀ (i a : Nat) (b : Bool), (∀ V : Va, V.sym = SE s → V.sym j = .string (trimI s i) ∧ V.sym a = .int .i64 (paN (trimI s i) : Int)) → b = paB (trimI s i) →
          (∀ xs w, (callFunc 24 xs).run Tryd.prog w = .ok (.enter 24 xs) w) ∧ ∀ (D : Nat → Prop) (V : Va) (w : World), Sy.Good (cx Ce (SE s)) V → RelM D V m w → (cx Ce (SE s)).LI D V w → (∀ x ∈ [SV.one (At.sym j)], x.on D) →
            Calls Tryd.prog 24 (([SV.one (At.sym j)]).map (SV.val V)).toArray w (Gives D V w m (tupE a b) m) := by
        intro i a b hV hb
        refine ⟨Tryd.call24, fun D V w hg hm _ _ => ?_⟩
        have hs : V.sym = SE s := hg.sym
        obtain ⟨v1, v2⟩ := hV V hs
        have ha : (([SV.one (At.sym j)]).map (SV.val V)).toArray = #[.string (trimI s i)] := by
          simp only [List.map_cons, List.map_nil, SV.val, At.val, v1]
        rw [ha]
        refine give_val hm ?_ tupE_on (parse24 (trimI s i) w)
        rw [tupE_val v2, hb]
      by_cases e0 : Nat.beq j 30 = true
      · rw [if_pos e0] at h
        have ej := Nat.eq_of_beq_eq_true e0
        subst ej
        cases h
        exact key 0 40 _ (fun V hV => by rw [hV]; exact ⟨rfl, rfl⟩) hz.i0
      · rw [if_neg e0] at h
        by_cases e1 : Nat.beq j 31 = true
        · rw [if_pos e1] at h
          have ej := Nat.eq_of_beq_eq_true e1
          subst ej
          cases h
          exact key 1 41 _ (fun V hV => by rw [hV]; exact ⟨rfl, rfl⟩) hz.i1
        · rw [if_neg e1] at h
          by_cases e2 : Nat.beq j 32 = true
          · rw [if_pos e2] at h
            have ej := Nat.eq_of_beq_eq_true e2
            subst ej
            cases h
            exact key 2 42 _ (fun V hV => by rw [hV]; exact ⟨rfl, rfl⟩) hz.i2
          · rw [if_neg e2] at h
            cases h
    · rw [if_neg e3] at h
      cases h

theorem findT_lt {s : ByteArray} {k : Nat} (h : findT s wordsL = some k) : k < 16 := by
  have hm := findT_some h
  have hall : (wordsL.all fun p => Nat.blt p.2 16) = true := by kernel_rfl
  exact Nat.le_of_ble_eq_true (List.all_eq_true.1 hall _ hm)
theorem paN_lt (s : ByteArray) : paN s < 16 := by
  unfold paN
  cases h : findT s wordsL with
  | none => simp
  | some k => exact findT_lt h

theorem oraE_ok (s : ByteArray) : ∀ o ev t, oraE o ev = some t → ∀ o' : Oper, o'.op = o → ∀ V : Va, V.sym = SE s → ∀ ρ : Operand → Value, (∀ x u, ev x = some u → ρ x = u.val V) → (∀ w, (execOp ρ o').run Tryd.prog w = .ok (.value (t.val V)) w) ∧ t.on fun _ => False := by
  intro o ev t h o' ho V hV ρ hρ
  unfold oraE at h
  split at h
  case h_2 => cases h
  rename_i bo ty x y ty'
  unfold eBin at h
  split at h
  case h_2 => cases h
  rename_i d j hx hy
  have g1 : ρ x = .int .i64 (d : Int) := hρ x _ hx
  have key : ∀ (i a c : Nat), V.sym j = .int .i64 (paN (trimI s i) : Int) → V.sym a = .int .i64 ((c + paN (trimI s i) : Nat) : Int) → d = c → c ≤ 1000 → (∀ w, (execOp ρ o').run Tryd.prog w = .ok (.value ((SV.one (.sym a)).val V)) w) ∧ (SV.one (.sym a)).on fun _ => False := by
    intro i a c v1 v2 hd hc
    have g2 : ρ y = .int .i64 (paN (trimI s i) : Int) := by rw [hρ y _ hy, SV.val, At.val, v1]
    have hl := paN_lt (trimI s i)
    refine ⟨fun w => ?_, trivial⟩
    have e2 : SV.val V (.one (.sym a)) = .int .i64 ((c + paN (trimI s i) : Nat) : Int) := by simp only [SV.val, At.val, v2]
    unfold execOp
    simp only [ho, g1, g2, e2, hd]
    simp [eqGuard, binOp, Op.intArith, IntKind.wrap, IntKind.signed, IntKind.bits]
    omega
  by_cases e0 : (Nat.beq d 68 && Nat.beq j 40) = true
  · rw [if_pos e0] at h
    rw [Bool.and_eq_true] at e0
    have ej := Nat.eq_of_beq_eq_true e0.2
    subst ej
    cases h
    exact key 0 50 68 (by rw [hV]; rfl) (by rw [hV]; rfl) (Nat.eq_of_beq_eq_true e0.1) (by decide)
  · rw [if_neg e0] at h
    by_cases e1 : (Nat.beq d 84 && Nat.beq j 41) = true
    · rw [if_pos e1] at h
      rw [Bool.and_eq_true] at e1
      have ej := Nat.eq_of_beq_eq_true e1.2
      subst ej
      cases h
      exact key 1 51 84 (by rw [hV]; rfl) (by rw [hV]; rfl) (Nat.eq_of_beq_eq_true e1.1) (by decide)
    · rw [if_neg e1] at h
      by_cases e2 : (Nat.beq d 100 && Nat.beq j 42) = true
      · rw [if_pos e2] at h
        rw [Bool.and_eq_true] at e2
        have ej := Nat.eq_of_beq_eq_true e2.2
        subst ej
        cases h
        exact key 2 52 100 (by rw [hV]; rfl) (by rw [hV]; rfl) (Nat.eq_of_beq_eq_true e2.1) (by decide)
      · rw [if_neg e2] at h
        cases h

theorem xokE (s : ByteArray) : XOK (cx Ce (SE s)) := ⟨Sw_one (S7_one s) _ _, (fun k a h => by cases h), oraE_ok s, fun _ _ _ _ _ _ _ _ _ _ => trivial⟩
theorem callE_ok (s : ByteArray) : CallOK (cx Ce (SE s)) (callE (zOf s)) :=
  callF_sound (X := cx Ce (SE s)) (xokE s) (sumE_ok (zOk s)) (noYld_ok _) (drawRun_ok (X := cx Ce (SE s)) (xokE s) (noYld_ok _) follows_mixed) ftOf_ok 12

/-- Where a word stands. -/
noncomputable def fidx (s : ByteArray) : List (List UInt8) → Option Nat
  | [] => none
  | x :: l => if hitP s x then some 0 else (fidx s l).map (· + 1)
theorem fidx_at {s : ByteArray} : ∀ {l : List (List UInt8)} {k : Nat}, k < l.length → hitP s (l.getD k []) = true → (∀ j, j < k → hitP s (l.getD j []) = false) → fidx s l = some k
  | [], k, h, _, _ => by simp at h
  | x :: l, 0, _, h, _ => by
    have h : hitP s x = true := h
    unfold fidx
    rw [if_pos h]
  | x :: l, k + 1, hk, h, hm => by
    have h0 : hitP s x = false := hm 0 (by omega)
    unfold fidx
    rw [if_neg (by rw [h0]; simp), fidx_at (l := l) (k := k) (by simpa using hk) (by simpa using h) (fun j hj => by simpa using hm (j + 1) (by omega))]
    rfl
theorem fidx_no {s : ByteArray} : ∀ {l : List (List UInt8)}, (∀ j, j < l.length → hitP s (l.getD j []) = false) → fidx s l = none
  | [], _ => rfl
  | x :: l, hm => by
    have h0 : hitP s x = false := hm 0 (by simp)
    unfold fidx
    rw [if_neg (by rw [h0]; simp), fidx_no (l := l) (fun j hj => by simpa using hm (j + 1) (by simpa using hj))]
    rfl
/-- What is told of a text that is no word. -/
noncomputable def tailN (s : ByteArray) : Nat := if hasI s 0 && paB (trimI s 0) then 68 + paN (trimI s 0) else if hasI s 1 && paB (trimI s 1) then 84 + paN (trimI s 1) else if hasI s 2 && paB (trimI s 2) then 100 + paN (trimI s 2) else 0
noncomputable def tailB (s : ByteArray) : Bool := hasI s 0 && paB (trimI s 0) || (hasI s 1 && paB (trimI s 1) || hasI s 2 && paB (trimI s 2))
noncomputable def parN (s : ByteArray) : Nat := match fidx s wordsA with
  | some k => k + 1
  | none => tailN s
noncomputable def parB (s : ByteArray) : Bool := match fidx s wordsA with
  | some _ => true
  | none => tailB s
theorem endOf_val (s : ByteArray) : (endOf (zOf s)).val (V0 (SE s)) = .tuple #[.int .i64 (tailN s : Int), .bool (tailB s)] := by
  unfold endOf tailN tailB zOf
  simp only
  cases h0 : (hasI s 0 && paB (trimI s 0))
  · simp only [Bool.false_eq_true, if_false, Bool.false_or]
    cases h1 : (hasI s 1 && paB (trimI s 1))
    · simp only [Bool.false_eq_true, if_false, Bool.false_or]
      cases h2 : (hasI s 2 && paB (trimI s 2))
      · rfl
      · rfl
    · rfl
  · rfl

theorem endOf_free (z : Z) : (endOf z).free = true := by
  unfold endOf
  split
  · rfl
  · split
    · rfl
    · split <;> rfl
set_option maxRecDepth 100000 in
theorem parse7 (s : ByteArray) (w : World) : Calls Tryd.prog 7 #[.string s] w (ValP w (.tuple #[.int .i64 (parN s : Int), .bool (parB s)])) := by
  have h := words_range (P := Tryd.prog) (f := 7) (fn := Tryd.f7) (gf := 35) Tryd.func7 code7 (S := S7 s) (Cp := C0) (Ce := Ce) (Cb := Cq) rfl rfl (fun _ => rfl) (callp := call0) (calle := callE (zOf s)) (ws := wordsA) (hit := fun k => hitP s (wordsA.getD k []))
    (ctx_ok (S7_one s) liT) (call0_ok (S7_one s) liT) (fun k hk => xokQ (by rw [wlen] at hk; omega) rfl) (xokE s) (callE_ok s)
    (args := [.one (.sym 0)]) (fr3 := fr7) (m3 := m7) (by intro t ht; rw [List.mem_singleton.1 ht]; trivial) hpre7 (sid := 4) (pid := 5) (vid := 6) (aid := 3) (s0 := allB) (by kernel_rfl) all7 (by kernel_rfl) (by kernel_rfl) (by kernel_rfl) (by decide) (by kernel_rfl) (by kernel_rfl)
    hN7 hNa7 hNg7 hNm7 hR7 hRm7 hRs7 rfl (hE7 (zOf s)) (endOf_free _) (iter_all allB (Nat.le_of_ble_eq_true len15)) Tryd.call35 w
  have ha : (([SV.one (At.sym 0)]).map (SV.val (V0 (S7 s)))).toArray = #[.string s] := rfl
  rw [ha] at h
  refine Calls.mono (h := h) ?_
  rintro e w' ⟨hB, ⟨k, k1, k2, k3, rfl⟩ | ⟨k3, rfl⟩⟩
  · refine ⟨?_, hB⟩
    have hi := fidx_at (s := s) k1 k2 k3
    rw [show parN s = k + 1 by rw [parN, hi], show parB s = true by rw [parB, hi]]
    rfl
  · refine ⟨?_, hB⟩
    have hi := fidx_no (s := s) k3
    rw [show parN s = tailN s by rw [parN, hi], show parB s = tailB s by rw [parB, hi], ← endOf_val]
    rfl
end Go.Proofs.YtnkdpcalgllnbaaDoor.Np
