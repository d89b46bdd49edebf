/-
  CondCompares: how two bytes stand, with a sign and without; the run's letters.
-/
import Derived.Test.YtnkdpcalgllnbaaCoI
import Derived.Test.YtnkdpcalgllnbaaCoK
namespace Go.Proofs.Ytnkdpcalgllnbaa.Co
open Go Go.RowKit Go.Proofs.Ytnkdpcalgllnbaa.Sy

/-- How two numbers stand: 0: less; 1: the same; 2: more. -/
def Ord (m n : Int) : Nat → Prop
  | 0 => m < n
  | 1 => m = n
  | _ => n < m
noncomputable def ordB (o : Nat) : BinOp → Option Bool
  | .lss => some (Nat.beq o 0)
  | .leq => some (!Nat.beq o 2)
  | .gtr => some (Nat.beq o 2)
  | .geq => some (!Nat.beq o 0)
  | .eql => some (Nat.beq o 1)
  | .neq => some (!Nat.beq o 1)
  | _ => none

noncomputable def cBin (ua sa : Nat) (b : BinOp) : Option SV → Option SV → Option SV
  | some (.one (.sym j)), some (.one (.sym k)) =>
    if Nat.beq j 20 && Nat.beq k 21 then (ordB ua b).map litB else
    if Nat.beq j 22 && Nat.beq k 23 then (ordB sa b).map litB else none
  | _, _ => none
noncomputable def cConv (s d : Nat) : Option SV → Option SV
  | some (.one (.sym j)) => if Nat.beq s 5 && Nat.beq d 28 then (if Nat.beq j 20 then some (.one (.sym 22)) else if Nat.beq j 21 then some (.one (.sym 23)) else none) else none
  | _ => none
noncomputable def oraC (ua sa : Nat) (op : Op) (ev : Operand → Option SV) : Option SV :=
  match op with
  | .binOp b _ x y _ => cBin ua sa b (ev x) (ev y)
  | .convert s d x => cConv s d (ev x)
  | _ => none

/-- What the letters stand for. -/
noncomputable def Sc (a b n : Int) (p q : Bool) : Nat → Value
  | 0 => .int .i64 n
  | 20 => .int .u8 a
  | 21 => .int .u8 b
  | 22 => .int .i8 (IntKind.i8.wrap a)
  | 23 => .int .i8 (IntKind.i8.wrap b)
  | 30 => .bool p
  | _ => .bool q
theorem Sc_one (a b n : Int) (p q : Bool) : ∀ k, (Sc a b n p q k).oneCell' = true := by
  intro k
  unfold Sc
  split <;> rfl

theorem b00 : Nat.beq 0 0 = true := rfl
theorem b11 : Nat.beq 1 1 = true := rfl
theorem b22 : Nat.beq 2 2 = true := rfl
theorem b01 : Nat.beq 0 1 = false := rfl
theorem b02 : Nat.beq 0 2 = false := rfl
theorem b10 : Nat.beq 1 0 = false := rfl
theorem b12 : Nat.beq 1 2 = false := rfl
theorem b20 : Nat.beq 2 0 = false := rfl
theorem b21 : Nat.beq 2 1 = false := rfl
theorem ord_run {P : Program} {k : IntKind} {m n : Int} {o : Nat} (ho : o < 3) (h : Ord m n o) {b : BinOp} {r : Bool} (hb : ordB o b = some r) {t t' : TypeId} {x y : Operand} {o' : Oper} {ρ : Operand → Value} (hop : o'.op = .binOp b t x y t') (h1 : ρ x = .int k m) (h2 : ρ y = .int k n) (w : World) :
    (execOp ρ o').run P w = .ok (.value (.bool r)) w := by
  unfold execOp
  simp only [hop, h1, h2]
  unfold ordB at hb
  match o, ho, h with
  | 0, _, h =>
    have h : m < n := h
    split at hb
    case h_7 => cases hb
    all_goals
      cases hb
      simp [eqGuard, binOp, Op.intCmp, b01, b02]
      first | done | omega
  | 1, _, h =>
    have h : m = n := h
    subst h
    split at hb
    case h_7 => cases hb
    all_goals
      cases hb
      simp [eqGuard, binOp, Op.intCmp, b10, b12]
  | 2, _, h =>
    have h : n < m := h
    split at hb
    case h_7 => cases hb
    all_goals
      cases hb
      simp [eqGuard, binOp, Op.intCmp, b20, b21]
      first | done | omega

theorem oraC_ok {P : Program} {a b n : Int} {p q : Bool} {ua sa : Nat} (h1 : ua < 3) (h2 : sa < 3) (hu : Ord a b ua) (hs : Ord (IntKind.i8.wrap a) (IntKind.i8.wrap b) sa) (hcv : ∀ x : Int, (convert 5 28 (.int .u8 x)).run P = fun w => .ok (.int .i8 (IntKind.i8.wrap x)) w) :
    ∀ op ev r, oraC ua sa op ev = some r → ∀ o' : Oper, o'.op = op → ∀ V : Va, V.sym = Sc a b n p q → ∀ ρ : Operand → Value, (∀ x u, ev x = some u → ρ x = u.val V) → (∀ w, (execOp ρ o').run P w = .ok (.value (r.val V)) w) ∧ r.on fun _ => False := by
  intro op ev r h o' ho V hV ρ hρ
  unfold oraC at h
  split at h
  case h_3 => cases h
  · rename_i bo u x y u'
    unfold cBin at h
    split at h
    case h_2 => cases h
    rename_i j k hx hy
    by_cases e1 : (Nat.beq j 20 && Nat.beq k 21) = true
    · rw [if_pos e1] at h
      obtain ⟨q', hq, rfl⟩ := Option.map_eq_some_iff.1 h
      rw [Bool.and_eq_true] at e1
      have ej := Nat.eq_of_beq_eq_true e1.1
      have ek := Nat.eq_of_beq_eq_true e1.2
      subst ej
      subst ek
      have g1 : ρ x = .int .u8 a := by rw [hρ x _ hx, SV.val, At.val, hV]; rfl
      have g2 : ρ y = .int .u8 b := by rw [hρ y _ hy, SV.val, At.val, hV]; rfl
      exact ⟨fun w => ord_run h1 hu hq ho g1 g2 w, trivial⟩
    · rw [if_neg e1] at h
      by_cases e2 : (Nat.beq j 22 && Nat.beq k 23) = true
      · rw [if_pos e2] at h
        obtain ⟨q', hq, rfl⟩ := Option.map_eq_some_iff.1 h
        rw [Bool.and_eq_true] at e2
        have ej := Nat.eq_of_beq_eq_true e2.1
        have ek := Nat.eq_of_beq_eq_true e2.2
        subst ej
        subst ek
        have g1 : ρ x = .int .i8 (IntKind.i8.wrap a) := by rw [hρ x _ hx, SV.val, At.val, hV]; rfl
        have g2 : ρ y = .int .i8 (IntKind.i8.wrap b) := by rw [hρ y _ hy, SV.val, At.val, hV]; rfl
        exact ⟨fun w => ord_run h2 hs hq ho g1 g2 w, trivial⟩
      · rw [if_neg e2] at h
        cases h
  · rename_i s d x
    unfold cConv at h
    split at h
    case h_2 => cases h
    rename_i j hx
    split at h
    case isFalse => cases h
    rename_i hsd
    rw [Bool.and_eq_true] at hsd
    have es := Nat.eq_of_beq_eq_true hsd.1
    have ed := Nat.eq_of_beq_eq_true hsd.2
    subst es
    subst ed
    split at h
    · rename_i hj
      have ej := Nat.eq_of_beq_eq_true hj
      subst ej
      cases h
      have g1 : ρ x = .int .u8 a := by rw [hρ x _ hx, SV.val, At.val, hV]; rfl
      refine ⟨fun w => ?_, trivial⟩
      unfold execOp
      simp only [ho, g1, Sem.run_bind, hcv, SV.val, At.val, hV]
      rfl
    · split at h
      case isFalse => cases h
      rename_i hj
      have ej := Nat.eq_of_beq_eq_true hj
      subst ej
      cases h
      have g1 : ρ x = .int .u8 b := by rw [hρ x _ hx, SV.val, At.val, hV]; rfl
      refine ⟨fun w => ?_, trivial⟩
      unfold execOp
      simp only [ho, g1, Sem.run_bind, hcv, SV.val, At.val, hV]
      rfl

theorem conv_run (x : Int) : (convert 5 28 (.int .u8 x)).run Try.prog = fun w => .ok (.int .i8 (IntKind.i8.wrap x)) w := by
  funext w
  simp [convert, Conv.intToInt, run_underlying Try.underlying5, run_underlying Try.underlying28]

noncomputable def Cc (ua sa : Nat) : Cfg := { P := Try.prog, FT := ftOf, neq := fun _ _ => false, ora := oraC ua sa }
noncomputable def ctxC (ua sa : Nat) (S : Nat → Value) : Ctx := { C := Cc ua sa, S := S, lp := 0, LI := fun _ _ _ => True }
/-- What the run is asked at: which condition; how the bytes stand; their differences' signs. -/
structure At4 where
  k : Nat
  ua : Nat
  sa : Nat
  s1 : Bool
  s2 : Bool
noncomputable def lb (b : Bool) : At := .lit (.bool b)
noncomputable def xorB : Bool → Bool → Bool
  | true, b => !b
  | false, b => b
noncomputable def sumC (z : At4) : CallT := fun f args m =>
  if Nat.beq f 12 then (match args with
    | [.one (.sym i), .one (.sym j)] =>
      if Nat.beq i 20 && Nat.beq j 21 then some (.agg [lb (Nat.beq z.ua 0), lb (Nat.beq z.ua 1), lb z.s1, lb (xorB z.s1 (Nat.beq z.sa 0)), .sym 30], m) else
      if Nat.beq i 21 && Nat.beq j 20 then some (.agg [lb (Nat.beq z.ua 2), lb (Nat.beq z.ua 1), lb z.s2, lb (xorB z.s2 (Nat.beq z.sa 2)), .sym 31], m) else none
    | _ => none) else
  if Nat.beq f 13 then (match args with
    | [.one (.sym i), .one (.lit (.int .i64 (.ofNat d)))] => if Nat.beq i 0 && Nat.beq d 16 then some (.one (.lit (.int .i64 (.ofNat z.k))), m) else none
    | _ => none) else sumAw f args m
noncomputable def callC (z : At4) : CallT := callF (Cc z.ua z.sa) (sumC z) noYld (fun call => drawRun (Cc z.ua z.sa) call noYld) 12
noncomputable def comp (z : At4) : Bool := isTrue (callC z 4 [.one (.sym 20), .one (.sym 21), .one (.sym 0)] Mem.empty)
noncomputable def both (f : Bool → Bool) : Bool := f true && f false
theorem both_use {f : Bool → Bool} (h : both f = true) (b : Bool) : f b = true := by
  have h : (f true && f false) = true := h
  rw [Bool.and_eq_true] at h
  cases b
  · exact h.2
  · exact h.1
noncomputable def comps (k : Nat) : Bool := [(1, 1), (0, 0), (0, 2), (2, 0), (2, 2)].all fun p => both fun s1 => both fun s2 => comp ⟨k, p.1, p.2, s1, s2⟩

/-- The letters stand so. -/
structure Std (a b n : Int) (z : At4) : Prop where
  u3 : z.ua < 3
  s3 : z.sa < 3
  hu : Ord a b z.ua
  hs : Ord (IntKind.i8.wrap a) (IntKind.i8.wrap b) z.sa
  c1 : cmpd a b = .agg #[.bool (Nat.beq z.ua 0), .bool (Nat.beq z.ua 1), .bool z.s1, .bool (xorB z.s1 (Nat.beq z.sa 0)), .bool (parB ((a - b) % 256) 8)]
  c2 : cmpd b a = .agg #[.bool (Nat.beq z.ua 2), .bool (Nat.beq z.ua 1), .bool z.s2, .bool (xorB z.s2 (Nat.beq z.sa 2)), .bool (parB ((b - a) % 256) 8)]
  hk : n % 16 = (z.k : Int)

noncomputable def Sp (a b n : Int) : Nat → Value := Sc a b n (parB ((a - b) % 256) 8) (parB ((b - a) % 256) 8)
theorem give_val {D : Nat → Prop} {V : Va} {w : World} {m : Mem} {f : FuncId} {args : Array Value} {v : Value} {s : SV} (hm : RelM D V m w) (hv : v = s.val V) (hon : s.on D)
    (h : Calls Try.prog f args w fun e w' => e = .returned v ∧ Below w.heap.size w w') : Calls Try.prog f args w (Gives D V w m s m) := by
  refine h.mono ?_
  rintro e w' ⟨rfl, hb⟩
  obtain ⟨h1, h2⟩ := gives_of_below hm hb
  exact ⟨V, by rw [hv], h1, h2, SV.on_mono Dn_le hon⟩

theorem sumC_ok {a b n : Int} {z : At4} (hz : Std a b n z) : CallOK (ctxC z.ua z.sa (Sp a b n)) (sumC z) := by
  intro f args m r m' h
  unfold sumC at h
  by_cases e : Nat.beq f 12 = true
  · rw [if_pos e] at h
    have e' := Nat.eq_of_beq_eq_true e
    clear e
    subst e'
    split at h
    case h_2 => cases h
    rename_i i j
    by_cases e1 : (Nat.beq i 20 && Nat.beq j 21) = true
    · rw [if_pos e1] at h
      cases h
      rw [Bool.and_eq_true] at e1
      have ei := Nat.eq_of_beq_eq_true e1.1
      have ej := Nat.eq_of_beq_eq_true e1.2
      subst ei
      subst ej
      refine ⟨Try.call12, fun D V w hg hm _ _ => ?_⟩
      have hV : V.sym = Sp a b n := hg.sym
      have ha : (([SV.one (At.sym 20), SV.one (At.sym 21)]).map (SV.val V)).toArray = #[.int .u8 a, .int .u8 b] := by
        simp only [List.map_cons, List.map_nil, SV.val, At.val, hV]
        rfl
      rw [ha]
      refine give_val hm ?_ ?_ (compared w a b)
      · rw [hz.c1]
        simp only [SV.val, List.map_cons, List.map_nil, lb, At.val, hV]
        rfl
      · intro x hx
        simp only [List.mem_cons, List.not_mem_nil, or_false] at hx
        rcases hx with rfl | rfl | rfl | rfl | rfl <;> trivial
    · rw [if_neg e1] at h
      by_cases e2 : (Nat.beq i 21 && Nat.beq j 20) = true
      · rw [if_pos e2] at h
        cases h
        rw [Bool.and_eq_true] at e2
        have ei := Nat.eq_of_beq_eq_true e2.1
        have ej := Nat.eq_of_beq_eq_true e2.2
        subst ei
        subst ej
        refine ⟨Try.call12, fun D V w hg hm _ _ => ?_⟩
        have hV : V.sym = Sp a b n := hg.sym
        have ha : (([SV.one (At.sym 21), SV.one (At.sym 20)]).map (SV.val V)).toArray = #[.int .u8 b, .int .u8 a] := by
          simp only [List.map_cons, List.map_nil, SV.val, At.val, hV]
          rfl
        rw [ha]
        refine give_val hm ?_ ?_ (compared w b a)
        · rw [hz.c2]
          simp only [SV.val, List.map_cons, List.map_nil, lb, At.val, hV]
          rfl
        · intro x hx
          simp only [List.mem_cons, List.not_mem_nil, or_false] at hx
          rcases hx with rfl | rfl | rfl | rfl | rfl <;> trivial
      · rw [if_neg e2] at h
        cases h
  · rw [if_neg e] at h
    by_cases e3 : Nat.beq f 13 = true
    · rw [if_pos e3] at h
      have e' := Nat.eq_of_beq_eq_true e3
      clear e e3
      subst e'
      split at h
      case h_2 => cases h
      rename_i i d
      split at h
      case isFalse => cases h
      rename_i hid
      cases h
      rw [Bool.and_eq_true] at hid
      have ei := Nat.eq_of_beq_eq_true hid.1
      have ed := Nat.eq_of_beq_eq_true hid.2
      subst ei
      subst ed
      refine ⟨Try.call13, fun D V w hg hm _ _ => ?_⟩
      have hV : V.sym = Sp a b n := hg.sym
      have ha : (([SV.one (At.sym 0), SV.one (At.lit (.int .i64 (.ofNat 16)))]).map (SV.val V)).toArray = #[.int .i64 n, .int .i64 ((16 : Nat) : Int)] := by
        simp only [List.map_cons, List.map_nil, SV.val, At.val, hV]
        rfl
      rw [ha]
      have hp := pick w n 16 (by decide) (by decide)
      refine give_val (v := .int .i64 (z.k : Int)) hm rfl trivial (hp.mono ?_)
      rintro e w' ⟨rfl, rfl⟩
      refine ⟨?_, Below.refl _ _⟩
      have := hz.hk
      rw [← this]
      rfl
    · rw [if_neg e3] at h
      exact sumAw_ok _ rfl f args m r m' h

theorem ctxC_ok {a b n : Int} {z : At4} (hz : Std a b n z) : XOK (ctxC z.ua z.sa (Sp a b n)) :=
  ⟨Sc_one _ _ _ _ _, (fun k a h => by cases h), oraC_ok hz.u3 hz.s3 hz.hu hz.hs conv_run, fun _ _ _ _ _ _ _ _ _ _ => trivial⟩
theorem callC_ok {a b n : Int} {z : At4} (hz : Std a b n z) : CallOK (ctxC z.ua z.sa (Sp a b n)) (callC z) :=
  callF_sound (X := ctxC z.ua z.sa (Sp a b n)) (ctxC_ok hz) (sumC_ok hz) (noYld_ok _) (drawRun_ok (X := ctxC z.ua z.sa (Sp a b n)) (ctxC_ok hz) (noYld_ok _) follows_mixed) ftOf_ok 12

theorem comp_use {a b n : Int} {z : At4} (hz : Std a b n z) (h : comp z = true) (w : World) : Calls Try.prog 4 #[.int .u8 a, .int .u8 b, .int .i64 n] w (BoolP w true) := by
  refine true_of_run (X := ctxC z.ua z.sa (Sp a b n)) (callC_ok hz) h (fun _ _ _ => trivial) ?_ w ?_
  · intro s hs
    simp only [List.mem_cons, List.not_mem_nil, or_false] at hs
    rcases hs with rfl | rfl | rfl <;> trivial
  · intro V hV
    simp only [List.map_cons, List.map_nil, SV.val, At.val, hV]
    rfl

/-- Bytes with a sign. -/
theorem wrap8 {a : Int} (h0 : 0 ≤ a) (h1 : a ≤ 255) : IntKind.i8.wrap a = if 127 < a then a - 256 else a := by
  simp [IntKind.wrap, IntKind.signed, IntKind.bits]
  split <;> split <;> omega
theorem w64 {x : Int} (h : -1000 ≤ x) (h' : x ≤ 1000) : wrap64 x = x := by
  simp [wrap64]
  omega
theorem ord_of (m n : Int) : ∃ o, o < 3 ∧ Ord m n o ∧ decide (m < n) = Nat.beq o 0 ∧ (m == n) = Nat.beq o 1 ∧ decide (n < m) = Nat.beq o 2 ∧ (n == m) = Nat.beq o 1 := by
  by_cases h1 : m < n
  · exact ⟨0, by decide, h1, by rw [b00]; simpa using h1, by rw [b01]; simp; omega, by rw [b02]; simp; omega, by rw [b01]; simp; omega⟩
  by_cases h2 : m = n
  · exact ⟨1, by decide, h2, by rw [b10]; simp; omega, by rw [b11]; simp; omega, by rw [b12]; simp; omega, by rw [b11]; simp; omega⟩
  · exact ⟨2, by decide, show n < m by omega, by rw [b20]; simp; omega, by rw [b21]; simp; omega, by rw [b22]; simp; omega, by rw [b21]; simp; omega⟩

theorem sgn_eq {a b : Int} (ha : 0 ≤ a) (ha' : a ≤ 255) (hb : 0 ≤ b) (hb' : b ≤ 255) : sgn a b = IntKind.i8.wrap a - IntKind.i8.wrap b := by
  have e1 := wrap8 ha ha'
  have e2 := wrap8 hb hb'
  have l1 : -128 ≤ IntKind.i8.wrap a ∧ IntKind.i8.wrap a ≤ 127 := by rw [e1]; split <;> omega
  have l2 : -128 ≤ IntKind.i8.wrap b ∧ IntKind.i8.wrap b ≤ 127 := by rw [e2]; split <;> omega
  unfold sgn
  rw [w64 (x := IntKind.i8.wrap a) (by omega) (by omega), w64 (x := IntKind.i8.wrap b) (by omega) (by omega), w64 (by omega) (by omega)]
theorem over_eq {a b : Int} (ha : 0 ≤ a) (ha' : a ≤ 255) (hb : 0 ≤ b) (hb' : b ≤ 255) :
    (decide (sgn a b < -128) || decide (127 < sgn a b)) = xorB (decide (127 < (a - b) % 256)) (decide (IntKind.i8.wrap a < IntKind.i8.wrap b)) := by
  rw [sgn_eq ha ha' hb hb']
  have e1 := wrap8 ha ha'
  have e2 := wrap8 hb hb'
  by_cases h1 : 127 < (a - b) % 256 <;> by_cases h2 : IntKind.i8.wrap a < IntKind.i8.wrap b
  all_goals simp only [h1, h2, decide_true, decide_false, xorB, Bool.not_true, Bool.not_false, Bool.or_eq_true, decide_eq_true_eq, Bool.or_eq_false_iff, decide_eq_false_iff_not]
  all_goals
    split at e1 <;> split at e2 <;> rw [e1, e2] at h2 ⊢ <;> omega

noncomputable def pairs5 : List (Nat × Nat) := [(1, 1), (0, 0), (0, 2), (2, 0), (2, 2)]
theorem std_any (a b n : Int) (ha : 0 ≤ a) (ha' : a ≤ 255) (hb : 0 ≤ b) (hb' : b ≤ 255) : ∃ z : At4, Std a b n z ∧ z.k < 16 ∧ (z.ua, z.sa) ∈ pairs5 := by
  obtain ⟨ua, h1, h2, h3, h4, h5, h6⟩ := ord_of a b
  obtain ⟨sa, g1, g2, g3, g4, g5, g6⟩ := ord_of (IntKind.i8.wrap a) (IntKind.i8.wrap b)
  have hk0 : 0 ≤ n % 16 := by omega
  have hk1 : n % 16 < 16 := by omega
  obtain ⟨k, hk⟩ := Int.eq_ofNat_of_zero_le hk0
  refine ⟨⟨k, ua, sa, decide (127 < (a - b) % 256), decide (127 < (b - a) % 256)⟩, ⟨h1, g1, h2, g2, ?_, ?_, hk⟩, ?_, ?_⟩
  · rw [cmpd, over_eq ha ha' hb hb', h3, h4, g3]
  · rw [cmpd, over_eq hb hb' ha ha', h5, h6, g5]
  · show k < 16
    omega
  · have e1 := wrap8 ha ha'
    have e2 := wrap8 hb hb'
    show (ua, sa) ∈ pairs5
    have key : a = b ↔ IntKind.i8.wrap a = IntKind.i8.wrap b := by
      split at e1 <;> split at e2 <;> rw [e1, e2] <;> omega
    match ua, sa, h1, g1, h2, g2 with
    | 0, 0, _, _, _, _ => exact .tail _ (.head _)
    | 0, 1, _, _, h2, g2 =>
      have h2 : a < b := h2
      have g2 : IntKind.i8.wrap a = IntKind.i8.wrap b := g2
      have := key.2 g2
      omega
    | 0, 2, _, _, _, _ => exact .tail _ (.tail _ (.head _))
    | 1, 0, _, _, h2, g2 =>
      have h2 : a = b := h2
      have g2 : IntKind.i8.wrap a < IntKind.i8.wrap b := g2
      have := key.1 h2
      omega
    | 1, 1, _, _, _, _ => exact .head _
    | 1, 2, _, _, h2, g2 =>
      have h2 : a = b := h2
      have g2 : IntKind.i8.wrap b < IntKind.i8.wrap a := g2
      have := key.1 h2
      omega
    | 2, 0, _, _, _, _ => exact .tail _ (.tail _ (.tail _ (.head _)))
    | 2, 1, _, _, h2, g2 =>
      have h2 : b < a := h2
      have g2 : IntKind.i8.wrap a = IntKind.i8.wrap b := g2
      have := key.2 g2
      omega
    | 2, 2, _, _, _, _ => exact .tail _ (.tail _ (.tail _ (.tail _ (.head _))))
    | ua + 3, _, h, _, _, _ => exact absurd h (by omega)
    | 0, sa + 3, _, h, _, _ => exact absurd h (by omega)
    | 1, sa + 3, _, h, _, _ => exact absurd h (by omega)
    | 2, sa + 3, _, h, _, _ => exact absurd h (by omega)

theorem comps_use {a b n : Int} {z : At4} (hz : Std a b n z) (hp : (z.ua, z.sa) ∈ pairs5) (h : comps z.k = true) (w : World) : Calls Try.prog 4 #[.int .u8 a, .int .u8 b, .int .i64 n] w (BoolP w true) := by
  have h1 := List.all_eq_true.1 h _ hp
  exact comp_use hz (both_use (both_use h1 z.s1) z.s2) w
end Go.Proofs.Ytnkdpcalgllnbaa.Co
