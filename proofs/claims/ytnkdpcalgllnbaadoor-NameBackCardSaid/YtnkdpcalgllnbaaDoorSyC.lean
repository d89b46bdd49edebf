/-
  The symbolic run: each operation does what the run says.
-/
import Derived.Test.YtnkdpcalgllnbaaDoorSyB
namespace Go.Proofs.YtnkdpcalgllnbaaDoor.Sy
open Go Go.RowKit

/-- The fence that lets everything in. -/
def Fw (ro : Option Nat) : Fence := { fn := fun _ => True, depth := none, alive := false, round := ro }
theorem callsIn_fw {ro : Option Nat} {n : Nat} {P : Program} {f : FuncId} {args : Array Value} {w : World} {R : Ending → World → Prop} : CallsIn (Fw ro) n P f args w R ↔ Calls P f args w R :=
  callsIn_wide (n := n)

structure FrR (D : Nat → Prop) (V : Va) (fr : Frm) (a : Act) : Prop where
  size : a.tmps.size = fr.N
  at_ : ∀ t s, fr.tr.get t = some s → a.tmps[t]? = some (s.val V) ∧ s.on D

theorem FrR.kept {D D' : Nat → Prop} {V V' : Va} {fr : Frm} {a : Act} (h : FrR D V fr a) (hV : V.agree D V') (hD : ∀ i, D i → D' i) : FrR D' V' fr a :=
  ⟨h.size, fun t s ht => by
    obtain ⟨h1, h2⟩ := h.at_ t s ht
    exact ⟨by rw [SV.val_agree hV h2]; exact h1, SV.on_mono hD h2⟩⟩

theorem FrR.put {D : Nat → Prop} {V : Va} {fr fr' : Frm} {a : Act} {d : Option Nat} {s : SV} (h : FrR D V fr a) (hp : fr.put d s = some fr') (hs : s.on D) : FrR D V fr' (a.put d (s.val V)) := by
  cases d with
  | none => simp only [Frm.put, Option.some.injEq] at hp; subst hp; exact h
  | some d =>
    simp only [Frm.put] at hp
    split at hp
    · rename_i hlt
      cases hp
      have hlt' : d < fr.N := Nat.le_of_ble_eq_true hlt
      refine ⟨by simp [Act.put, h.size], fun t u ht => ?_⟩
      rcases Tr.get_put _ _ _ _ _ ht with ⟨rfl, e⟩ | ⟨hne, ht⟩
      · cases e
        exact ⟨by simp [Act.put, h.size, hlt'], hs⟩
      · obtain ⟨h1, h2⟩ := h.at_ t u ht
        exact ⟨by simp only [Act.put]; rw [Array.getElem?_setIfInBounds_ne (Ne.symm hne)]; exact h1, h2⟩
    · cases hp

theorem FrR.ev {D : Nat → Prop} {V : Va} {fr : Frm} {a : Act} (h : FrR D V fr a) {x : Operand} {s : SV} (hx : fr.ev x = some s) : a.eval x = s.val V ∧ s.on D := by
  cases x with
  | tmp t =>
    obtain ⟨h1, h2⟩ := h.at_ t s hx
    exact ⟨by simp only [Act.eval, Array.getD_eq_getD_getElem?, h1, Option.getD_some], h2⟩
  | const v =>
    simp only [Frm.ev, Option.some.injEq] at hx
    subst hx
    exact ⟨(ofVal_val V v).symm, ofVal_on D v⟩
  | func f =>
    simp only [Frm.ev, Option.some.injEq] at hx
    subst hx
    exact ⟨rfl, trivial⟩
  | global g => simp [Frm.ev] at hx

theorem FrR.evL {D : Nat → Prop} {V : Va} {fr : Frm} {a : Act} (h : FrR D V fr a) {x : Operand} {v : Value} (hx : fr.evL x = some v) : a.eval x = v := by
  unfold Frm.evL at hx
  cases he : fr.ev x with
  | none => simp [he] at hx
  | some s =>
    simp only [he, Option.bind_some] at hx
    rw [(h.ev he).1, lit?_val V s v hx]

theorem FrR.evs {D : Nat → Prop} {V : Va} {fr : Frm} {a : Act} (h : FrR D V fr a) : ∀ {l : List Operand} {ss : List SV}, fr.evs l = some ss → l.map a.eval = ss.map (SV.val V) ∧ ∀ s ∈ ss, s.on D
  | [], ss, hx => by simp only [Frm.evs, Option.some.injEq] at hx; subst hx; simp
  | x :: l, ss, hx => by
    simp only [Frm.evs] at hx
    cases he : fr.ev x with
    | none => simp [he] at hx
    | some s =>
      simp only [he, Option.map_eq_some_iff] at hx
      obtain ⟨us, hu, rfl⟩ := hx
      obtain ⟨h1, h2⟩ := FrR.evs h hu
      obtain ⟨h3, h4⟩ := h.ev he
      refine ⟨by simp [h1, h3], fun u hu => ?_⟩
      rcases List.mem_cons.1 hu with rfl | hu
      · exact h4
      · exact h2 u hu

structure Ctx where
  C : Cfg
  S : Nat → Value
  lp : Nat
  LI : (Nat → Prop) → Va → World → Prop

structure XOK (X : Ctx) : Prop where
  sym : ∀ k, (X.S k).oneCell' = true
  neq : ∀ k a, X.C.neq k a = true → ∃ b, X.S k = .int .i64 b ∧ a ≠ b
  ora : ∀ op ev s, X.C.ora op ev = some s → ∀ o : Oper, o.op = op → ∀ V : Va, V.sym = X.S → ∀ ρ : Operand → Value, (∀ x t, ev x = some t → ρ x = t.val V) → (∀ w, (execOp ρ o).run X.C.P w = .ok (.value (s.val V)) w) ∧ s.on fun _ => False
  li : ∀ (D D' : Nat → Prop) V V' w w', V.agree D V' → (∀ i, D i → D' i) → KeepsOthers w w' → X.LI D V w → X.LI D' V' w'

structure Good (X : Ctx) (V : Va) : Prop where
  sym : V.sym = X.S
  lp : V.lp = X.lp
theorem Good.kept {X : Ctx} {D : Nat → Prop} {V V' : Va} (h : Good X V) (hV : V.agree D V') : Good X V' := ⟨hV.sym.trans h.sym, hV.lp.trans h.lp⟩
theorem Good.symOK {X : Ctx} {V : Va} (hX : XOK X) (h : Good X V) : SymOK V := fun k => by rw [h.sym]; exact hX.sym k

/-- What a call leaves. -/
def Gives (D : Nat → Prop) (V : Va) (w : World) (m : Mem) (r : SV) (m' : Mem) : Ending → World → Prop := fun e w' =>
  ∃ V', e = .returned (r.val V') ∧ StepM D V w m V' w' m' ∧ RelM (Dn D m.nxt m'.nxt) V' m' w' ∧ r.on (Dn D m.nxt m'.nxt)

def CallOK (X : Ctx) (call : CallT) : Prop := ∀ f args m r m', call f args m = some (r, m') →
  (∀ as w, (callFunc f as).run X.C.P w = .ok (.enter f as) w) ∧
  ∀ (D : Nat → Prop) V w, Good X V → RelM D V m w → X.LI D V w → (∀ s ∈ args, s.on D) → Calls X.C.P f (args.map (SV.val V)).toArray w (Gives D V w m r m')

def YieldOK (X : Ctx) (yld : YieldT) : Prop := ∀ args m r m', yld args m = some (r, m') →
  ∀ (D : Nat → Prop) V w n, Good X V → RelM D V m w → X.LI D V w → (∀ s ∈ args, s.on D) → YieldAt (Fw none) n X.C.P X.lp (args.map (SV.val V)).toArray w (Gives D V w m r m')

section
variable {X : Ctx} {D : Nat → Prop} {V : Va} {w : World} {m : Mem} {fr : Frm} {a : Act} {o : Oper} {ro : Option Nat} {n : Nat} {K : Act → World → Prop} {Q : Exit → Act → World → Prop} {s : SV} {m' : Mem}

/-- What is asked behind an operation. -/
def Next_ (D : Nat → Prop) (V : Va) (w : World) (m : Mem) (s : SV) (m' : Mem) (a : Act) (d : Option Nat) (K : Act → World → Prop) : Prop :=
  ∀ V' w', StepM D V w m V' w' m' → RelM (Dn D m.nxt m'.nxt) V' m' w' → s.on (Dn D m.nxt m'.nxt) → K (a.put d (s.val V')) w'

theorem op_value {w' : World} {v : Value} (hnd : ∀ c, o.op ≠ .defer c) (hr : (execOp a.eval o).run X.C.P w = .ok (.value v) w') (h : K (a.put o.dst v) w') : o.wpIn (Fw ro) n X.C.P a w K Q :=
  ⟨fun _ _ => trivial, by rw [Oper.semAt_eq _ _ _ hnd, hr]; exact h⟩
theorem op_skip {w' : World} (hnd : ∀ c, o.op ≠ .defer c) (hr : (execOp a.eval o).run X.C.P w = .ok .skip w') (h : K (a.put o.dst undef) w') : o.wpIn (Fw ro) n X.C.P a w K Q :=
  ⟨fun _ _ => trivial, by rw [Oper.semAt_eq _ _ _ hnd, hr]; exact h⟩
theorem op_enter {f : FuncId} {args : Array Value} {R : Ending → World → Prop} (hnd : ∀ c, o.op ≠ .defer c) (hr : (execOp a.eval o).run X.C.P w = .ok (.enter f args) w) (h : Calls X.C.P f args w R)
    (hR : ∀ e w', R e w' → ∃ v, e = .returned v ∧ K (a.put o.dst v) w') : o.wpIn (Fw ro) n X.C.P a w K Q :=
  ⟨fun _ _ => trivial, by
    rw [Oper.semAt_eq _ _ _ hnd, hr]
    refine ⟨fun h => by simp [Fw] at h, callsIn_fw.2 (h.mono fun e w' he => ?_)⟩
    obtain ⟨v, rfl, hk⟩ := hR e w' he
    exact hk⟩
theorem op_round {l : Nat} {f : FuncId} {tmps : Array Value} {as body : Code} {R : Ending → World → Prop} (hnd : ∀ c, o.op ≠ .defer c) (hr : (execOp a.eval o).run X.C.P w = .ok (.round l f tmps as body) w) (h : RoundIn (Fw none) (n - 1) X.C.P l f tmps as body w R)
    (hR : ∀ e w', R e w' → ∃ v, e = .returned v ∧ K (a.put o.dst v) w') : o.wpIn (Fw ro) n X.C.P a w K Q :=
  ⟨fun _ _ => trivial, by
    rw [Oper.semAt_eq _ _ _ hnd, hr]
    refine ⟨fun h => by simp [Fw] at h, ?_⟩
    have h' : RoundIn (Fw ro) (n - 1) X.C.P l f tmps as body w R := h
    refine h'.mono fun e w' he => ?_
    obtain ⟨v, rfl, hk⟩ := hR e w' he
    exact hk⟩

theorem next_stay (hm : RelM D V m w) (hs : s.on D) (hk : Next_ D V w m s m a o.dst K) : K (a.put o.dst (s.val V)) w :=
  hk V w .refl (by rw [Dn_self]; exact hm) (by rw [Dn_self]; exact hs)

theorem not_defer {ρ : Operand → Value} {v : Value} (hr : (execOp ρ o).run X.C.P w = .ok (.value v) w) : ∀ c, o.op ≠ .defer c := fun c e => by
  unfold execOp at hr
  simp only [e] at hr
  simp only [Sem.run_bind] at hr
  cases hq : (resolve ρ c o.type).run X.C.P w <;> simp [hq, Result.andThen, Sem.run_pure] at hr

theorem pureOp_sound (hX : XOK X) (hg : Good X V) (h : pureOp X.C fr m o = some (s, m')) (hm : RelM D V m w) (hf : FrR D V fr a) (hk : Next_ D V w m s m' a o.dst K) : o.wpIn (Fw ro) n X.C.P a w K Q := by
  unfold pureOp at h
  split at h
  · rename_i hc
    simp only [Bool.and_eq_true, Bool.not_eq_true'] at hc
    split at h
    · rename_i v hp
      cases h
      have hsel : ∀ cs b, o.op ≠ .select cs b := fun cs b e => by rw [e] at hc; simp [isSel] at hc
      have heq : execOp a.eval o = execOp (rho fr) o := execOp_congr o hsel fun x hx => by
        have h1 : (fr.evL x).isSome = true := by
          have := hc.1
          simp only [allLit, List.all_eq_true] at this
          exact this x (by simpa using hx)
        obtain ⟨v, hv⟩ := Option.isSome_iff_exists.1 h1
        rw [hf.evL hv, rho, hv]; rfl
      have hnd : ∀ c, o.op ≠ .defer c := fun c e => by
        have hr := run_pureVal _ _ hp w
        unfold execOp at hr
        simp only [e] at hr
        simp only [Sem.run_bind] at hr
        cases hq : (resolve (rho fr) c o.type).run X.C.P w <;> simp [hq, Result.andThen, Sem.run_pure] at hr
      refine op_value hnd (by rw [heq]; exact run_pureVal _ _ hp w) ?_
      have := next_stay hm (ofVal_on D v) hk
      rw [ofVal_val] at this
      exact this
    · cases h
  · unfold oraOp at h
    obtain ⟨t, ht, e⟩ := Option.map_eq_some_iff.1 h
    cases e
    obtain ⟨h1, h2⟩ := hX.ora o.op fr.ev _ ht o rfl V hg.sym a.eval fun x t hx => (hf.ev hx).1
    exact op_value (not_defer (h1 w)) (h1 w) (next_stay hm (SV.on_mono (fun _ hi => hi.elim) h2) hk)

theorem setAt_length : ∀ (l cs : List At) (off : Nat), (setAt cs off l).length = cs.length
  | [], cs, off => rfl
  | a :: l, cs, off => by rw [setAt, setAt_length l]; simp
theorem setAt_on {D : Nat → Prop} : ∀ (l cs : List At) (off : Nat), (∀ a ∈ cs, a.on D) → (∀ a ∈ l, a.on D) → ∀ a ∈ setAt cs off l, a.on D
  | [], cs, off, h, _ => h
  | b :: l, cs, off, h, hl => setAt_on l (cs.set off b) (off + 1) (fun a ha => by
      rcases List.mem_or_eq_of_mem_set ha with h1 | rfl
      · exact h a h1
      · exact hl _ (List.mem_cons_self ..)) (fun a ha => hl a (List.mem_cons_of_mem _ ha))
theorem setAt_val (V : Va) : ∀ (l cs : List At) (off k : Nat),
    ((l.map (At.val V)).zipIdx k).foldl (fun (cs : Array Value) (p : Value × Nat) => cs.setIfInBounds (off + p.2) p.1) (cs.map (At.val V)).toArray = ((setAt cs (off + k) l).map (At.val V)).toArray
  | [], cs, off, k => rfl
  | a :: l, cs, off, k => by
    simp only [List.map_cons, List.zipIdx_cons, List.foldl_cons, setAt]
    rw [show (List.map (At.val V) cs).toArray.setIfInBounds (off + k) (At.val V a) = (List.map (At.val V) (cs.set (off + k) a)).toArray by simp [List.map_set]]
    rw [setAt_val V l _ off (k + 1)]
    rw [Nat.add_assoc]

theorem fill_sound (hS : SymOK V) (place : Nat → Option (Nat × Nat)) : ∀ (ps : List (Nat × SV)) (cells l : List At), fillS place cells ps = some l → (∀ a ∈ cells, a.on D) → (∀ p ∈ ps, p.2.on D) →
    Instr.fill place (cells.map (At.val V)).toArray (ps.map fun p => (p.1, p.2.val V)) = some (l.map (At.val V)).toArray ∧ (∀ a ∈ l, a.on D) ∧ l.length = cells.length
  | [], cells, l, h, hc, _ => by simp only [fillS, Option.some.injEq] at h; subst h; exact ⟨rfl, hc, rfl⟩
  | (i, s) :: ps, cells, l, h, hc, hp => by
    simp only [fillS] at h
    split at h
    · rename_i off size q hpl hq
      split at h
      · rename_i hc1
        simp only [Bool.and_eq_true] at hc1
        have e1 : q.length = size := Nat.eq_of_beq_eq_true hc1.1
        have e2 : off + q.length ≤ cells.length := Nat.le_of_ble_eq_true hc1.2
        obtain ⟨hv, _, _⟩ := SV.cells_val hS hq
        have hon := SV.cells_on hq (hp _ (List.mem_cons_self ..))
        obtain ⟨h1, h2, h3⟩ := fill_sound hS place ps (setAt cells off q) l h (setAt_on q cells off hc hon) (fun p hp' => hp p (List.mem_cons_of_mem _ hp'))
        refine ⟨?_, h2, by rw [h3, setAt_length]⟩
        simp only [List.map_cons, Instr.fill, hpl, hv]
        have hsz : (List.map (At.val V) q).toArray.size = size := by simp [e1]
        rw [if_neg (by simp [e1]; omega)]
        have := setAt_val V q cells off 0
        simp only [Nat.add_zero] at this
        rw [← h1, ← this]
        congr 1
        rw [← Array.foldl_toList, Array.toList_zipIdx]
      · cases h
    · cases h

theorem parts_sound (hf : FrR D V fr a) : ∀ (ps : List (Nat × Operand)) (qs : List (Nat × SV)), parts fr ps = some qs → ps.map (fun p => (p.1, a.eval p.2)) = qs.map (fun p => (p.1, p.2.val V)) ∧ ∀ p ∈ qs, p.2.on D
  | [], qs, h => by simp only [parts, Option.some.injEq] at h; subst h; simp
  | (i, x) :: ps, qs, h => by
    simp only [parts] at h
    cases he : fr.ev x with
    | none => simp [he] at h
    | some s =>
      simp only [he, Option.map_eq_some_iff] at h
      obtain ⟨us, hu, rfl⟩ := h
      obtain ⟨h1, h2⟩ := parts_sound hf ps us hu
      obtain ⟨h3, h4⟩ := hf.ev he
      refine ⟨by simp [h1, h3], fun p hp => ?_⟩
      rcases List.mem_cons.1 hp with rfl | hp
      · exact h4
      · exact h2 p hp

theorem zeros_length (z : List At) : ∀ n, (zerosS z n).length = n * z.length
  | 0 => by simp [zerosS]
  | n + 1 => by rw [zerosS, List.length_append, zeros_length z n, Nat.succ_mul, Nat.add_comm]
theorem zeros_get (z : List At) : ∀ n j, j < n * z.length → (zerosS z n)[j]? = z[j % z.length]?
  | 0, j, h => by simp at h
  | n + 1, j, h => by
    rw [zerosS]
    by_cases hj : j < z.length
    · rw [List.getElem?_append_left hj, Nat.mod_eq_of_lt hj]
    · have hp : 0 < z.length := by
        rcases Nat.eq_zero_or_pos z.length with h0 | h0
        · rw [h0] at h; simp at h
        · exact h0
      rw [List.getElem?_append_right (by omega), zeros_get z n (j - z.length) (by rw [Nat.succ_mul] at h; omega), ← Nat.mod_eq_sub_mod (by omega)]
theorem zeros_on {D : Nat → Prop} (z : List At) (h : ∀ a ∈ z, a.on D) : ∀ n, ∀ a ∈ zerosS z n, a.on D
  | 0 => fun a ha => by simp [zerosS] at ha
  | n + 1 => fun a ha => by
    rw [zerosS, List.mem_append] at ha
    rcases ha with ha | ha
    · exact h a ha
    · exact zeros_on z h n a ha
theorem zeros_val (V : Va) (z : List At) (n : Nat) : ((zerosS z n).map (At.val V)).toArray = (Array.range (n * z.length)).map fun i => (z.map (At.val V)).toArray[i % (z.map (At.val V)).toArray.size]! := by
  apply Array.ext
  · simp [zeros_length]
  · intro j h1 h2
    simp only [Array.getElem_map, Array.getElem_range, List.size_toArray, List.length_map, List.getElem_toArray, List.getElem_map]
    have hj : j < n * z.length := by simpa [zeros_length] using h1
    have hg := zeros_get z n j hj
    have hp : 0 < z.length := by
      rcases Nat.eq_zero_or_pos z.length with h0 | h0
      · rw [h0] at hj; simp at hj
      · exact h0
    have hlt : j % z.length < z.length := Nat.mod_lt _ hp
    rw [List.getElem?_eq_getElem (by rw [zeros_length]; exact hj), List.getElem?_eq_getElem hlt] at hg
    injection hg with hg
    rw [hg]
    simp [hlt]
end
end Go.Proofs.YtnkdpcalgllnbaaDoor.Sy
