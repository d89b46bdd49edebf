/-
  The symbolic run: lists of operations, code, functions.
-/
import Derived.Test.YtnkdpcalgllnbaaDoorSyF
namespace Go.Proofs.YtnkdpcalgllnbaaDoor.Sy
open Go Go.RowKit

/-- What is asked behind a piece of code. -/
noncomputable def PostN (D : Nat → Prop) (V : Va) (w : World) (m : Mem) (a : Act) (fr' : Frm) (m' : Mem) (K : Act → World → Prop) : Prop :=
  ∀ V' a' w', StepM D V w m V' w' m' → RelM (Dn D m.nxt m'.nxt) V' m' w' → FrR (Dn D m.nxt m'.nxt) V' fr' a' → a'.defers = a.defers → K a' w'

section
variable {X : Ctx} {D : Nat → Prop} {V : Va} {w : World} {m : Mem} {fr : Frm} {a : Act} {o : Oper} {ro : Option Nat} {n : Nat} {K : Act → World → Prop} {Q : Exit → Act → World → Prop} {s : SV} {m' : Mem} {call : CallT} {yld : YieldT}

theorem PostN.trans {fr2 : Frm} {m2 m1 : Mem} {V1 : Va} {w1 : World} {a1 : Act} (h : PostN D V w m a fr2 m2 K) (hs : StepM D V w m V1 w1 m1) (hr : RelM (Dn D m.nxt m1.nxt) V1 m1 w1) (hd : a1.defers = a.defers) : PostN (Dn D m.nxt m1.nxt) V1 w1 m1 a1 fr2 m2 K := by
  intro V2 a2 w2 h1 h2 h3 h4
  rw [Dn_Dn hs.nxt h1.nxt] at h2 h3
  exact h V2 a2 w2 (hs.trans h1 hr.mlt) h2 h3 (h4.trans hd)

theorem put_defers (a : Act) (d : Option Nat) (v : Value) : (a.put d v).defers = a.defers := by cases d <;> rfl

theorem wanted_sound {ops : Array Oper} {b : Bool} (h : wantedS ops.toList fr o = some b) (hf : FrR D V fr a) : Region.wanted o (yielded ops a.tmps) = b := by
  unfold wantedS at h
  unfold Region.wanted
  split at h
  · rename_i hgd
    rw [hgd]
    exact Option.some.inj h
  · rename_i j want hgd
    rw [hgd]
    simp only
    split at h
    · cases h
    · rename_i d hd
      have hd' : ((ops[j]?).bind (·.dst)) = some d := by rw [← hd]; simp
      unfold yielded
      split at h
      · rename_i b' hb
        cases h
        obtain ⟨h1, _⟩ := hf.at_ d _ hb
        simp only [hd', Option.bind_some, h1, SV.val, At.val]
        cases b' <;> cases want <;> rfl
      · rename_i hb
        cases h
        obtain ⟨h1, _⟩ := hf.at_ d _ hb
        simp only [hd', Option.bind_some, h1, SV.val, List.map_nil]
        rfl
      · cases h

theorem runOps_nil {C : Cfg} {ops : List Oper} {fr : Frm} {m : Mem} : runOps C call yld ops [] fr m = some (fr, m) := rfl
theorem runOps_cons {C : Cfg} {ops : List Oper} {o : Oper} {rest : List Oper} {fr : Frm} {m : Mem} : runOps C call yld ops (o :: rest) fr m = contN (runOps C call yld ops rest) (opN C call yld fr m o (wantedS ops fr o)) := rfl
theorem run_zero {C : Cfg} {drw : DrawT} {c : Code} {fr : Frm} {m : Mem} : run C call yld drw 0 c fr m = none := rfl
theorem run_succ {C : Cfg} {drw : DrawT} {k : Nat} {c : Code} {fr : Frm} {m : Mem} : run C call yld drw (k + 1) c fr m = runStep C call yld drw (run C call yld drw k) fr m c := rfl
theorem callF_zero {C : Cfg} {sum : CallT} {drw : CallT → DrawT} {f : Nat} {args : List SV} {m : Mem} : callF C sum yld drw 0 f args m = none := rfl
theorem callF_succ {C : Cfg} {sum : CallT} {drw : CallT → DrawT} {d f : Nat} {args : List SV} {m : Mem} : callF C sum yld drw (d + 1) f args m = orF (fun _ => funF C (callF C sum yld drw d) yld (drw (callF C sum yld drw d)) args m (C.FT f)) (sum f args m) := rfl

theorem runOps_sound (hX : XOK X) (hC : CallOK X call) (hY : YieldOK X yld) {ops : Array Oper} : ∀ (rest : List Oper) (fr : Frm) (m : Mem) (fr' : Frm) (m' : Mem), runOps X.C call yld ops.toList rest fr m = some (fr', m') →
    ∀ (D : Nat → Prop) (V : Va) (w : World) (a : Act), Good X V → RelM D V m w → X.LI D V w → FrR D V fr a → PostN D V w m a fr' m' (Q .normal) → wpListIn (Fw ro) n X.C.P ops Q rest a w := by
  intro rest
  induction rest with
  | nil =>
    intro fr m fr' m' h D V w a hg hm hl hf hk
    rw [runOps_nil] at h
    simp only [Option.some.injEq, Prod.mk.injEq] at h
    obtain ⟨rfl, rfl⟩ := h
    exact hk V a w .refl (by rw [Dn_self]; exact hm) (by rw [Dn_self]; exact hf) rfl
  | cons o rest ih =>
    intro fr m fr' m' h D V w a hg hm hl hf hk
    rw [runOps_cons] at h
    unfold opN at h
    split at h
    · rename_i hw
      have hw' := wanted_sound hw hf
      cases hs : stepOp X.C call yld fr m o with
      | none => simp [hs, putN, contN] at h
      | some q =>
        obtain ⟨s, m1⟩ := q
        cases hp : fr.put o.dst s with
        | none => simp [hs, putN, hp, contN] at h
        | some fr1 =>
          simp only [hs, putN, hp, contN] at h
          simp only [wpListIn, hw', if_true]
          refine stepOp_sound hX hC hY hg hs hm hl hf ?_
          intro V1 w1 h1 h2 h3
          exact ih fr1 m1 fr' m' h _ V1 w1 _ (hg.kept h1.agree) h2 (hX.li _ _ _ _ _ _ h1.agree Dn_le h1.oth hl) ((hf.kept h1.agree Dn_le).put hp h3) (hk.trans h1 h2 (put_defers _ _ _))
    · rename_i hw
      have hw' := wanted_sound hw hf
      cases hp : fr.put o.dst (.tup []) with
      | none => simp [putN, hp, contN] at h
      | some fr1 =>
        simp only [putN, hp, contN] at h
        simp only [wpListIn, hw']
        refine ⟨fun _ _ => trivial, ?_⟩
        have hk' := hk.trans (m1 := m) (V1 := V) (w1 := w) (a1 := a.put o.dst undef) .refl (by rw [Dn_self]; exact hm) (put_defers _ _ _)
        rw [Dn_self] at hk'
        exact ih fr1 m fr' m' h D V w _ hg hm hl (hf.put (s := .tup []) hp (fun a ha => by simp at ha)) hk'
    · simp [contN] at h

noncomputable def DrawOK (X : Ctx) (ro : Option Nat) (drw : DrawT) : Prop := ∀ ops fr m fr' m', drw ops fr m = some (fr', m') →
  ∀ (D : Nat → Prop) V w a n id (Q : Exit → Act → World → Prop), Good X V → RelM D V m w → X.LI D V w → FrR D V fr a → PostN D V w m a fr' m' (Q .normal) → (Code.region id ops.toArray true).wpIn (Fw ro) n X.C.P Q a w

noncomputable def Out.ex : Out → Exit
  | .nrm => .normal
  | .ret => .ret
  | .ext id => .exit id

theorem run_sound (hX : XOK X) (hC : CallOK X call) (hY : YieldOK X yld) {drw : DrawT} (hD : DrawOK X ro drw) : ∀ (k : Nat),
    (∀ (c : Code) (fr : Frm) (m : Mem) (out : Out) (fr' : Frm) (m' : Mem), run X.C call yld drw k c fr m = some (out, fr', m') →
      ∀ (D : Nat → Prop) (V : Va) (w : World) (a : Act) (Q : Exit → Act → World → Prop), Good X V → RelM D V m w → X.LI D V w → FrR D V fr a → PostN D V w m a fr' m' (Q out.ex) → c.wpIn (Fw ro) n X.C.P Q a w) ∧
    (∀ (c : Code) (fr : Frm) (m : Mem) (out : Out) (fr' : Frm) (m' : Mem), run X.C call yld drw k (.loop c) fr m = some (out, fr', m') →
      ∀ (D : Nat → Prop) (V : Va) (w : World) (a : Act) (Q : Exit → Act → World → Prop), Good X V → RelM D V m w → X.LI D V w → FrR D V fr a → PostN D V w m a fr' m' (Q out.ex) → Code.roundsIn (Fw ro) n X.C.P c Q k a w) := by
  intro k
  induction k with
  | zero => exact ⟨(fun c fr m out fr' m' h => by rw [run_zero] at h; cases h), (fun c fr m out fr' m' h => by rw [run_zero] at h; cases h)⟩
  | succ k ih =>
    obtain ⟨ih, ihl⟩ := ih
    have loops : ∀ (c : Code) (fr : Frm) (m : Mem) (out : Out) (fr' : Frm) (m' : Mem), run X.C call yld drw (k + 1) (.loop c) fr m = some (out, fr', m') →
      ∀ (D : Nat → Prop) (V : Va) (w : World) (a : Act) (Q : Exit → Act → World → Prop), Good X V → RelM D V m w → X.LI D V w → FrR D V fr a → PostN D V w m a fr' m' (Q out.ex) → Code.roundsIn (Fw ro) n X.C.P c Q (k + 1) a w := by
      intro c fr m out fr' m' h D V w a Q hg hm hl hf hk
      rw [roundsIn_succ]
      rw [run_succ] at h
      simp only [runStep] at h
      unfold thenN at h
      split at h
      · rename_i fr1 m1 h1
        refine ih c fr m .nrm fr1 m1 h1 D V w a _ hg hm hl hf ?_
        intro V1 a1 w1 s1 s2 s3 s4
        exact ihl c fr1 m1 out fr' m' h _ V1 w1 a1 Q (hg.kept s1.agree) s2 (hX.li _ _ _ _ _ _ s1.agree Dn_le s1.oth hl) s3 (hk.trans s1 s2 s4)
      · rename_i hne
        refine ih c fr m out fr' m' h D V w a _ hg hm hl hf ?_
        intro V1 a1 w1 s1 s2 s3 s4
        have := hk V1 a1 w1 s1 s2 s3 s4
        cases out with
        | nrm => exact absurd h (hne _ _)
        | ret => exact this
        | ext id => exact this
    refine ⟨?_, loops⟩
    intro c fr m out fr' m' h D V w a Q hg hm hl hf hk
    cases c with
    | skip =>
      rw [run_succ] at h
      simp only [runStep, Option.some.injEq, Prod.mk.injEq] at h
      obtain ⟨rfl, rfl, rfl⟩ := h
      exact wpIn_skip (hk V a w .refl (by rw [Dn_self]; exact hm) (by rw [Dn_self]; exact hf) rfl)
    | label l =>
      rw [run_succ] at h
      simp only [runStep, Option.some.injEq, Prod.mk.injEq] at h
      obtain ⟨rfl, rfl, rfl⟩ := h
      exact wpIn_label (hk V a w .refl (by rw [Dn_self]; exact hm) (by rw [Dn_self]; exact hf) rfl)
    | region id ops draw =>
      rw [run_succ] at h
      simp only [runStep, regionN] at h
      split at h
      · rename_i hd
        subst hd
        cases h1 : drw ops.toList fr m with
        | none => simp [h1, outN] at h
        | some q =>
          simp only [h1, outN, Option.some.injEq, Prod.mk.injEq] at h
          obtain ⟨rfl, rfl, rfl⟩ := h
          have := hD ops.toList fr m q.1 q.2 h1 D V w a n id Q hg hm hl hf hk
          simpa using this
      · rename_i hd
        obtain rfl : draw = false := by simpa using hd
        cases h1 : runOps X.C call yld ops.toList ops.toList fr m with
        | none => simp [h1, outN] at h
        | some q =>
          simp only [h1, outN, Option.some.injEq, Prod.mk.injEq] at h
          obtain ⟨rfl, rfl, rfl⟩ := h
          exact wpIn_region_list (runOps_sound hX hC hY ops.toList fr m q.1 q.2 h1 D V w a hg hm hl hf hk)
    | seq x y =>
      rw [run_succ] at h
      simp only [runStep] at h
      unfold thenN at h
      split at h
      · rename_i fr1 m1 h1
        refine wpIn_seq (ih x fr m .nrm fr1 m1 h1 D V w a _ hg hm hl hf ?_)
        intro V1 a1 w1 s1 s2 s3 s4
        exact ih y fr1 m1 out fr' m' h _ V1 w1 a1 Q (hg.kept s1.agree) s2 (hX.li _ _ _ _ _ _ s1.agree Dn_le s1.oth hl) s3 (hk.trans s1 s2 s4)
      · rename_i hne
        refine wpIn_seq (ih x fr m out fr' m' h D V w a _ hg hm hl hf ?_)
        intro V1 a1 w1 s1 s2 s3 s4
        have := hk V1 a1 w1 s1 s2 s3 s4
        cases out with
        | nrm => exact absurd h (hne _ _)
        | ret => exact this
        | ext id => exact this
    | cond x c1 c2 =>
      rw [run_succ] at h
      simp only [runStep] at h
      unfold condN at h
      split at h
      · rename_i hx
        exact wpIn_cond_true (hf.evL hx) (ih c1 fr m out fr' m' h D V w a Q hg hm hl hf hk)
      · rename_i hx
        exact wpIn_cond_false (hf.evL hx) (ih c2 fr m out fr' m' h D V w a Q hg hm hl hf hk)
      · cases h
    | block id c =>
      rw [run_succ] at h
      simp only [runStep] at h
      refine wpIn_block ?_
      unfold blockN at h
      split at h
      · rename_i i fr1 m1 h1
        split at h
        · rename_i hi
          cases h
          have hi' := Nat.eq_of_beq_eq_true hi
          refine ih c fr m (.ext i) fr' m' h1 D V w a _ hg hm hl hf ?_
          intro V1 a1 w1 s1 s2 s3 s4
          show Exit.inBlock id Q (.exit i) a1 w1
          simp only [Exit.inBlock, hi', if_true]
          exact hk V1 a1 w1 s1 s2 s3 s4
        · rename_i hi
          cases h
          refine ih c fr m (.ext i) fr' m' h1 D V w a _ hg hm hl hf ?_
          intro V1 a1 w1 s1 s2 s3 s4
          show Exit.inBlock id Q (.exit i) a1 w1
          have hi' : ¬ i = id := fun e => hi (by rw [e]; exact Nat.beq_refl id)
          simp only [Exit.inBlock, hi', if_false]
          exact hk V1 a1 w1 s1 s2 s3 s4
      · rename_i hne
        refine ih c fr m out fr' m' h D V w a _ hg hm hl hf ?_
        intro V1 a1 w1 s1 s2 s3 s4
        have := hk V1 a1 w1 s1 s2 s3 s4
        cases out with
        | nrm => exact this
        | ret => exact this
        | ext i => exact absurd h (hne _ _ _)
    | loop c => exact wpIn_loop_rounds (k + 1) (loops c fr m out fr' m' h D V w a Q hg hm hl hf hk)
    | exit id =>
      rw [run_succ] at h
      simp only [runStep, Option.some.injEq, Prod.mk.injEq] at h
      obtain ⟨rfl, rfl, rfl⟩ := h
      exact wpIn_exit (hk V a w .refl (by rw [Dn_self]; exact hm) (by rw [Dn_self]; exact hf) rfl)
    | ret =>
      rw [run_succ] at h
      simp only [runStep, Option.some.injEq, Prod.mk.injEq] at h
      obtain ⟨rfl, rfl, rfl⟩ := h
      exact wpIn_ret (hk V a w .refl (by rw [Dn_self]; exact hm) (by rw [Dn_self]; exact hf) rfl)
    | _ => rw [run_succ] at h; simp [runStep] at h

theorem putArgs_get : ∀ (l : List SV) (k : Nat) (t : Tr SV) (i : Nat) (s : SV), (putArgs l k t).get i = some s → (k ≤ i ∧ l[i - k]? = some s) ∨ t.get i = some s
  | [], _, _, _, _, h => .inr h
  | x :: l, k, t, i, s, h => by
    rcases putArgs_get l (k + 1) _ i s h with ⟨h1, h2⟩ | h1
    · refine .inl ⟨by omega, ?_⟩
      rw [show i - k = (i - (k + 1)) + 1 by omega, List.getElem?_cons_succ]
      exact h2
    · rcases Tr.get_put _ _ _ _ _ h1 with ⟨rfl, e⟩ | ⟨_, h1⟩
      · refine .inl ⟨Nat.le_refl _, ?_⟩
        rw [Nat.sub_self]
        exact e
      · exact .inr h1

noncomputable def resVal (tmps : Array Value) : ResultVar → Sem Value
  | .tmp t => pure (tmps.getD t undef)
  | .cell a t => do loadVar t (← asAddr (tmps.getD a undef))

theorem resOne_sound {r : ResultVar} (h : resOne X.C fr m r = some s) (hm : RelM D V m w) (hf : FrR D V fr a) : (resVal a.tmps r).run X.C.P w = .ok (s.val V) w ∧ s.on D := by
  cases r with
  | tmp t =>
    obtain ⟨h1, h2⟩ := hf.at_ t s h
    exact ⟨by simp only [resVal, Array.getD_eq_getD_getElem?, h1, Option.getD_some]; rfl, h2⟩
  | cell c t =>
    simp only [resOne] at h
    split at h
    · rename_i id off hc
      obtain ⟨h1, _⟩ := hf.at_ c _ hc
      obtain ⟨h3, h4⟩ := load_sound h hm
      refine ⟨?_, h4⟩
      simp only [resVal, Array.getD_eq_getD_getElem?, h1, Option.getD_some, SV.val, At.val, asAddr, Sem.run_bind, Sem.run_pure, Result.andThen_ok, h3]
    · cases h

theorem results_sound {fn : Func} (h : resultsS X.C fr m fn.results.toList = some s) (hm : RelM D V m w) (hf : FrR D V fr a) : (results fn a.tmps).run X.C.P w = .ok (s.val V) w ∧ s.on D := by
  have hres : ∀ l : List ResultVar, fn.results.toList = l → fn.results = l.toArray := fun l h => by rw [← h]
  have hmap : results fn a.tmps = (do let vs ← fn.results.mapM (resVal a.tmps); pure (if h : vs.size = 1 then vs[0] else .tuple vs)) := rfl
  unfold resultsS at h
  split at h
  · rename_i hl
    cases h
    refine ⟨?_, fun a ha => by simp at ha⟩
    rw [hmap, hres _ hl]
    simp [SV.val]
  · rename_i r hl
    obtain ⟨h1, h2⟩ := resOne_sound h hm hf
    refine ⟨?_, h2⟩
    rw [hmap, hres _ hl]
    simp [h1]
  · rename_i r q hl
    split at h
    · rename_i x y h1 h2
      cases h
      obtain ⟨h3, h4⟩ := resOne_sound h1 hm hf
      obtain ⟨h5, h6⟩ := resOne_sound h2 hm hf
      refine ⟨?_, fun z hz => ?_⟩
      · rw [hmap, hres _ hl]
        simp [h3, h5, SV.val]
      · simp at hz
        rcases hz with rfl | rfl
        · exact h4
        · exact h6
    · cases h
  · cases h

theorem callF_sound (hX : XOK X) {sum : CallT} (hS : CallOK X sum) (hY : YieldOK X yld) {drw : CallT → DrawT} (hD : ∀ call, CallOK X call → DrawOK X none (drw call))
    (hFT : ∀ f fn, X.C.FT f = some fn → X.C.P.funcs[f]? = some fn ∧ ∀ as w, (callFunc f as).run X.C.P w = .ok (.enter f as) w) : ∀ d, CallOK X (callF X.C sum yld drw d) := by
  intro d
  induction d with
  | zero => intro f args m r m' h; rw [callF_zero] at h; cases h
  | succ d ih =>
    intro f args m r m' h
    rw [callF_succ] at h
    unfold orF at h
    split at h
    · rename_i q hq
      cases h
      exact hS f args m r m' hq
    · unfold funF at h
      split at h
      · cases h
      · rename_i fn hfn
        obtain ⟨h1, h2⟩ := hFT f fn hfn
        refine ⟨h2, ?_⟩
        intro D V w hg hm hl hargs
        unfold bodyF at h
        split at h
        · cases h
        · rename_i c hc
          have key : ∀ (out : Out) (fr : Frm) (m1 : Mem), (out = .nrm ∨ out = .ret) → run X.C (callF X.C sum yld drw d) yld (drw (callF X.C sum yld drw d)) maxFuel c { N := args.length + (fn.ntmps - args.length), tr := putArgs args 0 .nil } m = some (out, fr, m1) →
              (resultsS X.C fr m1 fn.results.toList).map (·, m1) = some (r, m') → Calls X.C.P f (args.map (SV.val V)).toArray w (Gives D V w m r m') := by
            intro out fr m1 hout hrun hres
            simp only [Option.map_eq_some_iff] at hres
            obtain ⟨s, hs, e⟩ := hres
            cases e
            refine calls_of_wp h1 hc ?_
            refine (wpIn_wide (n := 0)).1 ?_
            refine (run_sound (ro := none) (n := 0) hX ih hY (hD _ ih) maxFuel).1 c _ m out fr m' hrun D V w _ _ hg hm hl ⟨by simp, fun t s ht => ?_⟩ ?_
            · rcases putArgs_get _ _ _ _ _ ht with ⟨_, h3⟩ | h3
              · rw [Nat.sub_zero] at h3
                have hlt : t < args.length := (List.getElem?_eq_some_iff.1 h3).1
                refine ⟨?_, hargs s (List.mem_of_getElem? h3)⟩
                rw [Array.getElem?_append_left (by simpa using hlt), List.getElem?_toArray, List.getElem?_map, h3]
                rfl
              · simp [Tr.get_nil] at h3
            · intro V1 a1 w1 s1 s2 s3 s4
              obtain ⟨r1, r2⟩ := results_sound hs s2 s3
              rcases hout with rfl | rfl
              · exact ⟨s4, _, r1, V1, rfl, s1, s2, r2⟩
              · exact ⟨s4, _, r1, V1, rfl, s1, s2, r2⟩
          unfold endF at h
          split at h
          · rename_i fr1 m1 hrun
            exact key .nrm fr1 m1 (.inl rfl) hrun h
          · rename_i fr1 m1 hrun
            exact key .ret fr1 m1 (.inr rfl) hrun h
          · cases h
end
end Go.Proofs.YtnkdpcalgllnbaaDoor.Sy
