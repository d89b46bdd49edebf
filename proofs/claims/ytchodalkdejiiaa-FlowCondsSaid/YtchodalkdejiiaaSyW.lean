/-
  The symbolic run: a function that ranges over a function (its value told outright): its contract.
-/
import Derived.Test.YtchodalkdejiiaaSyV
namespace Go.Proofs.Ytchodalkdejiiaa.Sy
open Go Go.RowKit

noncomputable def nrmN : Option (Out × Frm × Mem) → Option (Frm × Mem)
  | some (.nrm, fr, m) => some (fr, m)
  | _ => none
theorem nrmN_some {o : Option (Out × Frm × Mem)} {fr : Frm} {m : Mem} (h : nrmN o = some (fr, m)) : o = some (.nrm, fr, m) := by
  unfold nrmN at h
  split at h
  · cases h; rfl
  · cases h

noncomputable def atN (k : Frm → Mem → Option (SV × Mem)) : Option (Frm × Mem) → Option (SV × Mem)
  | some (fr, m) => k fr m
  | none => none

noncomputable def rfRest (C : Cfg) (call : CallT) (rs : List ResultVar) (rest : Code) (fr : Frm) : Option (SV × Mem) → Option (SV × Mem)
  | some (_, m) => if memNoY m then endF C rs (run C call (fun _ _ => none) (fun _ _ _ => none) maxFuel rest fr m) else none
  | none => none

noncomputable def rfCall (C : Cfg) (call : CallT) (mk : YieldT → CallT) (rs : List ResultVar) (ps : List Nat) (assign body rest : Code) (fr : Frm) (m : Mem) : Option SV → Option (SV × Mem)
  | some (.one (.lit (.func (.func f) first caps))) =>
    if first.isEmpty && caps.isEmpty && frNoY fr && memNoY m then rfRest C call rs rest fr (mk (yldOf C call fr ps assign body) f [.one .yld] m) else none
  | _ => none

noncomputable def rfRun (C : Cfg) (call : CallT) (mk : YieldT → CallT) (rs : List ResultVar) (A B E : Code) (g : Nat) (ps : List Nat) (assign body rest : Code) (fr : Frm) (m : Mem) : Option (SV × Mem) :=
  atN (fun fr m => atN (fun fr m => atN (fun fr m => rfCall C call mk rs ps assign body rest fr m (fr.tr.get g))
    (nrmN (run C call (fun _ _ => none) (fun _ _ _ => none) maxFuel E fr m)))
    (nrmN (run C call (fun _ _ => none) (fun _ _ _ => none) maxFuel B fr m)))
    (nrmN (run C call (fun _ _ => none) (fun _ _ _ => none) maxFuel A fr m))

noncomputable def rfCode (C : Cfg) (call : CallT) (mk : YieldT → CallT) (rs : List ResultVar) (fr : Frm) (m : Mem) (c : Code) : Option (SV × Mem) :=
  match c with
  | .seq A (.seq B (.seq (.seq E (.block _ (.rangeFunc (.tmp g) ps assign body))) rest)) => rfRun C call mk rs A B E g ps.toList assign body rest fr m
  | _ => none

theorem atN_some {k : Frm → Mem → Option (SV × Mem)} {o : Option (Frm × Mem)} {r : SV × Mem} (h : atN k o = some r) : ∃ fr m, o = some (fr, m) ∧ k fr m = some r := by
  unfold atN at h
  split at h
  · exact ⟨_, _, rfl, h⟩
  · cases h

theorem StepM.alloc {D : Nat → Prop} {V : Va} {m : Mem} (w : World) (o : Obj) : StepM D V w m V (w.alloc o) m :=
  ⟨Nat.le_refl _, .refl _ _, fun _ h => h, rfl, rfl, rfl, .alloc w o, fun b hb _ => Below.heap_alloc w o b hb, fun i h1 h2 => absurd h2 (by omega)⟩
theorem StepM.alloc' {D : Nat → Prop} {V : Va} {m : Mem} {w w' : World} (h : StepM D V w m V w' m) (o : Obj) : StepM D V w m V (w'.alloc o) m :=
  ⟨h.nxt, h.agree, h.mods, h.os, h.tape, h.output, h.oth.trans (.alloc w' o), fun b hb hi => (Below.heap_alloc w' o b (Nat.lt_of_lt_of_le hb h.oth.size)).trans (h.same b hb hi), h.fresh⟩
theorem RelM.alloc {D : Nat → Prop} {V : Va} {m : Mem} {w : World} (h : RelM D V m w) (o : Obj) : RelM D V m (w.alloc o) := by
  refine ⟨h.dom, fun i ob hi => ?_, h.inj, h.mlt⟩
  obtain ⟨h1, h2, h3⟩ := h.ob i ob hi
  exact ⟨h1, h2, h3.kept h1 h2 (.refl _ _) (Below.heap_alloc w o _ h3.lt)⟩

theorem rf_ok {C : Cfg} {S : Nat → Value} {lp : Nat} {LI : (Nat → Prop) → Va → World → Prop} {call : CallT} {mk : YieldT → CallT}
    (hX : ∀ lp' LI', (∀ (D D' : Nat → Prop) V V' w w', V.agree D V' → (∀ i, D i → D' i) → KeepsOthers w w' → LI' D V w → LI' D' V' w') → XOK { C := C, S := S, lp := lp', LI := LI' })
    (hLI : ∀ (D D' : Nat → Prop) V V' w w', V.agree D V' → (∀ i, D i → D' i) → KeepsOthers w w' → LI D V w → LI D' V' w')
    (hC : ∀ lp' LI', XOK { C := C, S := S, lp := lp', LI := LI' } → CallOK { C := C, S := S, lp := lp', LI := LI' } call)
    (hmk : ∀ lp' LI' yld, XOK { C := C, S := S, lp := lp', LI := LI' } → YieldOK { C := C, S := S, lp := lp', LI := LI' } yld → CallOK { C := C, S := S, lp := lp', LI := LI' } (mk yld))
    {f : FuncId} {fn : Func} {c : Code} (hf : C.P.funcs[f]? = some fn) (hb : fn.body = some c) {args : List SV} {m : Mem} {r : SV} {m' : Mem}
    (h : rfCode C call mk fn.results.toList { N := args.length + (fn.ntmps - args.length), tr := putArgs args 0 .nil } m c = some (r, m'))
    {D : Nat → Prop} {V : Va} {w : World} (hg : Good { C := C, S := S, lp := lp, LI := LI } V) (hm : RelM D V m w) (hl : LI D V w) (hargs : ∀ s ∈ args, s.on D) :
    Calls C.P f (args.map (SV.val V)).toArray w (Gives D V w m r m') := by
  unfold rfCode at h
  split at h
  case h_2 => cases h
  rename_i A B E bid g ps assign body rest
  unfold rfRun at h
  obtain ⟨fr1, m1, h1, h⟩ := atN_some h
  obtain ⟨fr2, m2, h2, h⟩ := atN_some h
  obtain ⟨fr3, m3, h3, h⟩ := atN_some h
  have h1 := nrmN_some h1
  have h2 := nrmN_some h2
  have h3 := nrmN_some h3
  unfold rfCall at h
  split at h
  case h_2 => cases h
  rename_i f' first caps hfg
  split at h
  case isFalse => cases h
  rename_i hchk
  simp only [Bool.and_eq_true, Array.isEmpty_iff] at hchk
  obtain ⟨⟨⟨rfl, rfl⟩, hfy⟩, hmy⟩ := hchk
  unfold rfRest at h
  split at h
  case h_2 => cases h
  rename_i rr m4 h4
  split at h
  case isFalse => cases h
  rename_i hmy4
  have hXl := hX lp LI hLI
  have hCl := hC lp LI hXl
  have noY : ∀ X : Ctx, YieldOK X (fun _ _ => none) := fun _ _ _ _ _ h => by cases h
  have noD : ∀ X : Ctx, DrawOK X none (fun _ _ _ => none) := fun _ _ _ _ _ _ h => by cases h
  refine callsIn_fw (ro := none) (n := 0) |>.1 (callsIn_of_wp_marks hf hb trivial ?_)
  have rs := fun c fr m out fr' m' h => (run_sound (X := { C := C, S := S, lp := lp, LI := LI }) (ro := none) (n := 0) hXl hCl (noY _) (noD _) maxFuel).1 c fr m out fr' m' h
  have li := fun (D D' : Nat → Prop) V V' w w' => hXl.li D D' V V' w w'
  refine wpIn_seq (rs A _ m .nrm fr1 m1 h1 D V w _ _ hg hm hl ⟨by simp, fun t s ht => ?_⟩ ?_)
  · rcases putArgs_get _ _ _ _ _ ht with ⟨_, h3⟩ | h3
    · rw [Nat.sub_zero] at h3
      have hlt : t < args.length := (List.getElem?_eq_some_iff.1 h3).1
      refine ⟨?_, hargs s (List.mem_of_getElem? h3)⟩
      rw [Array.getElem?_append_left (by simpa using hlt), List.getElem?_toArray, List.getElem?_map, h3]
      rfl
    · simp [Tr.get_nil] at h3
  intro V1 a1 w1 s1 r1 f1 d1
  refine wpIn_seq (rs B fr1 m1 .nrm fr2 m2 h2 _ V1 w1 a1 _ (hg.kept s1.agree) r1 (li _ _ _ _ _ _ s1.agree Dn_le s1.oth hl) f1 ?_)
  intro V2 a2 w2 s2 r2 f2 d2
  have e2 := Dn_Dn (D := D) s1.nxt s2.nxt
  have t2 := s1.trans s2 r1.mlt
  rw [e2] at r2 f2
  refine wpIn_seq (wpIn_seq (rs E fr2 m2 .nrm fr3 m3 h3 _ V2 w2 a2 _ (hg.kept t2.agree) r2 (li _ _ _ _ _ _ t2.agree Dn_le t2.oth hl) f2 ?_))
  intro V3 a3 w3 s3 r3 f3 d3
  have e3 := Dn_Dn (D := D) t2.nxt s3.nxt
  have t3 := t2.trans s3 r2.mlt
  rw [e3] at r3 f3
  clear s1 s2 s3 r1 r2 f1 f2 t2 e2 e3
  have hdef : a3.defers = [] := by rw [d3, d2, d1]
  refine wpIn_block (wpIn_rangeFunc fun fn' _ => ?_)
  have hgv : a3.tmps[g]? = some (.func (.func f') #[] #[]) := (f3.at_ g _ hfg).1
  have hLI' := loopLI_keep (fn := fn') (a := a3) (fr := fr3) (ps := ps) (assign := assign) (body := body) (l := w3.heap.size + 1) (dd := w3.heap.size)
  have hX' := hX (w3.heap.size + 1) (loopLI fn' a3 fr3 ps assign body (w3.heap.size + 1) w3.heap.size) hLI'
  have hXt := hX (w3.heap.size + 1) (fun _ _ _ => True) (fun _ _ _ _ _ _ _ _ _ _ => trivial)
  have hY := yldOf_ok (C := C) (S := S) (fn := fn') (a := a3) (fr := fr3) (ps := ps) (assign := assign) (body := body) (l := w3.heap.size + 1) (dd := w3.heap.size) (by omega) hXt (hC _ _ hXt)
  obtain ⟨q1, q2⟩ := hmk _ _ _ hX' hY f' _ m3 rr m4 h4
  let wA := (w3.alloc (.deferred (some []))).alloc (.loop (recOf fn' a3 ps assign body w3.heap.size .ready none))
  have hA : StepM (Dn D m.nxt m3.nxt) V3 w3 m3 V3 wA m3 := (StepM.alloc _ _).alloc' _
  have rA : RelM (Dn D m.nxt m3.nxt) V3 m3 wA := (r3.alloc _).alloc _
  have hLA : wA.heap[w3.heap.size + 1]? = some (.loop (recOf fn' a3 ps assign body w3.heap.size .ready none)) := by
    have := World.alloc_heap_new (w3.alloc (.deferred (some []))) (.loop (recOf fn' a3 ps assign body w3.heap.size .ready none))
    exact (World.size_alloc w3 (.deferred (some []))) ▸ this
  have hKA : wA.heap[w3.heap.size]? = some (.deferred (some [])) := by
    have h1 := World.alloc_heap_new w3 (.deferred (some []))
    have h2 := Below.heap_alloc (w3.alloc (.deferred (some []))) (.loop (recOf fn' a3 ps assign body w3.heap.size .ready none)) w3.heap.size (by simp)
    exact h2.trans h1
  have hev : a3.eval (.tmp g) = .func (.func f') #[] #[] := by simp only [Act.eval, Array.getD_eq_getD_getElem?, hgv, Option.getD_some]
  refine ⟨w3.heap.size + 1, _, wA, { target := .fn (.func f') #[], args := #[.func (.yield (w3.heap.size + 1)) #[] #[]] }, wA, f', #[.func (.yield (w3.heap.size + 1)) #[] #[]], wA, run_enterLoop_outer fn' a3.tmps ps assign body, ?_, fun _ _ => trivial, ?_, fun h => by simp [Fw] at h, callsIn_fw.2 ?_⟩
  · simp only [resolve, hev, Deferred.ofValue, Sem.run_pure, Array.empty_append]
    simp [Act.eval]
  · have := q1 #[.func (.yield (w3.heap.size + 1)) #[] #[]] wA
    simpa [invoke] using this
  have hc := q2 (Dn D m.nxt m3.nxt) (V3.setLp (w3.heap.size + 1)) wA ⟨(hg.kept t3.agree).sym, rfl⟩ (rA.lp hmy _) ⟨f3.lp hfy _, hLA, hKA⟩ (fun s hs => by simp at hs; subst hs; trivial)
  refine Calls.mono (h := hc) ?_
  rintro e w4 ⟨V4, rfl, s4, r4, _⟩
  have hL4 := s4.oth.same _ _ hLA rfl
  have hK4 := s4.oth.same _ _ hKA rfl
  have s4' : StepM (Dn D m.nxt m3.nxt) V3 wA m3 (V4.setLp V3.lp) w4 m4 := s4.relp V3.lp
  have r4' := r4.lp hmy4 V3.lp
  have e4 := Dn_Dn (D := D) t3.nxt s4.nxt
  have t4' : StepM (Dn D m.nxt m3.nxt) V3 w3 m3 (V4.setLp V3.lp) w4 m4 := by
    have := hA.trans (m2 := m4) (V2 := V4.setLp V3.lp) (w2 := w4) (by rw [Dn_self]; exact s4') (by rw [Dn_self]; exact r3.mlt)
    exact this
  have t4 := t3.trans t4' r3.mlt
  have hsz : w.heap.size ≤ w3.heap.size := t3.oth.size
  have f4 := f3.kept t4'.agree (Dn_le (n := m3.nxt) (n' := m4.nxt))
  rw [e4] at r4' f4
  refine ⟨_, _, run_endLoop hL4 (by simp [recOf]), ?_⟩
  show rest.wpIn _ _ _ _ _ _
  have t5 := t4.putObj (l := w3.heap.size + 1) (by omega) (.loop { recOf fn' a3 ps assign body w3.heap.size .ready none with state := .exhausted })
  have r5 := r4'.putObj hL4 rfl (.loop { recOf fn' a3 ps assign body w3.heap.size .ready none with state := .exhausted })
  have hK5 : (w4.putObj (w3.heap.size + 1) (.loop { recOf fn' a3 ps assign body w3.heap.size .ready none with state := .exhausted })).heap[w3.heap.size]? = some (.deferred (some [])) := by
    rw [World.putObj_heap_other (by omega)]
    exact hK4
  have last : ∀ (out : Out) (fr5 : Frm) (m5 : Mem), (out = .nrm ∨ out = .ret) → run C call (fun _ _ => none) (fun _ _ _ => none) maxFuel rest fr3 m4 = some (out, fr5, m5) → (resultsS C fr5 m5 fn.results.toList).map (·, m5) = some (r, m') →
      rest.wpIn (Fw none) 0 C.P (bodyPostM (Fw none) 0 C.P fn (Gives D V w m r m')) { a3 with defers := [{ target := .collected w3.heap.size, args := #[] }] ++ a3.defers } (w4.putObj (w3.heap.size + 1) (.loop { recOf fn' a3 ps assign body w3.heap.size .ready none with state := .exhausted })) := by
    intro out fr5 m5 hout hrun hres
    simp only [Option.map_eq_some_iff] at hres
    obtain ⟨s, hs, e⟩ := hres
    cases e
    refine rs rest fr3 m4 out fr5 m' hrun _ _ _ _ _ (hg.kept t5.agree) r5 (li _ _ _ _ _ _ t5.agree Dn_le t5.oth hl) ⟨f4.size, f4.at_⟩ ?_
    intro V6 a6 w6 s6 r6 f6 d6
    have hK6 := s6.oth.same _ _ hK5 rfl
    have e6 := Dn_Dn (D := D) t5.nxt s6.nxt
    have t6 := (t5.trans s6 r5.mlt).putObj (l := w3.heap.size) hsz (.deferred none)
    have r6' := r6.putObj hK6 rfl (.deferred none)
    rw [e6] at r6' f6
    obtain ⟨v1, v2⟩ := results_sound (X := { C := C, S := S, lp := lp, LI := LI }) hs r6' f6
    have fin : LeavesInM (Fw none) 0 C.P fn a6.tmps (Gives D V w m r m') a6.defers .returning w6 := by
      rw [d6]
      simp only [hdef, List.append_nil]
      refine ⟨by simp, .inl ⟨w3.heap.size, _, rfl, run_takeDeferred hK6, ?_⟩⟩
      exact ⟨_, v1, V6, rfl, t6, r6', v2⟩
    rcases hout with rfl | rfl <;> exact fin
  unfold endF at h
  split at h
  · rename_i fr5 m5 hrun
    exact last .nrm fr5 m5 (.inl rfl) hrun h
  · rename_i fr5 m5 hrun
    exact last .ret fr5 m5 (.inr rfl) hrun h
  · cases h
end Go.Proofs.Ytchodalkdejiiaa.Sy
