/-
  The symbolic run: a function that ranges over a function, closed: its prefix, the rounds within the iterator's run, its end.
-/
import Derived.Test.YtchodalkdejiiaaSyN
import Derived.RangeFuncLeaves
import Derived.RangeFuncRecord
namespace Go.Proofs.Ytchodalkdejiiaa.Sy
open Go Go.RowKit

noncomputable def At.noY : At → Bool
  | .yld => false
  | _ => true
noncomputable def SV.noY : SV → Bool
  | .one a => a.noY
  | .agg l => l.all At.noY
  | .tup l => l.all At.noY
noncomputable def memNoY (m : Mem) : Bool := (List.range m.nxt).all fun i => match m.H.get i with | some o => o.cs.all At.noY | none => true
noncomputable def frNoY (fr : Frm) : Bool := (List.range fr.N).all fun t => match fr.tr.get t with | some s => s.noY | none => true

noncomputable def Va.setLp (V : Va) (l : Nat) : Va := { V with lp := l }
theorem At.val_lp {V : Va} {l : Nat} {a : At} (h : a.noY = true) : a.val (V.setLp l) = a.val V := by cases a <;> first | rfl | cases h
theorem SV.val_lp {V : Va} {l : Nat} {s : SV} (h : s.noY = true) : s.val (V.setLp l) = s.val V := by
  cases s with
  | one a => exact At.val_lp h
  | agg q =>
    simp only [SV.val]
    rw [List.map_congr_left fun a ha => At.val_lp (List.all_eq_true.1 h a ha)]
  | tup q =>
    simp only [SV.val]
    rw [List.map_congr_left fun a ha => At.val_lp (List.all_eq_true.1 h a ha)]

theorem RelM.lp {D : Nat → Prop} {V : Va} {m : Mem} {w : World} (h : RelM D V m w) (hy : memNoY m = true) (l : Nat) : RelM D (V.setLp l) m w := by
  refine ⟨h.dom, fun i o hi => ?_, fun i j oi oj hi hj hb => h.inj i j oi oj hi hj hb, h.mlt⟩
  obtain ⟨h1, h2, h3⟩ := h.ob i o hi
  obtain ⟨cur, c1, c2, c3, c4, c5⟩ := h3.ex
  refine ⟨h1, h2, ⟨cur, c1, c2, c3, c4, fun j a hj => ?_⟩⟩
  have := List.all_eq_true.1 hy i (List.mem_range.2 (h.dom i h1))
  simp only [hi] at this
  rw [At.val_lp (List.all_eq_true.1 this a (List.mem_of_getElem? hj))]
  exact c5 j a hj
theorem FrR.lp {D : Nat → Prop} {V : Va} {fr : Frm} {a : Act} (h : FrR D V fr a) (hy : frNoY fr = true) (l : Nat) : FrR D (V.setLp l) fr a := by
  refine ⟨h.size, fun t s ht => ?_⟩
  obtain ⟨h1, h2⟩ := h.at_ t s ht
  have hlt : t < fr.N := by rw [← h.size]; exact (Array.getElem?_eq_some_iff.1 h1).1
  have := List.all_eq_true.1 hy t (List.mem_range.2 hlt)
  simp only [ht] at this
  rw [SV.val_lp this]
  exact ⟨h1, h2⟩
theorem StepM.relp {D : Nat → Prop} {V V' : Va} {w w' : World} {m m' : Mem} (h : StepM D V w m V' w' m') (l : Nat) : StepM D (V.setLp l) w m (V'.setLp l) w' m' :=
  ⟨h.nxt, ⟨h.agree.ids, h.agree.sym, rfl⟩, h.mods, h.os, h.tape, h.output, h.oth, h.same, h.fresh⟩
theorem StepM.putObj {D : Nat → Prop} {V V' : Va} {w w' : World} {m m' : Mem} (h : StepM D V w m V' w' m') {l : Nat} (hl : w.heap.size ≤ l) (o : Obj) : StepM D V w m V' (w'.putObj l o) m' :=
  ⟨h.nxt, h.agree, h.mods, h.os, h.tape, h.output, ⟨by simpa [World.putObj] using h.oth.size, fun k o' hk ho => by
    have hlt : k < w.heap.size := (Array.getElem?_eq_some_iff.1 hk).1
    rw [World.putObj_heap_other (by omega)]
    exact h.oth.same k o' hk ho⟩, fun b hb hi => by rw [World.putObj_heap_other (by omega)]; exact h.same b hb hi, h.fresh⟩
theorem RelM.putObj {D : Nat → Prop} {V : Va} {m : Mem} {w : World} (h : RelM D V m w) {l : Nat} {o : Obj} (hl : w.heap[l]? = some o) (ho : o.isCells = false) (o' : Obj) : RelM D V m (w.putObj l o') := by
  refine ⟨h.dom, fun i ob hi => ?_, h.inj, h.mlt⟩
  obtain ⟨h1, h2, h3⟩ := h.ob i ob hi
  refine ⟨h1, h2, h3.kept h1 h2 (.refl _ _) (World.putObj_heap_other ?_)⟩
  intro e
  obtain ⟨cur, c1, _⟩ := h3.ex
  rw [e, hl] at c1
  cases c1
  simp [Obj.isCells] at ho

noncomputable def putPs : List Nat → List SV → Frm → Option Frm
  | [], [], fr => some fr
  | p :: ps, s :: ss, fr => (fr.put (some p) s).bind (putPs ps ss)
  | _, _, _ => none

/-- A round: the loop's frame, the round's values in its places, the body. -/
noncomputable def yldOf (C : Cfg) (call : CallT) (fr : Frm) (ps : List Nat) (assign body : Code) : YieldT := fun args m =>
  match putPs ps args fr with
  | none => none
  | some fr0 => match run C call (fun _ _ => none) (fun _ _ _ => none) maxFuel assign fr0 m with
    | some (.nrm, fr1, m1) => match run C call (fun _ _ => none) (fun _ _ _ => none) maxFuel body fr1 m1 with
      | some (.nrm, _, m2) => some (.one (.lit (.bool true)), m2)
      | _ => none
    | _ => none

theorem putPs_sound {D : Nat → Prop} {V : Va} : ∀ (ps : List Nat) (ss : List SV) (fr fr' : Frm) (a : Act), putPs ps ss fr = some fr' → FrR D V fr a → (∀ s ∈ ss, s.on D) →
    ps.length = ss.length ∧ FrR D V fr' { tmps := (ps.zip (ss.map (SV.val V))).foldl (fun t p => t.setIfInBounds p.1 p.2) a.tmps, defers := [] }
  | [], [], fr, fr', a, h, hf, _ => by
    simp only [putPs, Option.some.injEq] at h
    subst h
    exact ⟨rfl, ⟨hf.size, hf.at_⟩⟩
  | p :: ps, s :: ss, fr, fr', a, h, hf, hs => by
    simp only [putPs] at h
    cases hp : fr.put (some p) s with
    | none => simp [hp] at h
    | some fr1 =>
      simp only [hp, Option.bind_some] at h
      obtain ⟨h1, h2⟩ := putPs_sound ps ss fr1 fr' (a.put (some p) (s.val V)) h (hf.put hp (hs s (List.mem_cons_self ..))) (fun x hx => hs x (List.mem_cons_of_mem _ hx))
      exact ⟨by simp [h1], h2⟩
  | [], _ :: _, _, _, _, h, _, _ => by simp [putPs] at h
  | _ :: _, [], _, _, _, h, _, _ => by simp [putPs] at h

/-- the loop's record. -/
noncomputable def recOf (fn : FuncId) (a : Act) (ps : Array Tmp) (assign body : Code) (dd : Nat) (st : LoopState) (pe : Option Code) : Loop :=
  { state := st, pending := pe, fn := fn, tmps := a.tmps, params := ps, assign := assign, body := body, defers := dd }

noncomputable def loopLI (fn : FuncId) (a : Act) (fr : Frm) (ps : Array Tmp) (assign body : Code) (l dd : Nat) : (Nat → Prop) → Va → World → Prop := fun D V W =>
  FrR D V fr a ∧ W.heap[l]? = some (.loop (recOf fn a ps assign body dd .ready none)) ∧ W.heap[dd]? = some (.deferred (some []))

theorem loopLI_keep {fn : FuncId} {a : Act} {fr : Frm} {ps : Array Tmp} {assign body : Code} {l dd : Nat} (D D' : Nat → Prop) (V V' : Va) (w w' : World) (hV : V.agree D V') (hD : ∀ i, D i → D' i) (hk : KeepsOthers w w')
    (h : loopLI fn a fr ps assign body l dd D V w) : loopLI fn a fr ps assign body l dd D' V' w' :=
  ⟨h.1.kept hV hD, hk.same _ _ h.2.1 rfl, hk.same _ _ h.2.2 rfl⟩

/-- **A ROUND IS AS THE RUN SAYS.** -/
theorem yldOf_ok {C : Cfg} {S : Nat → Value} {fn : FuncId} {a : Act} {fr : Frm} {ps : Array Tmp} {assign body : Code} {l dd : Nat} (hne : l ≠ dd) {call : CallT}
    (hX : XOK { C := C, S := S, lp := l, LI := fun _ _ _ => True }) (hC : CallOK { C := C, S := S, lp := l, LI := fun _ _ _ => True } call) :
    YieldOK { C := C, S := S, lp := l, LI := loopLI fn a fr ps assign body l dd } (yldOf C call fr ps.toList assign body) := by
  intro args m r m' h D V w n hg hm hl hargs
  unfold yldOf at h
  split at h
  · cases h
  · rename_i fr0 hp
    split at h
    · rename_i fr1 m1 h1
      split at h
      · rename_i fr2 m2 h2
        cases h
        obtain ⟨hfr, hL, hK⟩ := hl
        obtain ⟨hlen, hf0⟩ := putPs_sound ps.toList args fr fr0 a hp hfr hargs
        have hy := run_yield (P := C.P) (args := (args.map (SV.val V)).toArray) hL (by simp [recOf, ← hlen])
        refine ⟨_, _, _, _, hy, roundIn_of_wpIn trivial ?_⟩
        have hzip : (((recOf fn a ps assign body dd .ready none).params.zip (args.map (SV.val V)).toArray).foldl (fun tmps (x : Tmp × Value) => tmps.setIfInBounds x.1 x.2) (recOf fn a ps assign body dd .ready none).tmps) = (ps.toList.zip (args.map (SV.val V))).foldl (fun t p => t.setIfInBounds p.1 p.2) a.tmps := by
          rw [← Array.foldl_toList]
          simp [recOf]
        have hg' : Good { C := C, S := S, lp := l, LI := fun _ _ _ => True } V := ⟨hg.sym, hg.lp⟩
        have noY : YieldOK { C := C, S := S, lp := l, LI := fun _ _ _ => True } (fun _ _ => none) := fun _ _ _ _ h => by cases h
        have noD : DrawOK { C := C, S := S, lp := l, LI := fun _ _ _ => True } (some l) (fun _ _ _ => none) := fun _ _ _ _ _ h => by cases h
        refine (run_sound (X := { C := C, S := S, lp := l, LI := fun _ _ _ => True }) (ro := some l) (n := n) hX hC noY noD maxFuel).1 assign fr0 m .nrm fr1 m1 h1 D V w _ _ hg' hm trivial ?_ ?_
        · have := hf0
          rw [← hzip] at this
          exact this
        · intro V1 a1 w1 s1 s2 s3 s4
          have hL1 := s1.oth.same _ _ hL rfl
          have hlt : l < w1.heap.size := (Array.getElem?_eq_some_iff.1 hL1).1
          refine ⟨_, run_beginRound hL1 rfl, ?_⟩
          have hr1 := s2.putObj hL1 rfl (.loop { recOf fn a ps assign body dd .ready none with state := .busy })
          refine (run_sound (X := { C := C, S := S, lp := l, LI := fun _ _ _ => True }) (ro := some l) (n := n) hX hC noY noD maxFuel).1 body fr1 m1 .nrm fr2 m' h2 _ V1 _ a1 _ (hg'.kept s1.agree) hr1 trivial s3 ?_
          intro V2 a2 w2 t1 t2 t3 t4
          have hb1 : (w1.putObj l (.loop { recOf fn a ps assign body dd .ready none with state := .busy })).heap[l]? = some (.loop { recOf fn a ps assign body dd .ready none with state := .busy }) := World.putObj_heap_same hlt
          have hb2 := t1.oth.same _ _ hb1 rfl
          refine ⟨_, _, run_endRound none hb2, V2, rfl, ?_, ?_, trivial⟩
          · -- the whole round: the record is as it was
            rw [Dn_Dn s1.nxt t1.nxt] at t2
            refine ⟨Nat.le_trans s1.nxt t1.nxt, ⟨fun i hi => ?_, t1.agree.sym.trans s1.agree.sym, t1.agree.lp.trans s1.agree.lp⟩, fun i hi => t1.mods i (s1.mods i hi), t1.os.trans s1.os, t1.tape.trans s1.tape, t1.output.trans s1.output, ⟨?_, fun k o hk ho => ?_⟩, fun b hb hi => ?_, fun i h3 h4 => ?_⟩
            · have e1 := s1.agree.ids i hi
              have e2 := t1.agree.ids i (.inl hi)
              exact ⟨e2.1.trans e1.1, e2.2.trans e1.2⟩
            · have := s1.oth.size
              have := t1.oth.size
              simp [World.putObj] at this ⊢
              omega
            · by_cases e : k = l
              · subst e
                rw [hL] at hk
                cases hk
                exact World.putObj_heap_same (Array.getElem?_eq_some_iff.1 hb2).1
              · rw [World.putObj_heap_other e]
                refine t1.oth.same k o ?_ ho
                rw [World.putObj_heap_other e]
                exact s1.oth.same k o hk ho
            · by_cases e : b = l
              · subst e
                rw [World.putObj_heap_same (Array.getElem?_eq_some_iff.1 hb2).1, hL]
                rfl
              · rw [World.putObj_heap_other e]
                have hb' : b < w1.heap.size := Nat.lt_of_lt_of_le hb s1.oth.size
                rw [t1.same b (by simpa [World.putObj] using hb') hi, World.putObj_heap_other e]
                refine s1.same b hb fun i hi1 => ?_
                rw [← (t1.agree.ids i (s2.mlt i hi1)).1]
                exact hi i (t1.mods i hi1)
            · have hsz := s1.oth.size
              rcases Nat.lt_or_ge i m1.nxt with hlt' | hge
              · have e := (t1.agree.ids i (.inr ⟨h3, hlt'⟩)).1
                rcases s1.fresh i h3 hlt' with h5 | ⟨j, hj, hD, hb⟩
                · exact .inl (by rw [e]; exact h5)
                · exact .inr ⟨j, t1.mods j hj, hD, by rw [e]; exact hb⟩
              · rcases t1.fresh i hge h4 with h5 | ⟨j, hj, hD | ⟨hj1, hj2⟩, hb⟩
                · have h5' : w1.heap.size ≤ V2.blk i := by simpa [World.putObj] using h5
                  exact .inl (Nat.le_trans hsz h5')
                · exact .inr ⟨j, hj, hD, by rw [← hb]; exact ((s1.agree.ids j hD).1).symm⟩
                · rcases s1.fresh j hj1 hj2 with h5 | ⟨j', hj', hD', hb'⟩
                  · exact .inl (by rw [← hb]; exact h5)
                  · exact .inr ⟨j', t1.mods j' hj', hD', by rw [← hb]; exact hb'⟩
          · rw [Dn_Dn s1.nxt t1.nxt] at t2
            exact t2.putObj hb2 rfl _
      · cases h
    · cases h
end Go.Proofs.Ytchodalkdejiiaa.Sy
