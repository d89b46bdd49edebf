/-
  The symbolic run: a round of a loop over a function, walked by its run; it goes on, or it returns.
-/
import Derived.Test.YtnkdpcalgllnbaaDoorSyZ
namespace Go.Proofs.YtnkdpcalgllnbaaDoor.Sy
open Go Go.RowKit Go.Proofs.YtnkdpcalgllnbaaDoor.Na

theorem StepM.putObj {D : Nat → Prop} {V V' : Va} {w w' : World} {m m' : Mem} (h : StepM D V w m V' w' m') {l : Nat} (hl : w.heap.size ≤ l) (o : Obj) : StepM D V w m V' (w'.putObj l o) m' :=
  ⟨h.nxt, h.agree, h.mods, h.os, h.tape, h.output, ⟨by simpa [World.putObj] using h.oth.size, fun k o' hk ho => by
    have hlt : k < w.heap.size := (Array.getElem?_eq_some_iff.1 hk).1
    rw [World.putObj_heap_other (by omega)]
    exact h.oth.same k o' hk ho⟩, fun b hb hi => by rw [World.putObj_heap_other (by omega)]; exact h.same b hb hi, h.fresh⟩
theorem RelM.putObj {D : Nat → Prop} {V : Va} {m : Mem} {w : World} (h : RelM D V m w) {l : Nat} {o : Obj} (hl : w.heap[l]? = some o) (ho : o.isCells = false) (o' : Obj) : RelM D V m (w.putObj l o') := by
  refine ⟨h.dom, fun i ob hi => ?_, h.inj, h.mlt⟩
  obtain ⟨h1, h2, h3⟩ := h.ob i ob hi
  refine ⟨h1, h2, h3.kept h1 h2 (.refl _ _) (World.putObj_heap_other ?_)⟩
  intro e
  obtain ⟨cur, c1, _⟩ := h3.ex
  rw [e, hl] at c1
  cases c1
  simp [Obj.isCells] at ho

/-- A step of the run, but for the loop's own record. -/
structure StepL (D : Nat → Prop) (V : Va) (w : World) (m : Mem) (V' : Va) (w' : World) (m' : Mem) (l : Nat) : Prop where
  agree : V.agree D V'
  os : w'.os = w.os
  tape : w'.tape = w.tape
  output : w'.output = w.output
  size : w.heap.size ≤ w'.heap.size
  oth : ∀ (k : Nat) (o : Obj), k ≠ l → w.heap[k]? = some o → o.isCells = false → w'.heap[k]? = some o
  same : ∀ b, b < w.heap.size → b ≠ l → (∀ i ∈ m'.mods, V'.blk i ≠ b) → w'.heap[b]? = w.heap[b]?
  fresh : ∀ i, m.nxt ≤ i → i < m'.nxt → w.heap.size ≤ V'.blk i ∨ ∃ j, D j ∧ V.blk j = V'.blk i

noncomputable def T3 : (Nat → Prop) → Va → World → Prop := fun _ _ _ => True
noncomputable def cx (C : Cfg) (S : Nat → Value) : Ctx := { C := C, S := S, lp := 0, LI := T3 }
noncomputable def endSt : Out → LoopState
  | .nrm => .ready
  | _ => .done
noncomputable def endPe : Out → Option Code
  | .nrm => none
  | _ => some .ret
noncomputable def endB : Out → Bool
  | .nrm => true
  | _ => false

theorem round_sound {C : Cfg} {S : Nat → Value} (hX : XOK (cx C S)) {fnI : FuncId} {a : Act} {fr : Frm} {ps : Array Tmp} {assign body : Code} {l dd : Nat}
    {D : Nat → Prop} {V : Va} {w : World} {m : Mem} (hsym : V.sym = S) (hlp : V.lp = 0) (hm : RelM D V m w) (hf : FrR D V fr a) (hL : w.heap[l]? = some (.loop (recOf fnI a ps assign body dd .ready none)))
    {args : List SV} (hargs : ∀ s ∈ args, s.on D) {out : Out} {fr' : Frm} {m' : Mem} (h : roundR C fr ps.toList assign body args m = some (out, fr', m')) (hout : out = .nrm ∨ out = .ret)
    {R : Ending → World → Prop} (hk : ∀ V' w', StepL D V w m V' w' m' l → RelM (Dn D m.nxt m'.nxt) V' m' w' → w'.heap[l]? = some (.loop (recOf fnI a ps assign body dd (endSt out) (endPe out))) → R (.returned (.bool (endB out))) w') :
    YieldAt (Fw none) 0 C.P l (args.map (SV.val V)).toArray w R := by
  unfold roundR at h
  split at h
  · cases h
  rename_i fr0 hp
  obtain ⟨fr1, m1, h1, h2⟩ := nrm1_some h
  obtain ⟨hlen, hf0⟩ := putPs_sound ps.toList args fr fr0 a hp hf hargs
  have hy := run_yield (P := C.P) (args := (args.map (SV.val V)).toArray) hL (by simp [recOf, ← hlen])
  have hzip : (((recOf fnI a ps assign body dd .ready none).params.zip (args.map (SV.val V)).toArray).foldl (fun tmps (x : Tmp × Value) => tmps.setIfInBounds x.1 x.2) (recOf fnI a ps assign body dd .ready none).tmps) = (ps.toList.zip (args.map (SV.val V))).foldl (fun t p => t.setIfInBounds p.1 p.2) a.tmps := by
    rw [← Array.foldl_toList]
    simp [recOf]
  have hg : Good (cx C S) V := ⟨hsym, hlp⟩
  have noY' : YieldOK (cx C S) noY := fun _ _ _ _ h => by cases h
  have noC' : CallOK (cx C S) noC := fun _ _ _ _ _ h => by cases h
  have noD' : DrawOK (cx C S) (some l) noD := fun _ _ _ _ _ h => by cases h
  refine ⟨_, _, _, _, hy, roundIn_of_wpIn trivial ?_⟩
  refine (run_sound (X := cx C S) (ro := some l) (n := 0) hX noC' noY' noD' maxFuel).1 assign fr0 m .nrm fr1 m1 h1 D V w _ _ hg hm trivial ?_ ?_
  · have := hf0
    rw [← hzip] at this
    exact this
  intro V1 a1 w1 s1 s2 s3 s4
  have hL1 := s1.oth.same _ _ hL rfl
  have hlt : l < w1.heap.size := (Array.getElem?_eq_some_iff.1 hL1).1
  refine ⟨_, run_beginRound hL1 rfl, ?_⟩
  have hr1 := s2.putObj hL1 rfl (.loop { recOf fnI a ps assign body dd .ready none with state := .busy })
  have fin : ∀ V2 a2 w2, StepM (Dn D m.nxt m1.nxt) V1 (w1.putObj l (.loop { recOf fnI a ps assign body dd .ready none with state := .busy })) m1 V2 w2 m' → RelM (Dn (Dn D m.nxt m1.nxt) m1.nxt m'.nxt) V2 m' w2 → FrR (Dn (Dn D m.nxt m1.nxt) m1.nxt m'.nxt) V2 fr' a2 → 
      ∃ v w3, (Instr.endRound l (endPe out)).run C.P w2 = .ok v w3 ∧ R (.returned v) w3 := by
    intro V2 a2 w2 t1 t2 t3
    have hb1 : (w1.putObj l (.loop { recOf fnI a ps assign body dd .ready none with state := .busy })).heap[l]? = some (.loop { recOf fnI a ps assign body dd .ready none with state := .busy }) := World.putObj_heap_same hlt
    have hb2 := t1.oth.same _ _ hb1 rfl
    have he : (endPe out).isNone = endB out := by cases out <;> rfl
    refine ⟨_, _, run_endRound (endPe out) hb2, ?_⟩
    rw [he]
    have hst : (if endB out = true then LoopState.ready else LoopState.done) = endSt out := by cases out <;> rfl
    rw [hst]
    have hlt2 : l < w2.heap.size := (Array.getElem?_eq_some_iff.1 hb2).1
    refine hk V2 _ ?_ ?_ (World.putObj_heap_same hlt2)
    · refine ⟨⟨fun i hi => ?_, t1.agree.sym.trans s1.agree.sym, t1.agree.lp.trans s1.agree.lp⟩, t1.os.trans s1.os, t1.tape.trans s1.tape, t1.output.trans s1.output, ?_, fun k o hkl hk ho => ?_, fun b hb hbl hi => ?_, fun i h3 h4 => ?_⟩
      · have e1 := s1.agree.ids i hi
        have e2 := t1.agree.ids i (.inl hi)
        exact ⟨e2.1.trans e1.1, e2.2.trans e1.2⟩
      · have := s1.oth.size
        have := t1.oth.size
        simp [World.putObj] at this ⊢
        omega
      · rw [World.putObj_heap_other hkl]
        refine t1.oth.same k o ?_ ho
        rw [World.putObj_heap_other hkl]
        exact s1.oth.same k o hk ho
      · rw [World.putObj_heap_other hbl]
        have hb' : b < w1.heap.size := Nat.lt_of_lt_of_le hb s1.oth.size
        rw [t1.same b (by simpa [World.putObj] using hb') hi, World.putObj_heap_other hbl]
        refine s1.same b hb fun i hi1 => ?_
        rw [← (t1.agree.ids i (s2.mlt i hi1)).1]
        exact hi i (t1.mods i hi1)
      · have hsz := s1.oth.size
        rcases Nat.lt_or_ge i m1.nxt with hlt' | hge
        · have e := (t1.agree.ids i (.inr ⟨h3, hlt'⟩)).1
          rcases s1.fresh i h3 hlt' with h5 | ⟨j, hj, hD, hb⟩
          · exact .inl (by rw [e]; exact h5)
          · exact .inr ⟨j, hD, by rw [e]; exact hb⟩
        · rcases t1.fresh i hge h4 with h5 | ⟨j, hj, hD | ⟨hj1, hj2⟩, hb⟩
          · have h5' : w1.heap.size ≤ V2.blk i := by simpa [World.putObj] using h5
            exact .inl (Nat.le_trans hsz h5')
          · exact .inr ⟨j, hD, by rw [← hb]; exact ((s1.agree.ids j hD).1).symm⟩
          · rcases s1.fresh j hj1 hj2 with h5 | ⟨j', hj', hD', hb'⟩
            · exact .inl (by rw [← hb]; exact h5)
            · exact .inr ⟨j', hD', by rw [← hb]; exact hb'⟩
    · rw [Dn_Dn s1.nxt t1.nxt] at t2
      exact t2.putObj hb2 rfl _
  refine (run_sound (X := cx C S) (ro := some l) (n := 0) hX noC' noY' noD' maxFuel).1 body fr1 m1 out fr' m' h2 _ V1 _ a1 _ (hg.kept s1.agree) hr1 trivial s3 ?_
  intro V2 a2 w2 t1 t2 t3 t4
  have := fin V2 a2 w2 t1 t2 t3
  rcases hout with rfl | rfl
  · exact this
  · exact this
end Go.Proofs.YtnkdpcalgllnbaaDoor.Sy
