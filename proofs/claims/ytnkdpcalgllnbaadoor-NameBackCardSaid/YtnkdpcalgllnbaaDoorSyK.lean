/-
  The symbolic run: regions that draw their order, as the run takes them; a function with no argument but letters, whole.
-/
import Derived.Test.YtnkdpcalgllnbaaDoorSyJ
namespace Go.Proofs.YtnkdpcalgllnbaaDoor.Sy
open Go Go.RowKit

theorem dstOK_spec {ops : List Oper} (h : dstOK ops = true) : ∀ j k t, j ≠ k → dstOf ops j = some t → dstOf ops k ≠ some t := by
  have key : ∀ j k t, j < k → dstOf ops j = some t → dstOf ops k = some t → False := by
    intro j k t hjk h1 h2
    have hk : k < ops.length := by
      unfold dstOf at h2
      cases hq : ops[k]? with
      | none => simp [hq] at h2
      | some o => exact (List.getElem?_eq_some_iff.1 hq).1
    unfold dstOK at h
    rw [List.all_eq_true] at h
    have h3 := h k (List.mem_range.2 hk)
    rw [List.all_eq_true] at h3
    have h4 := h3 j (List.mem_range.2 hjk)
    unfold dstNe at h4
    rw [h1, h2] at h4
    simp only [Nat.beq_refl, Bool.not_true] at h4
    cases h4
  intro j k t hne h1 h2
  rcases Nat.lt_or_ge j k with h3 | h3
  · exact key j k t h3 h1 h2
  · exact key k j t (by omega) h2 h1

theorem cover {st : Nat → Nat} {i : Nat} : ∀ N, st 0 ≤ i → i < st N → ∃ j, j < N ∧ st j ≤ i ∧ i < st (j + 1)
  | 0, h1, h2 => by omega
  | N + 1, h1, h2 => by
    rcases Nat.lt_or_ge i (st N) with h3 | h3
    · obtain ⟨j, h4, h5⟩ := cover N h1 h3
      exact ⟨j, by omega, h5⟩
    · exact ⟨N, by omega, h3, h2⟩

theorem drawRun_ok {X : Ctx} {yld : YieldT} (hX : XOK X) (hY : YieldOK X yld) (hfol : X.C.P.follows .mixedOrders = true) : ∀ call, CallOK X call → DrawOK X none (drawRun X.C call yld) := by
  intro call hC ops fr m fr' m' h D V w a n id Q hg hm hl hf hk
  unfold drawRun at h
  split at h
  · cases h
  · rename_i sts mds hp1
    simp only at h
    split at h
    · rename_i hc
      simp only [Bool.and_eq_true, List.all_eq_true] at hc
      obtain ⟨⟨⟨hc1, hc2⟩, hc3⟩, hc4⟩ := hc
      split at h
      · rename_i fr1 H1 hp2
        cases h
        obtain ⟨frs, Hs, sv, Hp, e1, e2, e3, e4, e5⟩ := pass2_lex ops 0 fr m.H fr' H1 hp2
        rw [Nat.zero_add] at e3 e4
        let S : RS := { X := X, call := call, yld := yld, ops := ops, bef := befGo ops [], st := fun k => sts.getD k 0, md := fun k => mds.getD k [], frs := frs, Hs := Hs, sv := sv, Hp := Hp, D := D, V0 := V, w0 := { w with drawn := w.drawn + 1 }, m0 := m, a0 := a }
        have hS : S.OK := by
          refine ⟨hX, hC, hY, hc1, dstOK_spec hc2, fun k hk => Nat.le_of_ble_eq_true (hc4 k (List.mem_range.2 hk)), fun k o ho => ?_, hm.drew rfl, ?_, hg, hX.li D D V V w _ (.refl _ _) (fun _ h => h) ⟨Nat.le_refl _, fun _ _ h _ => h⟩ hl, Nat.eq_of_beq_eq_true hc3, e2⟩
          · have := e5 k o ho
            rw [Nat.zero_add] at this
            exact this
          · show FrR D V (frs 0) a
            rw [e1]
            exact hf
        refine wpIn_region_any hfol ?_
        have hget : ∀ j, j < ops.length → (Array.replicate ops.toArray.size false).getD j true = false := by
          intro j hj
          simp [Array.getD_eq_getD_getElem?, hj]
        refine rall hS (n := n) (Q := Q) ?_ _ _ V a _ (by simp [S]) (by simp) ?_
        · intro L V' a' w' hall hr
          have hRD : ∀ i, S.R L i → Dn D m.nxt (sts.getD ops.length 0) i := by
            rintro i (h1 | ⟨j, h1, h2, h3, h4⟩)
            · exact .inl h1
            · have q0 : S.ops.length = ops.length := rfl
              have q1 := RS.st_le hS (j := 0) j (by omega) (by omega)
              have q2 := RS.st_le hS (j := j + 1) ops.length (by omega) (Nat.le_refl _)
              have q3 : S.st 0 = m.nxt := hS.st0
              exact .inr ⟨by show m.nxt ≤ i; omega, by show i < S.st ops.length; omega⟩
          have hst0 := hS.st0
          have hle : m.nxt ≤ S.st ops.length := by
            have := RS.st_le hS (j := 0) ops.length (by omega) (Nat.le_refl _)
            have q3 : S.st 0 = m.nxt := hS.st0
            omega
          refine hk V' a' w' ⟨hle, hr.agree, fun i hi => List.mem_append.2 (.inr hi), hr.os, hr.tape, hr.output, ⟨hr.oth.size, hr.oth.same⟩, fun b hb hb' => ?_, fun i h1 h2 => ?_⟩ ⟨fun i hi => ?_, fun i o hi => ?_, fun i j oi oj hi hj hb => ?_, fun i hi => ?_⟩ ⟨?_, fun t s ht => ?_⟩ hr.defers
          · refine hr.same b hb fun j hj _ i hi => hb' i ?_
            exact List.mem_append.2 (.inl (List.mem_flatMap.2 ⟨j, List.mem_range.2 hj, hi⟩))
          · obtain ⟨j, h3, h4, h5⟩ := cover (st := S.st) (i := i) ops.length (by rw [hst0]; exact h1) h2
            rcases hr.fresh i j h3 (hall j h3) h4 h5 with h6 | ⟨j', h6, _, i', h8, h9, h10⟩
            · exact .inl h6
            · exact .inr ⟨i', List.mem_append.2 (.inl (List.mem_flatMap.2 ⟨j', List.mem_range.2 h6, h8⟩)), h9, h10⟩
          · show i < S.st ops.length
            rcases hi with hi | hi
            · have := hm.dom i hi; omega
            · exact hi.2
          · have := RS.HA_lex (L := L) hS ops.length o (Nat.le_refl _) (by show (Hs ops.length).get i = some o; rw [e4]; exact hi) (fun j hj _ => hall j hj)
            obtain ⟨h1, h2, h3⟩ := hr.ha i o this
            exact ⟨hRD i h1, fun x hx => At.on_mono hRD (h2 x hx), h3⟩
          · have h1 := RS.HA_lex (L := L) hS ops.length oi (Nat.le_refl _) (by show (Hs ops.length).get i = some oi; rw [e4]; exact hi) (fun j hj _ => hall j hj)
            have h2 := RS.HA_lex (L := L) hS ops.length oj (Nat.le_refl _) (by show (Hs ops.length).get j = some oj; rw [e4]; exact hj) (fun j hj _ => hall j hj)
            exact hr.inj i j oi oj h1 h2 hb
          · rcases List.mem_append.1 hi with hi | hi
            · obtain ⟨j, hj, hi⟩ := List.mem_flatMap.1 hi
              exact hRD i (hr.mds j (List.mem_range.1 hj) (hall j (List.mem_range.1 hj)) i hi)
            · exact .inl (hm.mlt i hi)
          · rw [hr.size, ← e3]
            exact (frs_N hS ops.length (Nat.le_refl _)).symm
          · have := RS.FA_lex (L := L) hS ops.length s (Nat.le_refl _) (by show (frs ops.length).tr.get t = some s; rw [e3]; exact ht) (fun j hj _ => hall j hj)
            obtain ⟨h1, h2⟩ := hr.fa t s this
            exact ⟨h1, SV.on_mono hRD h2⟩
        · have hHA : ∀ i, S.HA (fun j => (Array.replicate ops.toArray.size false).getD j true) ops.length i = m.H.get i := by
            intro i
            rw [RS.HA_up (S := S) (k := 0) ops.length (by omega) (fun j _ hj _ => hget j hj)]
            show (Hs 0).get i = _
            rw [e2]
          have hFA : ∀ t, S.FA (fun j => (Array.replicate ops.toArray.size false).getD j true) ops.length t = fr.tr.get t := by
            intro t
            rw [RS.FA_up (S := S) (k := 0) ops.length (by omega) (fun j _ hj _ => hget j hj)]
            show (frs 0).tr.get t = _
            rw [e1]
          have no : ∀ j, j < S.ops.length → (Array.replicate ops.toArray.size false).getD j true = true → False := fun j hj h => by
            have := hget j hj; rw [this] at h; cases h
          refine ⟨hg, by rw [hf.size]; show fr.N = (frs 0).N; rw [e1], fun t s ht => ?_, fun i o hi => ?_, fun i j oi oj hi hj hb => ?_, .refl _ _, rfl, rfl, rfl, .refl _, fun _ _ _ => rfl, fun i j hj hL => (no j hj hL).elim, fun j hj hL => (no j hj hL).elim, fun j hj hL => (no j hj hL).elim, rfl, fun k o ho hL => (no k (List.getElem?_eq_some_iff.1 ho).1 hL).elim⟩
          · have ht' := (hFA t).symm.trans ht
            obtain ⟨h1, h2⟩ := hf.at_ t s ht'
            exact ⟨h1, SV.on_mono (fun i hi => .inl hi) h2⟩
          · have hi' := (hHA i).symm.trans hi
            obtain ⟨h1, h2, h3⟩ := hm.ob i o hi'
            exact ⟨.inl h1, fun x hx => At.on_mono (fun i hi => .inl hi) (h2 x hx), h3.kept h1 h2 (.refl _ _) rfl⟩
          · exact hm.inj i j oi oj ((hHA i).symm.trans hi) ((hHA j).symm.trans hj) hb
      · cases h
    · cases h

noncomputable def Mem.empty : Mem := { H := .nil, nxt := 0, mods := [] }
theorem relM_empty (V : Va) (w : World) : RelM (fun _ => False) V Mem.empty w :=
  ⟨fun _ h => h.elim, fun i o h => by simp [Mem.empty, Tr.get_nil] at h, fun i j oi oj h => by simp [Mem.empty, Tr.get_nil] at h, fun i h => by simp [Mem.empty] at h⟩

theorem below_of_step {D : Nat → Prop} {V V' : Va} {w w' : World} {m' : Mem} (h : StepM (fun _ => False) V w Mem.empty V' w' m') (hm : RelM D V' m' w') : Below w.heap.size w w' :=
  ⟨h.os, h.tape, h.output, h.oth.size, fun b hb => h.same b hb fun i hi => by
    have hlt := hm.dom i (hm.mlt i hi)
    rcases h.fresh i (Nat.zero_le _) hlt with h1 | ⟨j, _, h2, _⟩
    · omega
    · exact h2.elim⟩

/-- **A FUNCTION THAT THE RUN TAKES THROUGH, CALLED ON VALUES THAT HOLD NO ADDRESS.** -/
theorem call_lit {X : Ctx} {call : CallT} (hC : CallOK X call) {f : FuncId} {args : List SV} {r : SV} {m' : Mem} (h : call f args Mem.empty = some (r, m')) (hl : ∀ D V w, X.LI D V w) (hargs : ∀ s ∈ args, s.on fun _ => False) (w : World) {vs : Array Value}
    (hvs : ∀ V : Va, V.sym = X.S → (args.map (SV.val V)).toArray = vs) {v : Value} (hv : r = .one (.lit v)) : Calls X.C.P f vs w fun e w' => e = .returned v ∧ Below w.heap.size w w' := by
  obtain ⟨_, h2⟩ := hC f args Mem.empty r m' h
  have h3 := h2 (fun _ => False) { blk := fun _ => 0, cap := fun _ => 0, sym := X.S, lp := X.lp } w ⟨rfl, rfl⟩ (relM_empty _ _) (hl _ _ w) hargs
  rw [hvs _ rfl] at h3
  refine h3.mono ?_
  rintro e w' ⟨V', rfl, h4, h5, _⟩
  subst hv
  exact ⟨rfl, below_of_step h4 h5⟩
end Go.Proofs.YtnkdpcalgllnbaaDoor.Sy
