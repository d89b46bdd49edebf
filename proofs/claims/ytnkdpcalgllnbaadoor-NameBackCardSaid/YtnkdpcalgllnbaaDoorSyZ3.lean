/-
  The symbolic run: a function that ranges over the words of a text, closed.
-/
import Derived.Test.YtnkdpcalgllnbaaDoorSyZ2
namespace Go.Proofs.YtnkdpcalgllnbaaDoor.Sy
open Go Go.RowKit Go.Proofs.YtnkdpcalgllnbaaDoor.Na

noncomputable def nrmFM : Option (Out × Frm × Mem) → Option (Frm × Mem)
  | some (.nrm, fr, m) => some (fr, m)
  | _ => none
theorem nrmFM_some {o : Option (Out × Frm × Mem)} {fr : Frm} {m : Mem} (h : nrmFM o = some (fr, m)) : o = some (.nrm, fr, m) := by
  unfold nrmFM at h
  split at h
  · cases h; rfl
  · cases h
noncomputable def bindFM {β : Type} (k : Frm → Mem → Option β) : Option (Frm × Mem) → Option β
  | some (fr, m) => k fr m
  | none => none
theorem bindFM_some {β : Type} {k : Frm → Mem → Option β} {o : Option (Frm × Mem)} {r : β} (h : bindFM k o = some r) : ∃ fr m, o = some (fr, m) ∧ k fr m = some r := by
  unfold bindFM at h
  split at h
  · exact ⟨_, _, rfl, h⟩
  · cases h
/-- What stands ahead of the loop. -/
noncomputable def preRun (C : Cfg) (call : CallT) (A B E : Code) (fr : Frm) (m : Mem) : Option (Frm × Mem) :=
  bindFM (fun fr m => bindFM (fun fr m => nrmFM (run C call noY noD maxFuel E fr m)) (nrmFM (run C call noY noD maxFuel B fr m))) (nrmFM (run C call noY noD maxFuel A fr m))
noncomputable def nrmMem : Option (Out × Frm × Mem) → Option Mem
  | some (.nrm, _, m) => some m
  | _ => none
theorem nrmMem_some {o : Option (Out × Frm × Mem)} {m : Mem} (h : nrmMem o = some m) : ∃ fr, o = some (.nrm, fr, m) := by
  unfold nrmMem at h
  split at h
  · cases h; exact ⟨_, rfl⟩
  · cases h
noncomputable def retMem : Option (Out × Frm × Mem) → Option Mem
  | some (.ret, _, m) => some m
  | _ => none
theorem retMem_some {o : Option (Out × Frm × Mem)} {m : Mem} (h : retMem o = some m) : ∃ fr, o = some (.ret, fr, m) := by
  unfold retMem at h
  split at h
  · cases h; exact ⟨_, rfl⟩
  · cases h

/-- Of the objects that a round turns none is one of the text's three boxes; each lives. -/
noncomputable def modsOk (m : Mem) (l : List Nat) (sid pid vid : Nat) : Bool := l.all fun i => !Nat.beq i sid && !Nat.beq i pid && !Nat.beq i vid && Nat.blt i m.nxt && (m.H.get i).isSome
noncomputable def At.free : At → Bool
  | .lit _ => true
  | .sym _ => true
  | _ => false
noncomputable def SV.free : SV → Bool
  | .one a => a.free
  | .agg l => l.all At.free
  | .tup l => l.all At.free
noncomputable def V0 (S : Nat → Value) : Va := { blk := fun _ => 0, cap := fun _ => 0, sym := S, lp := 0 }
theorem At.free_val {V : Va} {S : Nat → Value} (hs : V.sym = S) {a : At} (h : a.free = true) : a.val V = a.val (V0 S) := by
  cases a <;> first | rfl | (simp [At.val, V0, hs]; done) | cases h
theorem SV.free_val {V : Va} {S : Nat → Value} (hs : V.sym = S) {s : SV} (h : s.free = true) : s.val V = s.val (V0 S) := by
  cases s with
  | one a => exact At.free_val hs h
  | agg q =>
    simp only [SV.val]
    rw [List.map_congr_left fun a ha => At.free_val hs (List.all_eq_true.1 h a ha)]
  | tup q =>
    simp only [SV.val]
    rw [List.map_congr_left fun a ha => At.free_val hs (List.all_eq_true.1 h a ha)]

theorem RelM.alloc {D : Nat → Prop} {V : Va} {m : Mem} {w : World} (h : RelM D V m w) (o : Obj) : RelM D V m (w.alloc o) := by
  refine ⟨h.dom, fun i ob hi => ?_, h.inj, h.mlt⟩
  obtain ⟨h1, h2, h3⟩ := h.ob i ob hi
  exact ⟨h1, h2, h3.kept h1 h2 (.refl _ _) (Below.heap_alloc w o _ h3.lt)⟩

noncomputable def bx (t : Nat) (a : At) : Ob := { t := t, sz := 1, cs := [a] }
noncomputable def bf (t : Nat) (a : At) : Ob := { t := t, sz := 1, cs := [a], full := true }
theorem box_at {V : Va} {i t : Nat} {v : Value} {W : World} (h : ObAt V i (bf t (.lit v)) W) : W.heap[V.blk i]? = some (.cells #[v] t (0, 0)) := by
  obtain ⟨cur, c1, c2, c3, c4, c5⟩ := h.ex
  have h1 := h.all rfl
  have h2 : cur.size = 1 := by rw [c2, ← h1]; rfl
  have h3 : cur[0]? = some v := c5 0 (.lit v) rfl
  have : cur = #[v] := by
    obtain ⟨l⟩ := cur
    match l, h2, h3 with
    | [u], _, h3 => simp at h3; rw [h3]
  rw [c1, this]
  rfl
theorem below_put {n : Nat} {A B : World} (h : Below n A B) {l : Nat} (hl : n ≤ l) (o : Obj) : Below n A (B.putObj l o) :=
  ⟨h.os, h.tape, h.output, by simpa [World.putObj] using h.size, fun b hb => (World.putObj_heap_other (by omega)).trans (h.block b hb)⟩

/-- **A FUNCTION THAT RANGES OVER A TEXT's WORDS.** -/
theorem words_range {P : Program} {f : FuncId} {fn : Func} {A B E rest assign body : Code} {bid g gf : Nat} {ps : Array Tmp} (hf : P.funcs[f]? = some fn) (hb : fn.body = some (.seq A (.seq B (.seq (.seq E (.block bid (.rangeFunc (.tmp g) ps assign body))) rest))))
    {S : Nat → Value} {Cp Ce : Cfg} {Cb : Bool → Cfg} (hPp : Cp.P = P) (hPe : Ce.P = P) (hPb : ∀ b, (Cb b).P = P) {callp calle : CallT} {ws : List (List UInt8)} {hit : Nat → Bool}
    (hXp : XOK (cx Cp S)) (hCp : CallOK (cx Cp S) callp) (hXb : ∀ k, k < ws.length → XOK (cx (Cb (hit k)) (Sw S ws k))) (hXe : XOK (cx Ce (Sw S ws ws.length))) (hCe : CallOK (cx Ce (Sw S ws ws.length)) calle)
    {args : List SV} {fr3 : Frm} {m3 : Mem} (hargs : ∀ s ∈ args, s.on fun _ => False)
    (hpre : preRun Cp callp A B E { N := args.length + (fn.ntmps - args.length), tr := putArgs args 0 .nil } Mem.empty = some (fr3, m3))
    {sid pid vid aid : Nat} {s0 : ByteArray} (hg : fr3.tr.get g = some (.one (.clo gf [(pid, 0), (sid, 0), (vid, 0)]))) (hs : m3.H.get sid = some (bf 9 (.lit (.string s0)))) (hp : m3.H.get pid = some (bf 9 (.lit (.string ⟨#[32]⟩)))) (hv : m3.H.get vid = some (bf 3 (.lit (.int .i64 0)))) (ha : m3.H.get aid = some (bx 3 (.lit (.int .i64 0))))
    (hne : aid ≠ sid ∧ aid ≠ pid ∧ aid ≠ vid ∧ sid ≠ pid ∧ sid ≠ vid) (hcf : frCalm fr3 = true) (hcm : memCalm m3 = true)
    {MN MR : Mem} (hN : nrmMem (roundR (Cb false) fr3 ps.toList assign body [.one (.sym 7)] (loopMem m3 sid aid)) = some MN) (hNa : MN.H = (loopMem m3 sid aid).H.put aid (some (bx 3 (.sym 21)))) (hNg : MN.H.get aid = some (bx 3 (.sym 21))) (hNm : modsOk m3 MN.mods sid pid vid = true)
    (hR : retMem (roundR (Cb true) fr3 ps.toList assign body [.one (.sym 7)] (loopMem m3 sid aid)) = some MR) (hRm : modsOk m3 MR.mods sid pid vid = true)
    {svR : SV} (hRs : resultsS (Cb true) fr3 MR fn.results.toList = some svR) (hRf : svR.free = true)
    {svE : SV} {mE : Mem} (hE : endF Ce fn.results.toList (run Ce calle noY noD maxFuel rest fr3 (loopMem m3 sid aid)) = some (svE, mE)) (hEf : svE.free = true)
    (hit35 : ∀ (l Bs Bp Bv : Nat) (J : Nat → World → Prop) (Jx : World → Prop), (∀ k W v, J k W → J k (W.setCell ⟨Bs, 0, none⟩ v)) →
      (∀ k (x : List UInt8) W, ws[k]? = some x → J k W → YieldAt (Fw none) 0 P l #[.string ⟨x.toArray⟩] W fun e W' => (e = .returned (.bool true) ∧ J (k + 1) W' ∧ KB Bs Bp Bv W W') ∨ (e = .returned (.bool false) ∧ Jx W')) →
      ∀ W, Boxes Bs Bp Bv s0 W → Bs ≠ Bp → Bs ≠ Bv → J 0 W → Calls P gf #[.func (.yield l) #[] #[], .pointer (some ⟨Bp, 0, none⟩), .pointer (some ⟨Bs, 0, none⟩), .pointer (some ⟨Bv, 0, none⟩)] W fun e W' => (∃ v, e = .returned v) ∧ (J ws.length W' ∨ Jx W'))
    (hgf : ∀ xs w, (callFunc gf xs).run P w = .ok (.enter gf xs) w) (w : World) :
    Calls P f (args.map (SV.val (V0 S))).toArray w fun e w' => Below w.heap.size w w' ∧ ((∃ k, k < ws.length ∧ hit k = true ∧ (∀ j, j < k → hit j = false) ∧ e = .returned (svR.val (V0 (Sw S ws k)))) ∨ ((∀ j, j < ws.length → hit j = false) ∧ e = .returned (svE.val (V0 (Sw S ws ws.length))))) := by
  obtain ⟨fr1, m1, h1, h2⟩ := bindFM_some hpre
  obtain ⟨fr2, m2, h2, h3⟩ := bindFM_some h2
  have h1 := nrmFM_some h1
  have h2 := nrmFM_some h2
  have h3 := nrmFM_some h3
  subst hPp
  have noY' : ∀ X : Ctx, YieldOK X noY := fun _ _ _ _ _ h => by cases h
  have noD' : ∀ X : Ctx, DrawOK X none noD := fun _ _ _ _ _ _ h => by cases h
  refine callsIn_fw (ro := none) (n := 0) |>.1 (callsIn_of_wp_marks hf hb trivial ?_)
  have rs := fun c fr m out fr' m' h => (run_sound (X := cx Cp S) (ro := none) (n := 0) hXp hCp (noY' _) (noD' _) maxFuel).1 c fr m out fr' m' h
  have hg0 : Good (cx Cp S) (V0 S) := ⟨rfl, rfl⟩
  refine wpIn_seq (rs A _ Mem.empty .nrm fr1 m1 h1 (fun _ => False) (V0 S) w _ _ hg0 (relM_empty _ _) trivial ⟨by simp, fun t s ht => ?_⟩ ?_)
  · rcases putArgs_get _ _ _ _ _ ht with ⟨_, h3⟩ | h3
    · rw [Nat.sub_zero] at h3
      have hlt : t < args.length := (List.getElem?_eq_some_iff.1 h3).1
      refine ⟨?_, hargs s (List.mem_of_getElem? h3)⟩
      rw [Array.getElem?_append_left (by simpa using hlt), List.getElem?_toArray, List.getElem?_map, h3]
      rfl
    · simp [Tr.get_nil] at h3
  intro V1 a1 w1 s1 r1 f1 d1
  refine wpIn_seq (rs B fr1 m1 .nrm fr2 m2 h2 _ V1 w1 a1 _ (hg0.kept s1.agree) r1 trivial f1 ?_)
  intro V2 a2 w2 s2 r2 f2 d2
  have e2 := Dn_Dn (D := fun _ => False) s1.nxt s2.nxt
  have t2 := s1.trans s2 r1.mlt
  rw [e2] at r2 f2
  refine wpIn_seq (wpIn_seq (rs E fr2 m2 .nrm fr3 m3 h3 _ V2 w2 a2 _ (hg0.kept t2.agree) r2 trivial f2 ?_))
  intro V3 a3 w3 s3 r3 f3 d3
  have e3 := Dn_Dn (D := fun _ => False) t2.nxt s3.nxt
  have t3 := t2.trans s3 r2.mlt
  rw [e3] at r3 f3
  clear s1 s2 s3 r1 r2 f1 f2 t2 e2 e3 h1 h2 h3 rs
  have hdef : a3.defers = [] := by rw [d3, d2, d1]
  clear d1 d2 d3
  -- what is known where the loop begins
  obtain ⟨D, hD⟩ : ∃ D, Dn (fun _ => False) Mem.empty.nxt m3.nxt = D := ⟨_, rfl⟩
  rw [hD] at r3 f3
  have hDl : ∀ i, D i → i < m3.nxt := r3.dom
  have hDb : ∀ i, D i → w.heap.size ≤ V3.blk i := by
    intro i hi
    rw [← hD] at hi
    rcases hi with hi | ⟨_, hi⟩
    · exact hi.elim
    · rcases t3.fresh i (Nat.zero_le _) hi with h | ⟨_, _, h, _⟩
      · exact h
      · exact h.elim
  have hB3 : Below w.heap.size w w3 := below_of_step (D := D) t3 r3
  have hsym : V3.sym = S := t3.agree.sym
  have hlp : V3.lp = 0 := t3.agree.lp
  clear t3 hD
  obtain ⟨ds, _, os⟩ := r3.ob sid _ hs
  obtain ⟨dp, _, op⟩ := r3.ob pid _ hp
  obtain ⟨dv, _, ov⟩ := r3.ob vid _ hv
  obtain ⟨da, _, oa⟩ := r3.ob aid _ ha
  have xs := box_at os
  have xp := box_at op
  have xv := box_at ov
  have lts := os.lt
  have ltp := op.lt
  have ltv := ov.lt
  have dsp : V3.blk sid ≠ V3.blk pid := fun e => hne.2.2.2.1 (r3.inj _ _ _ _ hs hp e)
  have dsv : V3.blk sid ≠ V3.blk vid := fun e => hne.2.2.2.2 (r3.inj _ _ _ _ hs hv e)
  have live : ∀ {l : List Nat}, modsOk m3 l sid pid vid = true → ∀ i ∈ l, D i ∧ V3.blk i ≠ V3.blk sid ∧ V3.blk i ≠ V3.blk pid ∧ V3.blk i ≠ V3.blk vid := by
    intro l hl i hi
    have := List.all_eq_true.1 hl i hi
    simp only [Bool.and_eq_true, Bool.not_eq_true'] at this
    obtain ⟨⟨⟨⟨n1, n2⟩, n3⟩, _⟩, n5⟩ := this
    obtain ⟨o, ho⟩ := Option.isSome_iff_exists.1 n5
    refine ⟨(r3.ob i o ho).1, fun e => ?_, fun e => ?_, fun e => ?_⟩
    · rw [r3.inj _ _ _ _ ho hs e] at n1; simp at n1
    · rw [r3.inj _ _ _ _ ho hp e] at n2; simp at n2
    · rw [r3.inj _ _ _ _ ho hv e] at n3; simp at n3
  have hfr : ∀ k, FrR D (V3.withS (Sw S ws k)) fr3 a3 := fun k => f3.calm hsym hcf
  have calm : ∀ i o, m3.H.get i = some o → ∀ a ∈ o.cs, a.calm = true := by
    intro i o hi a hao
    have := List.all_eq_true.1 hcm i (List.mem_range.2 (hDl i (r3.ob i o hi).1))
    simp only [hi] at this
    exact List.all_eq_true.1 this a hao
  -- the memory of the round, at the start
  have hM0 : ∀ W, RelM D V3 m3 W → RelM D (V3.withS (Sw S ws 0)) (loopMem m3 sid aid) W := by
    intro W h
    refine h.anew hDl h.mlt fun i o hi => ?_
    obtain ⟨_, hio⟩ := loopMem_get hi
    rcases hio with ⟨rfl, rfl⟩ | ⟨_, hio⟩
    · exact ⟨da, fun a h => by rw [List.mem_singleton.1 h]; trivial, rfl, rfl, _, ha, rfl, rfl, fun h => (by cases h), rfl, fun j a hj => by
        match j, hj with
        | 0, hj =>
          simp only [List.getElem?_cons_zero, Option.some.injEq] at hj
          subst hj
          exact ⟨_, rfl, rfl⟩⟩
    · obtain ⟨g1, g2, _⟩ := h.ob i o hio
      exact ⟨g1, g2, rfl, rfl, o, hio, rfl, rfl, id, rfl, fun j a hj => ⟨a, hj, (At.val_calm hsym (calm i o hio a (List.mem_of_getElem? hj))).symm⟩⟩
  have hMn : ∀ k V' W, (V3.withS (Sw S ws k)).agree D V' → ∀ D', RelM D' V' MN W → RelM D (V3.withS (Sw S ws (k + 1))) (loopMem m3 sid aid) W := by
    intro k V' W hag D' h
    refine h.anew hDl (fun i hi => r3.mlt i hi) fun i o hi => ?_
    obtain ⟨_, hio⟩ := loopMem_get hi
    rcases hio with ⟨rfl, rfl⟩ | ⟨hia, hio⟩
    · exact ⟨da, fun a h => by rw [List.mem_singleton.1 h]; trivial, ((hag.ids _ da).1).symm, ((hag.ids _ da).2).symm, _, hNg, rfl, rfl, fun h => (by cases h), rfl, fun j a hj => by
        match j, hj with
        | 0, hj =>
          simp only [List.getElem?_cons_zero, Option.some.injEq] at hj
          subst hj
          exact ⟨_, rfl, by simp only [At.val, hag.sym]; rfl⟩⟩
    · obtain ⟨g1, g2, _⟩ := r3.ob i o hio
      have hMi : MN.H.get i = some o := by rw [hNa]; exact Tr.put_ne _ _ _ _ _ hia hi
      exact ⟨g1, g2, ((hag.ids _ g1).1).symm, ((hag.ids _ g1).2).symm, o, hMi, rfl, rfl, id, rfl, fun j a hj => ⟨a, hj, by
        have ham := List.mem_of_getElem? hj
        rw [At.val_agree hag (g2 a ham), At.val_calm hsym (calm i o hio a ham), At.val_calm hsym (calm i o hio a ham)]⟩⟩
  refine wpIn_block (wpIn_rangeFunc fun fn' _ => ?_)
  obtain ⟨l, hl⟩ : ∃ l, w3.heap.size + 1 = l := ⟨_, rfl⟩
  obtain ⟨dd, hdd⟩ : ∃ dd, w3.heap.size = dd := ⟨_, rfl⟩
  obtain ⟨wA, hwA⟩ : ∃ wA, (w3.alloc (.deferred (some []))).alloc (.loop (recOf fn' a3 ps assign body dd .ready none)) = wA := ⟨_, rfl⟩
  have hLA : wA.heap[l]? = some (.loop (recOf fn' a3 ps assign body dd .ready none)) := by
    rw [← hwA, ← hl]
    have := World.alloc_heap_new (w3.alloc (.deferred (some []))) (.loop (recOf fn' a3 ps assign body dd .ready none))
    exact (World.size_alloc w3 (.deferred (some []))) ▸ this
  have hKA : wA.heap[dd]? = some (.deferred (some [])) := by
    rw [← hwA, ← hdd]
    exact (Below.heap_alloc _ _ _ (by simp)).trans (World.alloc_heap_new w3 _)
  have hBA : Below w3.heap.size w3 wA := by rw [← hwA]; exact ((Below.refl _ w3).alloc (Nat.le_refl _) _).alloc (by simp) _
  have rA : RelM D V3 m3 wA := by rw [← hwA]; exact (r3.alloc _).alloc _
  have hld : l ≠ dd := by omega
  have hwl : w.heap.size ≤ w3.heap.size := hB3.size
  have hgv : a3.tmps[g]? = some (.func (.func gf) #[] #[.pointer (some ⟨V3.blk pid, 0, none⟩), .pointer (some ⟨V3.blk sid, 0, none⟩), .pointer (some ⟨V3.blk vid, 0, none⟩)]) := (f3.at_ g _ hg).1
  have hev : a3.eval (.tmp g) = .func (.func gf) #[] #[.pointer (some ⟨V3.blk pid, 0, none⟩), .pointer (some ⟨V3.blk sid, 0, none⟩), .pointer (some ⟨V3.blk vid, 0, none⟩)] := by simp only [Act.eval, Array.getD_eq_getD_getElem?, hgv, Option.getD_some]
  have hent : (Instr.enterLoop fn' a3.tmps ps assign body (Fw none).round).run Cp.P w3 = .ok (l, [{ target := .collected dd, args := #[] }]) wA := by
    rw [← hwA, ← hl, ← hdd]
    exact run_enterLoop_outer fn' a3.tmps ps assign body
  clear hwA
  have hsz : ∀ W : World, W.heap[l]? = some (.loop (recOf fn' a3 ps assign body dd .ready none)) → w3.heap.size + 1 < W.heap.size := fun W h => by rw [hl]; exact (Array.getElem?_eq_some_iff.1 h).1
  -- between two rounds; behind one that returned
  let J : Nat → World → Prop := fun k W => (∀ j, j < k → hit j = false) ∧ RelM D (V3.withS (Sw S ws k)) (loopMem m3 sid aid) W ∧ W.heap[l]? = some (.loop (recOf fn' a3 ps assign body dd .ready none)) ∧ W.heap[dd]? = some (.deferred (some [])) ∧ Below w.heap.size w W
  let Jx : World → Prop := fun W => ∃ k V', k < ws.length ∧ hit k = true ∧ (∀ j, j < k → hit j = false) ∧ (V3.withS (Sw S ws k)).agree D V' ∧ RelM (Dn D m3.nxt MR.nxt) V' MR W ∧ W.heap[l]? = some (.loop (recOf fn' a3 ps assign body dd .done (some .ret))) ∧ W.heap[dd]? = some (.deferred (some [])) ∧ Below w.heap.size w W
  have c := hit35 l (V3.blk sid) (V3.blk pid) (V3.blk vid) J Jx
    (by
      rintro k W v ⟨h1, h2, h3, h4, h5⟩
      refine ⟨h1, ⟨h2.dom, fun i o hi => ?_, h2.inj, h2.mlt⟩, ?_, ?_, h5.trans ((Below.refl _ W).setCell (p := ⟨V3.blk sid, 0, none⟩) (hDb _ ds) v)⟩
      · obtain ⟨g1, g2, g3⟩ := h2.ob i o hi
        refine ⟨g1, g2, g3.kept g1 g2 (.refl _ _) (Below.heap_setCell W _ _ _ fun e => ?_)⟩
        obtain ⟨n1, hio⟩ := loopMem_get hi
        have e' : V3.blk i = V3.blk sid := e
        rcases hio with ⟨rfl, _⟩ | ⟨_, hio⟩
        · exact n1 (r3.inj _ _ _ _ ha hs e')
        · exact n1 (r3.inj _ _ _ _ hio hs e')
      · rw [Below.heap_setCell W _ _ _ (show l ≠ V3.blk sid by omega)]
        exact h3
      · rw [Below.heap_setCell W _ _ _ (show dd ≠ V3.blk sid by omega)]
        exact h4)
    (by
      rintro k x W hx ⟨h1, h2, h3, h4, h5⟩
      have hkl : k < ws.length := (List.getElem?_eq_some_iff.1 hx).1
      have hlW := hsz W h3
      have hword : ws.getD k [] = x := by rw [List.getD_eq_getElem?_getD, hx]; rfl
      have hyv : (([SV.one (At.sym 7)]).map (SV.val (V3.withS (Sw S ws k)))).toArray = #[.string ⟨x.toArray⟩] := by
        rw [← hword]
        rfl
      have hXk := hXb k hkl
      have hbelow : ∀ {V' : Va} {W' : World} {m' : Mem}, StepL D (V3.withS (Sw S ws k)) W (loopMem m3 sid aid) V' W' m' l → modsOk m3 m'.mods sid pid vid = true → Below w.heap.size W W' := by
        intro V' W' m' hst hmo
        refine ⟨hst.os, hst.tape, hst.output, hst.size, fun b hb => hst.same b (by omega) (by omega) fun i hi => ?_⟩
        obtain ⟨g1, _⟩ := live hmo i hi
        have e1 : V'.blk i = V3.blk i := (hst.agree.ids i g1).1
        have := hDb i g1
        omega
      have hb' := hPb (hit k)
      cases hhit : hit k with
      | false =>
        rw [hhit] at hXk hb'
        obtain ⟨frN, hN'⟩ := nrmMem_some hN
        rw [← hb', ← hyv]
        refine round_sound (V := V3.withS (Sw S ws k)) (dd := dd) hXk rfl hlp h2 (hfr k) h3 (by intro s hs; rw [List.mem_singleton.1 hs]; trivial) hN' (.inl rfl) ?_
        intro V' W' hst hrel hrec
        refine .inl ⟨rfl, ⟨?_, hMn k V' W' hst.agree _ hrel, hrec, hst.oth _ _ (fun e => hld e.symm) h4 rfl, h5.trans (hbelow hst hNm)⟩, ?_⟩
        · intro j hj
          by_cases e : j = k
          · rw [e]; exact hhit
          · exact h1 j (by omega)
        · have hsame : ∀ b, b < w3.heap.size → (∀ i ∈ MN.mods, V3.blk i ≠ b) → W'.heap[b]? = W.heap[b]? := by
            intro b hb hi
            refine hst.same b (by omega) (by omega) fun i hm => ?_
            obtain ⟨g1, _⟩ := live hNm i hm
            rw [show V'.blk i = V3.blk i from (hst.agree.ids i g1).1]
            exact hi i hm
          exact ⟨hsame _ lts fun i hm => (live hNm i hm).2.1, hsame _ ltp fun i hm => (live hNm i hm).2.2.1, hsame _ ltv fun i hm => (live hNm i hm).2.2.2⟩
      | true =>
        rw [hhit] at hXk hb'
        obtain ⟨frR, hR'⟩ := retMem_some hR
        rw [← hb', ← hyv]
        refine round_sound (V := V3.withS (Sw S ws k)) (dd := dd) hXk rfl hlp h2 (hfr k) h3 (by intro s hs; rw [List.mem_singleton.1 hs]; trivial) hR' (.inr rfl) ?_
        intro V' W' hst hrel hrec
        exact .inr ⟨rfl, k, V', hkl, hhit, h1, hst.agree, hrel, hrec, hst.oth _ _ (fun e => hld e.symm) h4 rfl, h5.trans (hbelow hst hRm)⟩)
    wA ⟨(hBA.block _ lts).trans xs, (hBA.block _ ltp).trans xp, (hBA.block _ ltv).trans xv⟩ dsp dsv ⟨fun j hj => absurd hj (by omega), hM0 _ rA, hLA, hKA, hB3.trans (hBA.mono hwl)⟩
  refine ⟨l, _, wA, { target := .fn (.func gf) #[.pointer (some ⟨V3.blk pid, 0, none⟩), .pointer (some ⟨V3.blk sid, 0, none⟩), .pointer (some ⟨V3.blk vid, 0, none⟩)], args := #[.func (.yield l) #[] #[]] }, wA, gf, #[.func (.yield l) #[] #[], .pointer (some ⟨V3.blk pid, 0, none⟩), .pointer (some ⟨V3.blk sid, 0, none⟩), .pointer (some ⟨V3.blk vid, 0, none⟩)], wA, hent, ?_, fun _ _ => trivial, ?_, fun h => by simp [Fw] at h, callsIn_fw.2 ?_⟩
  · simp only [resolve, hev, Deferred.ofValue, Sem.run_pure, Array.empty_append]
    simp [Act.eval]
  · have := hgf (#[.func (.yield l) #[] #[]] ++ #[.pointer (some ⟨V3.blk pid, 0, none⟩), .pointer (some ⟨V3.blk sid, 0, none⟩), .pointer (some ⟨V3.blk vid, 0, none⟩)]) wA
    simpa [invoke] using this
  refine Calls.mono (h := c) ?_
  rintro e W ⟨⟨v, rfl⟩, ⟨h1, h2, h3, h4, h5⟩ | ⟨k, V', k1, k2, k3, k4, k5, k6, k7, k8⟩⟩
  · -- all words have come
    refine ⟨_, _, run_endLoop h3 (by simp [recOf]), ?_⟩
    show rest.wpIn _ _ _ _ _ _
    have r5 := h2.putObj h3 rfl (.loop { recOf fn' a3 ps assign body dd .ready none with state := .exhausted })
    have hK5 : (W.putObj l (.loop { recOf fn' a3 ps assign body dd .ready none with state := .exhausted })).heap[dd]? = some (.deferred (some [])) := by
      rw [World.putObj_heap_other (fun e => hld e.symm)]
      exact h4
    have hB5 : Below w.heap.size w (W.putObj l (.loop { recOf fn' a3 ps assign body dd .ready none with state := .exhausted })) := below_put h5 (by omega) _
    have last : ∀ (out : Out) (fr5 : Frm) (m5 : Mem), (out = .nrm ∨ out = .ret) → run Ce calle noY noD maxFuel rest fr3 (loopMem m3 sid aid) = some (out, fr5, m5) → (resultsS Ce fr5 m5 fn.results.toList).map (·, m5) = some (svE, mE) →
        rest.wpIn (Fw none) 0 Cp.P (bodyPostM (Fw none) 0 Cp.P fn fun e w' => Below w.heap.size w w' ∧ ((∃ k, k < ws.length ∧ hit k = true ∧ (∀ j, j < k → hit j = false) ∧ e = .returned (svR.val (V0 (Sw S ws k)))) ∨ ((∀ j, j < ws.length → hit j = false) ∧ e = .returned (svE.val (V0 (Sw S ws ws.length)))))) { a3 with defers := [{ target := .collected dd, args := #[] }] ++ a3.defers } (W.putObj l (.loop { recOf fn' a3 ps assign body dd .ready none with state := .exhausted })) := by
      intro out fr5 m5 hout hrun hres
      simp only [Option.map_eq_some_iff] at hres
      obtain ⟨s, hs, e⟩ := hres
      cases e
      rw [← hPe]
      refine (run_sound (X := cx Ce (Sw S ws ws.length)) (ro := none) (n := 0) hXe hCe (noY' _) (noD' _) maxFuel).1 rest fr3 (loopMem m3 sid aid) out fr5 mE hrun D (V3.withS (Sw S ws ws.length)) _ _ _ ⟨rfl, hlp⟩ r5 trivial ⟨(hfr ws.length).size, (hfr ws.length).at_⟩ ?_
      intro V6 a6 w6 s6 r6 f6 d6
      have hK6 := s6.oth.same _ _ hK5 rfl
      have r6' := r6.putObj hK6 rfl (.deferred none)
      obtain ⟨v1, _⟩ := results_sound (X := cx Ce (Sw S ws ws.length)) hs r6' f6
      have hB6 : Below w.heap.size w w6 := hB5.trans (below_step s6 r6 hDb hB5.size)
      have fin : LeavesInM (Fw none) 0 Ce.P fn a6.tmps (fun e w' => Below w.heap.size w w' ∧ ((∃ k, k < ws.length ∧ hit k = true ∧ (∀ j, j < k → hit j = false) ∧ e = .returned (svR.val (V0 (Sw S ws k)))) ∨ ((∀ j, j < ws.length → hit j = false) ∧ e = .returned (svE.val (V0 (Sw S ws ws.length)))))) a6.defers .returning w6 := by
        rw [d6]
        simp only [hdef, List.append_nil]
        refine ⟨by simp, .inl ⟨dd, _, rfl, run_takeDeferred hK6, ?_⟩⟩
        exact ⟨_, v1, below_put hB6 (by omega) _, .inr ⟨h1, by rw [SV.free_val (show V6.sym = Sw S ws ws.length from s6.agree.sym) hEf]⟩⟩
      rcases hout with rfl | rfl <;> exact fin
    unfold endF at hE
    split at hE
    · rename_i fr5 m5 hrun
      exact last .nrm fr5 m5 (.inl rfl) hrun hE
    · rename_i fr5 m5 hrun
      exact last .ret fr5 m5 (.inr rfl) hrun hE
    · cases hE
  · -- a round has returned
    refine ⟨_, _, run_endLoop k6 (by simp [recOf]), ?_⟩
    show Code.ret.wpIn _ _ _ _ _ _
    refine wpIn_ret ?_
    have hK5 : (W.putObj l (.loop { recOf fn' a3 ps assign body dd .done (some .ret) with state := .exhausted })).heap[dd]? = some (.deferred (some [])) := by
      rw [World.putObj_heap_other (fun e => hld e.symm)]
      exact k7
    have r5 := (k5.putObj k6 rfl (.loop { recOf fn' a3 ps assign body dd .done (some .ret) with state := .exhausted })).putObj hK5 rfl (.deferred none)
    have f5 : FrR (Dn D m3.nxt MR.nxt) V' fr3 a3 := (hfr k).kept k4 Dn_le
    obtain ⟨v1, _⟩ := results_sound (X := cx (Cb true) (Sw S ws k)) hRs r5 f5
    have hB6 : Below w.heap.size w (W.putObj l (.loop { recOf fn' a3 ps assign body dd .done (some .ret) with state := .exhausted })) := below_put k8 (by omega) _
    have fin : LeavesInM (Fw none) 0 Cp.P fn a3.tmps (fun e w' => Below w.heap.size w w' ∧ ((∃ k, k < ws.length ∧ hit k = true ∧ (∀ j, j < k → hit j = false) ∧ e = .returned (svR.val (V0 (Sw S ws k)))) ∨ ((∀ j, j < ws.length → hit j = false) ∧ e = .returned (svE.val (V0 (Sw S ws ws.length)))))) [{ target := .collected dd, args := #[] }] .returning (W.putObj l (.loop { recOf fn' a3 ps assign body dd .done (some .ret) with state := .exhausted })) := by
      refine ⟨by simp, .inl ⟨dd, _, rfl, run_takeDeferred hK5, ?_⟩⟩
      have v1' : (results fn a3.tmps).run Cp.P _ = _ := (hPb true) ▸ v1
      exact ⟨_, v1', below_put hB6 (by omega) _, .inl ⟨k, k1, k2, k3, by rw [SV.free_val (show V'.sym = Sw S ws k from k4.sym) hRf]⟩⟩
    have hd : [{ target := .collected dd, args := #[] }] ++ a3.defers = ([{ target := .collected dd, args := #[] }] : List Deferred) := by rw [hdef]; rfl
    rw [← hd] at fin
    exact fin
end Go.Proofs.YtnkdpcalgllnbaaDoor.Sy
