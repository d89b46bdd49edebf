/-
  NameBack: its body in two parts: what is asked of the number; what is asked of the text.
-/
import Derived.Test.YtnkdpcalgllnbaaDoorNbC
namespace Go.Proofs.YtnkdpcalgllnbaaDoor.Nv
open Go Go.RowKit Go.Proofs.YtnkdpcalgllnbaaDoor Go.Proofs.YtnkdpcalgllnbaaDoor.Sy Go.Proofs.YtnkdpcalgllnbaaDoor.Na Go.Proofs.YtnkdpcalgllnbaaDoor.Nc Go.Proofs.YtnkdpcalgllnbaaDoor.Np Go.Proofs.YtnkdpcalgllnbaaDoor.Nr Go.Proofs.YtnkdpcalgllnbaaDoor.Nb

noncomputable def spine : List Code → Code → Code
  | [], r => r
  | a :: l, r => .seq a (spine l r)
noncomputable def chain (C : Cfg) (call : CallT) : List Code → Frm → Mem → Option (Frm × Mem)
  | [], fr, m => some (fr, m)
  | a :: l, fr, m => bindFM (chain C call l) (nrmFM (run C call noY noD maxFuel a fr m))

theorem noYo (X : Ctx) : YieldOK X noY := fun _ _ _ _ h => by cases h
theorem noDo (X : Ctx) : DrawOK X none noD := fun _ _ _ _ _ h => by cases h
theorem chain_sound {C : Cfg} {S : Nat → Value} {call : CallT} (hX : XOK (cx C S)) (hC : CallOK (cx C S) call) : ∀ (l : List Code) (fr : Frm) (m : Mem) (fr' : Frm) (m' : Mem), chain C call l fr m = some (fr', m') →
    ∀ (r : Code) (D : Nat → Prop) (V : Va) (w : World) (a : Act) (Q : Exit → Act → World → Prop), Sy.Good (cx C S) V → RelM D V m w → FrR D V fr a →
      (∀ V' a' w', StepM D V w m V' w' m' → RelM (Dn D m.nxt m'.nxt) V' m' w' → FrR (Dn D m.nxt m'.nxt) V' fr' a' → a'.defers = a.defers → r.wpIn (Fw none) 0 C.P Q a' w') → (spine l r).wpIn (Fw none) 0 C.P Q a w
  | [], fr, m, fr', m', h, r, D, V, w, a, Q, hg, hm, hf, hk => by
    simp only [chain, Option.some.injEq, Prod.mk.injEq] at h
    obtain ⟨rfl, rfl⟩ := h
    exact hk V a w .refl (by rw [Dn_self]; exact hm) (by rw [Dn_self]; exact hf) rfl
  | c :: l, fr, m, fr', m', h, r, D, V, w, a, Q, hg, hm, hf, hk => by
    obtain ⟨fr1, m1, h1, h2⟩ := bindFM_some (show bindFM (chain C call l) (nrmFM (run C call noY noD maxFuel c fr m)) = some (fr', m') from h)
    have h1 := nrmFM_some h1
    refine wpIn_seq ((run_sound (X := cx C S) (ro := none) (n := 0) hX hC (noYo _) (noDo _) maxFuel).1 c fr m .nrm fr1 m1 h1 D V w a _ hg hm trivial hf ?_)
    intro V1 a1 w1 s1 r1 f1 d1
    refine chain_sound hX hC l fr1 m1 fr' m' h2 r _ V1 w1 a1 Q (hg.kept s1.agree) r1 f1 ?_
    intro V2 a2 w2 s2 r2 f2 d2
    have e := Dn_Dn (D := D) s1.nxt s2.nxt
    rw [e] at r2 f2
    exact hk V2 a2 w2 (s1.trans s2 r1.mlt) r2 f2 (d2.trans d1)

/-- What the second part knows: the text; that the examples hold. -/
noncomputable def frB (q : SV) : Frm := { N := 128, tr := (Tr.nil.put 2 (some q)).put 7 (some (.one (.lit (.bool true)))) }
noncomputable def isS1 : Option SV → Bool
  | some (.one (.sym 1)) => true
  | _ => false
noncomputable def isT : Option SV → Bool
  | some (.one (.lit (.bool true))) => true
  | _ => false
noncomputable def goes : Option (Frm × Mem) → Bool
  | some (fr, _) => Nat.beq fr.N 128 && isS1 (fr.tr.get 2) && isT (fr.tr.get 7)
  | none => false
theorem isS1_eq {o : Option SV} (h : isS1 o = true) : o = some (.one (.sym 1)) := by
  unfold isS1 at h
  split at h
  · rfl
  · cases h
theorem isT_eq {o : Option SV} (h : isT o = true) : o = some (.one (.lit (.bool true))) := by
  unfold isT at h
  split at h
  · rfl
  · cases h
noncomputable def endT : Option (SV × Mem) → Bool := isTrue

theorem back_split {l : List Code} {P2 : Code} (hb : Tryd.f5.body = some (spine l P2)) {C1 C2 : Cfg} {S1 S2 : Nat → Value} (hP1 : C1.P = Tryd.prog) (hP2 : C2.P = Tryd.prog) {call1 call2 : CallT}
    (hX1 : XOK (cx C1 S1)) (hC1 : CallOK (cx C1 S1) call1) (hX2 : XOK (cx C2 S2)) (hC2 : CallOK (cx C2 S2) call2) {args : List SV} (hlen : args.length = 3) (hargs : ∀ s ∈ args, s.on fun _ => False)
    (h1 : goes (chain C1 call1 l { N := 128, tr := putArgs args 0 .nil } Mem.empty) = true) {q : SV} (hq : ∀ V : Va, V.sym = S2 → q.val V = S1 1) (hqo : q.on fun _ => False)
    (h2 : isTrue (endF C2 Tryd.f5.results.toList (run C2 call2 noY noD maxFuel P2 (frB q) Mem.empty)) = true) (w : World) :
    Calls Tryd.prog 5 (args.map (SV.val (V0 S1))).toArray w (BoolP w true) := by
  unfold goes at h1
  split at h1
  case h_2 => cases h1
  rename_i fr1 m1 hch
  simp only [Bool.and_eq_true] at h1
  obtain ⟨⟨hN, hs⟩, ht⟩ := h1
  have hN := Nat.eq_of_beq_eq_true hN
  have hs := isS1_eq hs
  have ht := isT_eq ht
  refine calls_of_wp Tryd.func5 hb ?_
  refine (wpIn_wide (n := 0)).1 ?_
  have hg : Sy.Good (cx C1 S1) (V0 S1) := ⟨rfl, rfl⟩
  show (spine l P2).wpIn (Fw none) 0 Tryd.prog _ _ _
  rw [← hP1]
  refine chain_sound hX1 hC1 l _ Mem.empty fr1 m1 hch P2 (fun _ => False) (V0 S1) w _ _ hg (relM_empty _ _) ⟨by simp [hlen], fun t s hts => ?_⟩ ?_
  · rcases putArgs_get _ _ _ _ _ hts with ⟨_, h3⟩ | h3
    · rw [Nat.sub_zero] at h3
      have hlt : t < args.length := (List.getElem?_eq_some_iff.1 h3).1
      refine ⟨?_, hargs s (List.mem_of_getElem? h3)⟩
      rw [Array.getElem?_append_left (by simpa using hlt), List.getElem?_toArray, List.getElem?_map, h3]
      rfl
    · simp [Tr.get_nil] at h3
  intro V1 a1 w1 s1 r1 f1 d1
  have hB1 : Below w.heap.size w w1 := below_of_step s1 r1
  have hfr : FrR (fun _ => False) (V0 S2) (frB q) a1 := by
    refine ⟨by rw [f1.size, hN]; rfl, fun t s hts => ?_⟩
    have hts : ((Tr.nil.put 2 (some q)).put 7 (some (.one (.lit (.bool true))))).get t = some s := hts
    rcases Tr.get_put _ _ _ _ _ hts with ⟨rfl, e⟩ | ⟨_, hts⟩
    · cases e
      exact ⟨(f1.at_ 7 _ ht).1, trivial⟩
    · rcases Tr.get_put _ _ _ _ _ hts with ⟨rfl, e⟩ | ⟨_, hts⟩
      · cases e
        refine ⟨?_, hqo⟩
        rw [hq (V0 S2) rfl, (f1.at_ 2 _ hs).1]
        simp only [SV.val, At.val, s1.agree.sym]
        rfl
      · simp [Tr.get_nil] at hts
  have last : ∀ (out : Out) (fr5 : Frm) (m5 : Mem) (mE : Mem), (out = .nrm ∨ out = .ret) → run C2 call2 noY noD maxFuel P2 (frB q) Mem.empty = some (out, fr5, m5) → (resultsS C2 fr5 m5 Tryd.f5.results.toList).map (·, m5) = some (.one (.lit (.bool true)), mE) →
      P2.wpIn (Fw none) 0 C2.P (bodyPost C2.P Tryd.f5 (BoolP w true)) a1 w1 := by
    intro out fr5 m5 mE hout hrun hres
    simp only [Option.map_eq_some_iff] at hres
    obtain ⟨s, hsr, e⟩ := hres
    cases e
    refine (run_sound (X := cx C2 S2) (ro := none) (n := 0) hX2 hC2 (noYo _) (noDo _) maxFuel).1 P2 (frB q) Mem.empty out fr5 m5 hrun (fun _ => False) (V0 S2) w1 a1 _ ⟨rfl, rfl⟩ (relM_empty _ _) trivial hfr ?_
    intro V6 a6 w6 s6 r6 f6 d6
    obtain ⟨v1, _⟩ := results_sound (X := cx C2 S2) hsr r6 f6
    have hB6 : Below w.heap.size w w6 := hB1.trans ((below_of_step s6 r6).mono hB1.size)
    have hd : a6.defers = [] := by rw [d6, d1]
    rcases hout with rfl | rfl
    · exact ⟨hd, _, v1, rfl, hB6⟩
    · exact ⟨hd, _, v1, rfl, hB6⟩
  unfold Nb.isTrue at h2
  split at h2
  case h_2 => cases h2
  rename_i mE hE
  have fin : P2.wpIn (Fw none) 0 C2.P (bodyPost C2.P Tryd.f5 (BoolP w true)) a1 w1 := by
    unfold endF at hE
    split at hE
    · rename_i fr5 m5 hrun
      exact last .nrm fr5 m5 _ (.inl rfl) hrun hE
    · rename_i fr5 m5 hrun
      exact last .ret fr5 m5 _ (.inr rfl) hrun hE
    · cases hE
  rw [hP2] at fin
  rw [hP1]
  exact fin
end Go.Proofs.YtnkdpcalgllnbaaDoor.Nv
