/-
  The symbolic run: a region that draws its order is sound: the step; the whole.
-/
import Derived.Test.YtnkdpcalgllnbaaDoorSyI
namespace Go.Proofs.YtnkdpcalgllnbaaDoor.Sy
open Go Go.RowKit

section
variable {S : RS} {L : Nat → Bool}

theorem rstep (hS : S.OK) {V : Va} {a : Act} {w : World} (h : RInv S L V a w) {k : Nat} {o : Oper} (ho : S.ops[k]? = some o) (hk : L k = false) (he : ∀ i ∈ edgesOf o, L i = true) {n : Nat} {Q : Exit → Act → World → Prop} :
    wpOpIn (Fw none) n S.X.C.P S.ops.toArray Q k (fun a w => ∃ V, RInv S (upd L k) V a w) a w := by
  have hkl : k < S.ops.length := (List.getElem?_eq_some_iff.1 ho).1
  have hL := hS.lex k o ho
  have hmn := hS.mono k hkl
  have hdst : dstOf S.ops k = o.dst := by simp [dstOf, ho]
  have ho' : S.ops.toArray[k]? = some o := by simpa using ho
  have hN : (S.frs k).N = (S.frs 0).N := frs_N hS k (by omega)
  obtain ⟨Dk, hDk⟩ : ∃ Dk : Nat → Prop, Dk = fun i => S.R L i ∧ i < S.st k := ⟨_, rfl⟩
  have hfr : FrR Dk V (frkOf S.ops S.bef k (S.frs k)) a := by
    refine ⟨by rw [h.size]; exact hN.symm, fun t s ht => ?_⟩
    obtain ⟨e1, e2⟩ := frk_FA hS h ho hk he ht
    obtain ⟨e3, e4⟩ := h.fa t s e1
    rw [hDk]
    exact ⟨e3, sv_on_and e4 (FA_bnd hS h k s (by omega) e2)⟩
  have hops : S.ops.toArray.toList = S.ops := rfl
  -- the frame behind it, whatever it has yielded
  have frame : ∀ (Vn : Va), V.agree (S.R L) Vn → (S.sv k).on (S.R (upd L k)) → ∀ t s, S.FA (upd L k) S.ops.length t = some s → (a.put o.dst ((S.sv k).val Vn)).tmps[t]? = some (s.val Vn) ∧ s.on (S.R (upd L k)) := by
    intro Vn hV hs t s hts
    by_cases e : dstOf S.ops k = some t
    · rw [FA_upd_at hS e hkl] at hts
      cases hts
      refine ⟨?_, hs⟩
      have hput := hL.put
      rw [← hdst, e] at hput
      simp only [Frm.put] at hput
      split at hput
      · rename_i hlt
        have hlt' : t < (S.frs k).N := Nat.le_of_ble_eq_true hlt
        rw [← hdst, e]
        simp [Act.put, h.size, ← hN, hlt']
      · cases hput
    · rw [FA_upd S.ops.length (.inl e)] at hts
      obtain ⟨e3, e4⟩ := h.fa t s hts
      refine ⟨?_, SV.on_mono (fun i hi => R_upd hi) e4⟩
      rw [SV.val_agree hV e4, ← e3]
      cases hd : o.dst with
      | none => rfl
      | some d =>
        have hne : d ≠ t := fun e' => e (by rw [hdst, hd, e'])
        simp only [Act.put]
        rw [Array.getElem?_setIfInBounds_ne hne]
  have hcl : ∀ j p, S.ops[j]? = some p → upd L k j = true → ∀ i ∈ edgesOf p, upd L k i = true := by
    intro j p hp hj i hi
    rcases upd_cases hj with rfl | hj
    · rw [ho] at hp; cases hp; exact upd_of (he i hi)
    · exact upd_of (h.closed j p hp hj i hi)
  unfold wpOpIn
  rw [ho']
  simp only
  rcases hL.run with ⟨hw, hrun, hmd⟩ | ⟨hw, hst, hmd, hsv⟩
  · have hw' := wanted_sound (ops := S.ops.toArray) (by rw [hops]; exact hw) hfr
    rw [if_pos hw']
    have hrel : RelM Dk V { H := EOf S.ops S.bef S.st S.md k (S.Hs k), nxt := S.st k, mods := [] } w := by
      refine ⟨fun i hi => by rw [hDk] at hi; exact hi.2, fun i ob hi => ?_, fun i j oi oj hi hj hb => ?_, fun i hi => by simp at hi⟩
      · obtain ⟨e1, e2, _⟩ := E_HA hS h ho hk he hi
        obtain ⟨e3, e4, e5⟩ := h.ha i ob e1
        rw [hDk]
        exact ⟨⟨e3, RS.dom_lt hS k ob (by omega) (eraseIds_get _ _ _ _ hi).2⟩, fun x hx => at_on_and (e4 x hx) (HA_bnd hS h k ob (by omega) e2 x hx), e5⟩
      · exact h.inj i j oi oj (E_HA hS h ho hk he hi).1 (E_HA hS h ho hk he hj).1 hb
    refine stepOp_sound hS.hX hS.hC hS.hY h.good hrun hrel (hS.hX.li _ _ _ _ _ _ h.agree (fun i hi => by rw [hDk]; exact ⟨.inl hi, by have h1 := hS.hm.dom i hi; rw [← hS.st0] at h1; exact Nat.lt_of_lt_of_le h1 (RS.st_le hS k (by omega) (by omega))⟩) h.oth hS.hl) hfr ?_
    intro V' w' s1 s2 s3
    simp only at s1 s2 s3
    obtain ⟨Vn, hVn⟩ : ∃ Vn : Va, Vn = { V with blk := fun i => if S.st k ≤ i ∧ i < S.st (k + 1) then V'.blk i else V.blk i, cap := fun i => if S.st k ≤ i ∧ i < S.st (k + 1) then V'.cap i else V.cap i } := ⟨_, rfl⟩
    have hA : V'.agree (Dn Dk (S.st k) (S.st (k + 1))) Vn := by
      refine ⟨fun i hi => ?_, by rw [hVn]; exact s1.agree.sym.symm, by rw [hVn]; exact s1.agree.lp.symm⟩
      rcases hi with hi | hi
      · have h1 := s1.agree.ids i hi
        rw [hDk] at hi
        have hn : ¬ (S.st k ≤ i ∧ i < S.st (k + 1)) := by have := hi.2; omega
        rw [hVn]
        simp only [hn, if_false]
        exact ⟨h1.1.symm, h1.2.symm⟩
      · rw [hVn]
        simp only [hi, and_self, if_true]
    have hB : V.agree (S.R L) Vn := by
      refine ⟨fun i hi => ?_, by rw [hVn], by rw [hVn]⟩
      have hn : ¬ (S.st k ≤ i ∧ i < S.st (k + 1)) := by have := R_lt hS hkl hk hi; omega
      rw [hVn]
      simp only [hn, if_false, and_self]
    have hR' : ∀ i, Dn Dk (S.st k) (S.st (k + 1)) i → S.R (upd L k) i := by
      rintro i (hi | hi)
      · rw [hDk] at hi; exact R_upd hi.1
      · exact .inr ⟨k, hkl, upd_self, hi⟩
    have hlive : ∀ x ∈ S.md k, x < S.st k → ∃ ox, S.HA L S.ops.length x = some ox ∧ ∀ j, k < j → j < S.ops.length → x ∈ S.ids j → L j = false := by
      intro x hx hlt
      rcases hmd x hx with h1 | h1
      · cases hex : (EOf S.ops S.bef S.st S.md k (S.Hs k)).get x with
        | none => exact absurd hex h1
        | some ox =>
          obtain ⟨e1, _, e3⟩ := E_HA hS h ho hk he hex
          exact ⟨ox, e1, e3⟩
      · omega
    have hmodk : ∀ x ∈ S.md k, Dn Dk (S.st k) (S.st (k + 1)) x := s2.mlt
    -- no block of an object that the operation does not turn is turned
    have hother : ∀ i ob, S.HA L S.ops.length i = some ob → i ∉ S.ids k → ∀ x ∈ S.md k, V'.blk x ≠ V.blk i := by
      intro i ob hi hni x hx
      have hlt := (h.ha i ob hi).2.2.lt
      have hxk : x ∈ S.ids k := mem_orcIds.2 (.inl hx)
      rcases hmodk x hx with h1 | h1
      · rw [(s1.agree.ids x h1).1]
        have h2 := h1
        rw [hDk] at h2
        obtain ⟨ox, e1, _⟩ := hlive x hx h2.2
        intro e
        exact hni (h.inj x i ox ob e1 hi e ▸ hxk)
      · rcases s1.fresh x h1.1 h1.2 with h2 | ⟨y, hy, hDy, hb⟩
        · omega
        · rw [← hb]
          rw [hDk] at hDy
          obtain ⟨oy, e1, _⟩ := hlive y hy hDy.2
          intro e
          exact hni (h.inj y i oy ob e1 hi e ▸ mem_orcIds.2 (.inl hy))
    have hfarN : ∀ i ob, S.HA L S.ops.length i = some ob → i ∉ S.ids k → Vn.blk i = V.blk i ∧ w'.heap[V.blk i]? = w.heap[V.blk i]? := by
      intro i ob hi hni
      exact ⟨(hB.ids i (h.ha i ob hi).1).1, s1.same _ (h.ha i ob hi).2.2.lt (hother i ob hi hni)⟩
    have hat : ∀ i, i ∈ S.ids k → S.HA (upd L k) S.ops.length i = (S.Hp k).get i := by
      intro i hi
      refine HA_upd_at hi hkl fun j hj hjl hij => ?_
      rcases mem_orcIds.1 hi with h1 | h1
      · rcases Nat.lt_or_ge i (S.st k) with h2 | h2
        · obtain ⟨_, _, e3⟩ := hlive i h1 h2
          exact e3 j hj hjl hij
        · have h3 : i < S.st (k + 1) := s2.dom i (hmodk i h1)
          rw [Bool.eq_false_iff]
          intro hLj
          rcases mem_orcIds.1 hij with h4 | h4
          · have := R_lt hS hkl hk (h.mds j hjl hLj i h4); omega
          · have := RS.st_le hS (j := k + 1) j (by omega) (by omega); omega
      · rw [Bool.eq_false_iff]
        intro hLj
        rcases mem_orcIds.1 hij with h4 | h4
        · have := R_lt hS hkl hk (h.mds j hjl hLj i h4); omega
        · have := RS.st_le hS (j := k + 1) j (by omega) (by omega); omega
    have hVA : ∀ i, Dn Dk (S.st k) (S.st (k + 1)) i → Vn.blk i = V'.blk i := fun i hi => (hA.ids i hi).1
    rw [← SV.val_agree hA s3]
    refine ⟨Vn, ⟨h.good.kept hB, by rw [← h.size]; cases o.dst <;> simp [Act.put], frame Vn hB (SV.on_mono hR' s3), fun i ob hi => ?_, fun i j oi oj hi hj hb => ?_, ?_, s1.os.trans h.os, s1.tape.trans h.tape, s1.output.trans h.output, h.oth.trans s1.oth, fun b hb hall => ?_, fun i j hj hLj hij1 hij2 => ?_, fun j hj hLj i hi => ?_, fun j hj hLj => ?_, ?_, hcl⟩⟩
    · by_cases hik : i ∈ S.ids k
      · rw [hat i hik] at hi
        obtain ⟨e1, e2, e3⟩ := s2.ob i ob hi
        exact ⟨hR' i e1, fun x hx => At.on_mono hR' (e2 x hx), e3.kept e1 e2 hA rfl⟩
      · rw [HA_upd S.ops.length (.inl hik)] at hi
        obtain ⟨e1, e2, e3⟩ := h.ha i ob hi
        exact ⟨R_upd e1, fun x hx => At.on_mono (fun _ h => R_upd h) (e2 x hx), e3.kept e1 e2 hB (hfarN i ob hi hik).2⟩
    · by_cases hik : i ∈ S.ids k <;> by_cases hjk : j ∈ S.ids k
      · rw [hat i hik] at hi
        rw [hat j hjk] at hj
        rw [hVA i (s2.ob i oi hi).1, hVA j (s2.ob j oj hj).1] at hb
        exact s2.inj i j oi oj hi hj hb
      · rw [hat i hik] at hi
        rw [HA_upd S.ops.length (.inl hjk)] at hj
        rw [hVA i (s2.ob i oi hi).1, (hfarN j oj hj hjk).1] at hb
        exfalso
        rcases mem_orcIds.1 hik with h1 | h1
        · exact hother j oj hj hjk i h1 hb
        · have hlt := (h.ha j oj hj).2.2.lt
          rcases s1.fresh i h1.1 h1.2 with h2 | ⟨y, hy, hDy, hb'⟩
          · omega
          · rw [hDk] at hDy
            obtain ⟨oy, e1, _⟩ := hlive y hy hDy.2
            exact hjk (h.inj y j oy oj e1 hj (hb'.trans hb) ▸ mem_orcIds.2 (.inl hy))
      · rw [hat j hjk] at hj
        rw [HA_upd S.ops.length (.inl hik)] at hi
        rw [hVA j (s2.ob j oj hj).1, (hfarN i oi hi hik).1] at hb
        exfalso
        rcases mem_orcIds.1 hjk with h1 | h1
        · exact hother i oi hi hik j h1 hb.symm
        · have hlt := (h.ha i oi hi).2.2.lt
          rcases s1.fresh j h1.1 h1.2 with h2 | ⟨y, hy, hDy, hb'⟩
          · omega
          · rw [hDk] at hDy
            obtain ⟨oy, e1, _⟩ := hlive y hy hDy.2
            exact hik (h.inj y i oy oi e1 hi (hb'.trans hb.symm) ▸ mem_orcIds.2 (.inl hy))
      · rw [HA_upd S.ops.length (.inl hik)] at hi
        rw [HA_upd S.ops.length (.inl hjk)] at hj
        rw [(hfarN i oi hi hik).1, (hfarN j oj hj hjk).1] at hb
        exact h.inj i j oi oj hi hj hb
    · refine ⟨fun i hi => ?_, by rw [hB.sym]; exact h.agree.sym, by rw [hB.lp]; exact h.agree.lp⟩
      have h1 := hB.ids i (.inl hi)
      have h2 := h.agree.ids i hi
      exact ⟨h1.1.trans h2.1, h1.2.trans h2.2⟩
    · rw [s1.same b (Nat.lt_of_lt_of_le hb h.oth.size) (fun x hx => by rw [← hVA x (hmodk x hx)]; exact hall k hkl upd_self x hx)]
      refine h.same b hb fun j hj hLj i hi => ?_
      rw [← (hB.ids i (h.mds j hj hLj i hi)).1]
      exact hall j hj (upd_of hLj) i hi
    · have old : ∀ i j, j < S.ops.length → L j = true → S.st j ≤ i → i < S.st (j + 1) → S.w0.heap.size ≤ V.blk i ∨ ∃ j', j' < S.ops.length ∧ upd L k j' = true ∧ ∃ i', i' ∈ S.md j' ∧ S.D i' ∧ S.V0.blk i' = V.blk i := by
        intro i j hj hLj h1 h2
        rcases h.fresh i j hj hLj h1 h2 with h3 | ⟨j', h3, h4, h5⟩
        · exact .inl h3
        · exact .inr ⟨j', h3, upd_of h4, h5⟩
      rcases upd_cases hLj with rfl | hLj
      · rw [hVA i (.inr ⟨hij1, hij2⟩)]
        rcases s1.fresh i hij1 hij2 with h1 | ⟨y, hy, hDy, hb⟩
        · exact .inl (Nat.le_trans h.oth.size h1)
        · rw [← hb]
          rw [hDk] at hDy
          rcases hDy.1 with h2 | ⟨j', h2, h3, h4, h5⟩
          · exact .inr ⟨j, hj, upd_self, y, hy, h2, ((h.agree.ids y h2).1).symm⟩
          · exact old y j' h2 h3 h4 h5
      · rw [(hB.ids i (.inr ⟨j, hj, hLj, hij1, hij2⟩)).1]
        exact old i j hj hLj hij1 hij2
    · rcases upd_cases hLj with rfl | hLj
      · exact hR' i (hmodk i hi)
      · exact R_upd (h.mds j hj hLj i hi)
    · have hlt : ∀ i, Dn Dk (S.st k) (S.st (k + 1)) i → i < S.st (k + 1) := s2.dom
      rcases upd_cases hLj with rfl | hLj
      · exact ⟨SV.on_mono hlt s3, fun i ob _ hi x hx => At.on_mono hlt ((s2.ob i ob hi).2.1 x hx)⟩
      · exact h.bnd j hj hLj
    · rw [put_defers]; exact h.defers
  · have hw' := wanted_sound (ops := S.ops.toArray) (by rw [hops]; exact hw) hfr
    rw [if_neg (by rw [hw']; simp)]
    refine ⟨fun _ _ => trivial, V, ?_⟩
    have hids : ∀ i, i ∉ S.ids k := fun i hi => by
      rcases mem_orcIds.1 hi with h1 | h1
      · rw [hmd] at h1; simp at h1
      · omega
    have hHA : ∀ i, S.HA (upd L k) S.ops.length i = S.HA L S.ops.length i := fun i => HA_upd S.ops.length (.inl (hids i))
    have hun : undef = (S.sv k).val V := by rw [hsv]; rfl
    have hson : ∀ p, (S.sv k).on p := fun p => by rw [hsv]; intro x hx; simp at hx
    rw [hun]
    have old : ∀ j, upd L k j = true → (j = k ∧ S.md j = [] ∧ S.st j = S.st (j + 1)) ∨ L j = true := by
      intro j hj
      rcases upd_cases hj with rfl | hj
      · exact .inl ⟨rfl, hmd, hst⟩
      · exact .inr hj
    refine ⟨h.good, by rw [← h.size]; cases o.dst <;> simp [Act.put], frame V (.refl _ _) (hson _), fun i ob hi => ?_, fun i j oi oj hi hj hb => ?_, h.agree, h.os, h.tape, h.output, h.oth, fun b hb hall => h.same b hb fun j hj hLj i hi => hall j hj (upd_of hLj) i hi, fun i j hj hLj hij1 hij2 => ?_, fun j hj hLj i hi => ?_, fun j hj hLj => ?_, by rw [put_defers]; exact h.defers, hcl⟩
    · rw [hHA] at hi
      obtain ⟨e1, e2, e3⟩ := h.ha i ob hi
      exact ⟨R_upd e1, fun x hx => At.on_mono (fun _ h => R_upd h) (e2 x hx), e3⟩
    · rw [hHA] at hi hj
      exact h.inj i j oi oj hi hj hb
    · rcases old j hLj with ⟨_, _, h2⟩ | hLj
      · omega
      · rcases h.fresh i j hj hLj hij1 hij2 with h3 | ⟨j', h3, h4, h5⟩
        · exact .inl h3
        · exact .inr ⟨j', h3, upd_of h4, h5⟩
    · rcases old j hLj with ⟨_, h2, _⟩ | hLj
      · rw [h2] at hi; simp at hi
      · exact R_upd (h.mds j hj hLj i hi)
    · rcases upd_cases hLj with rfl | hLj
      · exact ⟨hson _, fun i ob hi => absurd hi (hids i)⟩
      · exact h.bnd j hj hLj

/-- All orders. -/
theorem rall (hS : S.OK) {n : Nat} {Q : Exit → Act → World → Prop} (hQ : ∀ L V a w, (∀ j, j < S.ops.length → L j = true) → RInv S L V a w → Q .normal a w) :
    ∀ (fuel : Nat) (listed : Array Bool) (V : Va) (a : Act) (w : World), listed.size = S.ops.length → listed.toList.count false ≤ fuel → RInv S (fun j => listed.getD j true) V a w →
      wpAnyIn (Fw none) n S.X.C.P .any S.ops.toArray Q fuel listed a w := by
  have allOf : ∀ (listed : Array Bool) (V : Va) (a : Act) (w : World), listed.size = S.ops.length → RInv S (fun j => listed.getD j true) V a w → Region.ready .any S.ops.toArray listed = [] → ∀ j, j < S.ops.length → listed.getD j true = true := by
    intro listed V a w hsz h hr j
    induction j using Nat.strongRecOn with
    | _ j ih =>
      intro hj
      cases hl : listed.getD j true with
      | true => rfl
      | false =>
        exfalso
        have hjo : S.ops[j]? = some (S.ops[j]'hj) := List.getElem?_eq_getElem hj
        have : j ∈ Region.ready .any S.ops.toArray listed := by
          refine mem_ready.2 ⟨hl, S.ops[j]'hj, by simp, fun e he hb => ?_⟩
          have hmem : e.on ∈ edgesOf (S.ops[j]'hj) := by
            unfold edgesOf
            exact List.mem_map.2 ⟨e, List.mem_filter.2 ⟨Array.mem_toList_iff.2 he, hb⟩, rfl⟩
          have hlt : e.on < j := by have := (befOK_spec S.ops 0 hS.hb j _ hjo).1 _ hmem; omega
          have := ih e.on hlt (by omega)
          simp only [Array.getD_eq_getD_getElem?] at this ⊢
          rw [Array.getElem?_eq_getElem (by omega)] at this ⊢
          simpa using this
        rw [hr] at this
        simp at this
  have ready : ∀ (listed : Array Bool) (k : Nat), listed.size = S.ops.length → k ∈ Region.ready .any S.ops.toArray listed → k < S.ops.length ∧ listed.getD k true = false ∧ ∃ o, S.ops[k]? = some o ∧ ∀ i ∈ edgesOf o, listed.getD i true = true := by
    intro listed k hsz hk
    obtain ⟨h1, o, h2, h3⟩ := mem_ready.1 hk
    have ho : S.ops[k]? = some o := by simpa using h2
    refine ⟨(List.getElem?_eq_some_iff.1 ho).1, h1, o, ho, fun i hi => ?_⟩
    unfold edgesOf at hi
    obtain ⟨e, he, rfl⟩ := List.mem_map.1 hi
    obtain ⟨he1, he2⟩ := List.mem_filter.1 he
    have := h3 e (by simpa using he1) he2
    simp only [Array.getD_eq_getD_getElem?] at this ⊢
    cases hq : listed[e.on]? with
    | none => rfl
    | some b => rw [hq] at this; simpa using this
  intro fuel
  induction fuel with
  | zero =>
    intro listed V a w hsz hc h
    have hall : ∀ j, j < S.ops.length → listed.getD j true = true := by
      intro j hj
      cases hl : listed.getD j true with
      | true => rfl
      | false =>
        have : false ∈ listed.toList := by
          rw [Array.getD_eq_getD_getElem?, Array.getElem?_eq_getElem (by omega)] at hl
          simp only [Option.getD_some] at hl
          rw [← hl]
          simp
        have := List.count_pos_iff.2 this
        omega
    refine ⟨?_, hQ _ V a w hall h⟩
    rw [List.eq_nil_iff_forall_not_mem]
    intro k hk
    obtain ⟨h1, h2, _⟩ := ready listed k hsz hk
    rw [hall k h1] at h2
    cases h2
  | succ fuel ih =>
    intro listed V a w hsz hc h
    refine ⟨fun hr => hQ _ V a w (allOf listed V a w hsz h hr) h, fun k hk => ?_⟩
    obtain ⟨h1, h2, o, h3, h4⟩ := ready listed k hsz hk
    refine wpOpIn_mono ?_ (rstep hS h h3 h2 h4)
    rintro a1 w1 ⟨V1, hr1⟩
    refine ih _ V1 a1 w1 (by simpa using hsz) ?_ ?_
    · have hkl : k < listed.toList.length := by simpa [hsz] using h1
      have hkv : listed.toList[k] = false := by
        rw [Array.getD_eq_getD_getElem?, Array.getElem?_eq_getElem (by omega)] at h2
        simpa using h2
      rw [Array.toList_setIfInBounds, List.count_set hkl, hkv]
      have hp : 0 < listed.toList.count false := List.count_pos_iff.2 (by rw [← hkv]; exact List.getElem_mem _)
      rw [if_pos (by rfl), if_neg (by decide)]
      omega
    · have : (fun j => (listed.setIfInBounds k true).getD j true) = upd (fun j => listed.getD j true) k := by
        funext j
        unfold upd
        by_cases e : j = k
        · subst e
          simp only [if_true, Array.getD_eq_getD_getElem?]
          rw [Array.getElem?_setIfInBounds_self_of_lt (by omega)]
          rfl
        · simp only [e, if_false, Array.getD_eq_getD_getElem?]
          rw [Array.getElem?_setIfInBounds_ne (Ne.symm e)]
      rw [this]
      exact hr1
end
end Go.Proofs.YtnkdpcalgllnbaaDoor.Sy
