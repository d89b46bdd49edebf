/-
  The symbolic run: a region that draws its order is sound.
-/
import Derived.Test.YtnkdpcalgllnbaaDoorSyH
namespace Go.Proofs.YtnkdpcalgllnbaaDoor.Sy
open Go Go.RowKit

theorem bef_lt {ops : List Oper} {bef : List Nat} (hb : befOK ops bef ops 0 = true) : ∀ k o, ops[k]? = some o → ∀ j, Nat.testBit (bef.getD k 0) j = true → j < k := by
  intro k
  induction k using Nat.strongRecOn with
  | _ k ih =>
    intro o ho j hj
    obtain ⟨h1, h2⟩ := befOK_spec ops 0 hb k o ho
    rw [Nat.zero_add] at h2
    rw [h2] at hj
    obtain ⟨i, hi, hij⟩ := befStep_bit hj
    have hlt : i < k := by have := h1 i hi; omega
    rcases hij with rfl | hij
    · exact hlt
    · have hk : k < ops.length := (List.getElem?_eq_some_iff.1 ho).1
      have := ih i hlt _ (List.getElem?_eq_getElem (by omega)) j hij
      omega

/-- What stands fast while the region goes on. -/
structure RS where
  X : Ctx
  call : CallT
  yld : YieldT
  ops : List Oper
  bef : List Nat
  st : Nat → Nat
  md : Nat → List Nat
  frs : Nat → Frm
  Hs : Nat → Tr Ob
  sv : Nat → SV
  Hp : Nat → Tr Ob
  D : Nat → Prop
  V0 : Va
  w0 : World
  m0 : Mem
  a0 : Act

structure RS.OK (S : RS) : Prop where
  hX : XOK S.X
  hC : CallOK S.X S.call
  hY : YieldOK S.X S.yld
  hb : befOK S.ops S.bef S.ops 0 = true
  hd : ∀ j k t, j ≠ k → dstOf S.ops j = some t → dstOf S.ops k ≠ some t
  mono : ∀ k, k < S.ops.length → S.st k ≤ S.st (k + 1)
  lex : ∀ k o, S.ops[k]? = some o → Lex S.X.C S.call S.yld S.ops S.bef S.st S.md S.frs S.Hs S.sv S.Hp k o
  hm : RelM S.D S.V0 S.m0 S.w0
  hf : FrR S.D S.V0 (S.frs 0) S.a0
  hg : Good S.X S.V0
  hl : S.X.LI S.D S.V0 S.w0
  st0 : S.st 0 = S.m0.nxt
  H0 : S.Hs 0 = S.m0.H

noncomputable def RS.ids (S : RS) (k : Nat) : List Nat := orcIds (S.st k) (S.st (k + 1)) (S.md k)

noncomputable def RS.HA (S : RS) (L : Nat → Bool) : Nat → Nat → Option Ob
  | 0, i => (S.Hs 0).get i
  | k + 1, i => if L k = true ∧ i ∈ S.ids k then (S.Hp k).get i else S.HA L k i

noncomputable def RS.FA (S : RS) (L : Nat → Bool) : Nat → Nat → Option SV
  | 0, t => (S.frs 0).tr.get t
  | k + 1, t => if L k = true ∧ dstOf S.ops k = some t then some (S.sv k) else S.FA L k t

section
variable {S : RS} {L : Nat → Bool}

theorem RS.HA_lex (hS : S.OK) {i : Nat} : ∀ k o, k ≤ S.ops.length → (S.Hs k).get i = some o → (∀ j, j < k → i ∈ S.ids j → L j = true) → S.HA L k i = some o := by
  intro k
  induction k with
  | zero => intro o _ h _; exact h
  | succ k ih =>
    intro o hk h hj
    have hL := hS.lex k _ (List.getElem?_eq_getElem (by omega))
    rw [RS.HA]
    rcases hL.next i o h with ⟨h1, h2⟩ | ⟨h1, h2⟩
    · rw [if_pos ⟨hj k (by omega) h1, h1⟩]; exact h2
    · rw [if_neg (fun e => h1 e.2)]
      exact ih o (by omega) h2 (fun j hjk hi => hj j (by omega) hi)

theorem RS.HA_up {i k : Nat} : ∀ n, k ≤ n → (∀ j, k ≤ j → j < n → i ∈ S.ids j → L j = false) → S.HA L n i = S.HA L k i := by
  intro n
  induction n with
  | zero => intro h _; rw [Nat.le_zero.1 h]
  | succ n ih =>
    intro h hj
    rcases Nat.lt_or_ge n k with hlt | hge
    · rw [show k = n + 1 by omega]
    · rw [RS.HA, if_neg (fun e => by have := hj n hge (by omega) e.2; rw [e.1] at this; cases this)]
      exact ih hge (fun j h1 h2 h3 => hj j h1 (by omega) h3)

theorem RS.FA_lex (hS : S.OK) {t : Nat} : ∀ k s, k ≤ S.ops.length → (S.frs k).tr.get t = some s → (∀ j, j < k → dstOf S.ops j = some t → L j = true) → S.FA L k t = some s := by
  intro k
  induction k with
  | zero => intro s _ h _; exact h
  | succ k ih =>
    intro s hk h hj
    have hL := hS.lex k _ (List.getElem?_eq_getElem (by omega))
    have hdst : dstOf S.ops k = (S.ops[k]'(by omega)).dst := by simp [dstOf, List.getElem?_eq_getElem (show k < S.ops.length by omega)]
    have hput := hL.put
    rw [RS.FA]
    cases hd : (S.ops[k]'(by omega)).dst with
    | none =>
      rw [hd] at hput
      simp only [Frm.put, Option.some.injEq] at hput
      rw [← hput] at h
      rw [if_neg (fun e => by rw [hdst, hd] at e; cases e.2)]
      exact ih s (by omega) h (fun j hjk hi => hj j (by omega) hi)
    | some d =>
      rw [hd] at hput
      simp only [Frm.put] at hput
      split at hput
      · have hh := Option.some.inj hput
        rw [← hh] at h
        rcases Tr.get_put _ _ _ _ _ h with ⟨rfl, e⟩ | ⟨hne, h2⟩
        · have e1 : dstOf S.ops k = some t := by rw [hdst, hd]
          rw [if_pos ⟨hj k (by omega) e1, e1⟩]
          exact e
        · rw [if_neg (fun e => hne (by have := e.2; rw [hdst, hd] at this; cases this; rfl))]
          exact ih s (by omega) h2 (fun j hjk hi => hj j (by omega) hi)
      · cases hput

theorem RS.FA_up {t k : Nat} : ∀ n, k ≤ n → (∀ j, k ≤ j → j < n → dstOf S.ops j = some t → L j = false) → S.FA L n t = S.FA L k t := by
  intro n
  induction n with
  | zero => intro h _; rw [Nat.le_zero.1 h]
  | succ n ih =>
    intro h hj
    rcases Nat.lt_or_ge n k with hlt | hge
    · rw [show k = n + 1 by omega]
    · rw [RS.FA, if_neg (fun e => by have := hj n hge (by omega) e.2; rw [e.1] at this; cases this)]
      exact ih hge (fun j h1 h2 h3 => hj j h1 (by omega) h3)

theorem RS.st_le (hS : S.OK) {j : Nat} : ∀ k, j ≤ k → k ≤ S.ops.length → S.st j ≤ S.st k := by
  intro k
  induction k with
  | zero => intro h _; rw [Nat.le_zero.1 h]; exact Nat.le_refl _
  | succ k ih =>
    intro h hk
    rcases Nat.lt_or_ge k j with hlt | hge
    · rw [show j = k + 1 by omega]; exact Nat.le_refl _
    · exact Nat.le_trans (ih hge (by omega)) (hS.mono k (by omega))

/-- An object of the lexical run is of a number below the run's. -/
theorem RS.dom_lt (hS : S.OK) {i : Nat} : ∀ k o, k ≤ S.ops.length → (S.Hs k).get i = some o → i < S.st k := by
  intro k
  induction k with
  | zero => intro o _ h; rw [hS.st0]; rw [hS.H0] at h; exact hS.hm.dom i (hS.hm.ob i o h).1
  | succ k ih =>
    intro o hk h
    have hL := hS.lex k _ (List.getElem?_eq_getElem (by omega))
    have hmn := hS.mono k (by omega)
    rcases hL.next i o h with ⟨h1, _⟩ | ⟨_, h2⟩
    · rcases mem_orcIds.1 h1 with h1 | h1
      · rcases hL.run with ⟨_, _, h3⟩ | ⟨_, _, h3, _⟩
        · rcases h3 i h1 with h4 | h4
          · cases he : (EOf S.ops S.bef S.st S.md k (S.Hs k)).get i with
            | none => exact absurd he h4
            | some o' => have := ih o' (by omega) (eraseIds_get _ _ _ _ he).2; omega
          · exact h4.2
        · rw [h3] at h1; simp at h1
      · exact h1.2
    · have := ih o (by omega) h2; omega

noncomputable def RS.R (S : RS) (L : Nat → Bool) (i : Nat) : Prop := S.D i ∨ ∃ j, j < S.ops.length ∧ L j = true ∧ S.st j ≤ i ∧ i < S.st (j + 1)

structure RInv (S : RS) (L : Nat → Bool) (V : Va) (a : Act) (w : World) : Prop where
  good : Good S.X V
  size : a.tmps.size = (S.frs 0).N
  fa : ∀ t s, S.FA L S.ops.length t = some s → a.tmps[t]? = some (s.val V) ∧ s.on (S.R L)
  ha : ∀ i o, S.HA L S.ops.length i = some o → S.R L i ∧ (∀ x ∈ o.cs, x.on (S.R L)) ∧ ObAt V i o w
  inj : ∀ i j oi oj, S.HA L S.ops.length i = some oi → S.HA L S.ops.length j = some oj → V.blk i = V.blk j → i = j
  agree : S.V0.agree S.D V
  os : w.os = S.w0.os
  tape : w.tape = S.w0.tape
  output : w.output = S.w0.output
  oth : KeepsOthers S.w0 w
  same : ∀ b, b < S.w0.heap.size → (∀ j, j < S.ops.length → L j = true → ∀ i ∈ S.md j, V.blk i ≠ b) → w.heap[b]? = S.w0.heap[b]?
  fresh : ∀ i j, j < S.ops.length → L j = true → S.st j ≤ i → i < S.st (j + 1) → S.w0.heap.size ≤ V.blk i ∨ ∃ j', j' < S.ops.length ∧ L j' = true ∧ ∃ i', i' ∈ S.md j' ∧ S.D i' ∧ S.V0.blk i' = V.blk i
  mds : ∀ j, j < S.ops.length → L j = true → ∀ i ∈ S.md j, S.R L i
  bnd : ∀ j, j < S.ops.length → L j = true → (S.sv j).on (· < S.st (j + 1)) ∧ ∀ i o, i ∈ S.ids j → (S.Hp j).get i = some o → ∀ x ∈ o.cs, x.on (· < S.st (j + 1))
  defers : a.defers = S.a0.defers
  closed : ∀ k o, S.ops[k]? = some o → L k = true → ∀ i ∈ edgesOf o, L i = true

theorem frs_N (hS : S.OK) : ∀ k, k ≤ S.ops.length → (S.frs k).N = (S.frs 0).N := by
  intro k
  induction k with
  | zero => intro _; rfl
  | succ k ih =>
    intro hk
    have hL := hS.lex k _ (List.getElem?_eq_getElem (by omega))
    have hput := hL.put
    rw [← ih (by omega)]
    cases hd : (S.ops[k]'(by omega)).dst with
    | none => rw [hd] at hput; simp only [Frm.put, Option.some.injEq] at hput; rw [hput]
    | some d =>
      rw [hd] at hput
      simp only [Frm.put] at hput
      split at hput
      · have hh := Option.some.inj hput
        rw [← hh]
      · cases hput

theorem FA_bnd (hS : S.OK) {V : Va} {a : Act} {w : World} (h : RInv S L V a w) {t : Nat} : ∀ k s, k ≤ S.ops.length → S.FA L k t = some s → s.on (· < S.st k) := by
  intro k
  induction k with
  | zero =>
    intro s _ hs
    obtain ⟨_, h2⟩ := hS.hf.at_ t s hs
    exact SV.on_mono (fun i hi => by rw [hS.st0]; exact hS.hm.dom i hi) h2
  | succ k ih =>
    intro s hk hs
    rw [RS.FA] at hs
    split at hs
    · rename_i hc
      cases hs
      exact (h.bnd k (by omega) hc.1).1
    · exact SV.on_mono (fun i hi => Nat.lt_of_lt_of_le hi (hS.mono k (by omega))) (ih s (by omega) hs)

theorem HA_bnd (hS : S.OK) {V : Va} {a : Act} {w : World} (h : RInv S L V a w) {i : Nat} : ∀ k o, k ≤ S.ops.length → S.HA L k i = some o → ∀ x ∈ o.cs, x.on (· < S.st k) := by
  intro k
  induction k with
  | zero =>
    intro o _ ho x hx
    have ho' : S.m0.H.get i = some o := by rw [← hS.H0]; exact ho
    obtain ⟨_, h2, _⟩ := hS.hm.ob i o ho'
    exact At.on_mono (fun i hi => by rw [hS.st0]; exact hS.hm.dom i hi) (h2 x hx)
  | succ k ih =>
    intro o hk ho x hx
    rw [RS.HA] at ho
    split at ho
    · rename_i hc
      exact (h.bnd k (by omega) hc.1).2 i o hc.2 ho x hx
    · exact At.on_mono (fun i hi => Nat.lt_of_lt_of_le hi (hS.mono k (by omega))) (ih o (by omega) ho x hx)

theorem at_on_and {p q : Nat → Prop} {x : At} (h1 : x.on p) (h2 : x.on q) : x.on (fun i => p i ∧ q i) := by
  cases x <;> first | exact trivial | exact ⟨h1, h2⟩ | exact fun y hy => ⟨h1 y hy, h2 y hy⟩
theorem sv_on_and {p q : Nat → Prop} {x : SV} (h1 : x.on p) (h2 : x.on q) : x.on (fun i => p i ∧ q i) := by
  cases x <;> first | exact at_on_and h1 h2 | exact fun y hy => at_on_and (h1 y hy) (h2 y hy)

/-- How an operation that may come up now stands to another one. -/
theorem ready_cases (hS : S.OK) {V : Va} {a : Act} {w : World} (h : RInv S L V a w) {k : Nat} {o : Oper} (ho : S.ops[k]? = some o) (hk : L k = false) (he : ∀ i ∈ edgesOf o, L i = true) {j : Nat} (hj : j < S.ops.length) (hne : j ≠ k) (hu : j ∉ unordK S.bef S.ops.length k) :
    (j < k ∧ L j = true) ∨ (k < j ∧ L j = false) := by
  have hcl : ∀ k o, S.ops[k]? = some o → (fun i => L i = true) k → ∀ i ∈ edgesOf o, (fun i => L i = true) i := h.closed
  have hjo : S.ops[j]? = some (S.ops[j]'hj) := List.getElem?_eq_getElem hj
  by_cases hb1 : Nat.testBit (S.bef.getD k 0) j = true
  · exact .inl ⟨bef_lt hS.hb k o ho j hb1, bef_closed hS.hb (L := fun i => L i = true) hcl k o ho he j hb1⟩
  · by_cases hb2 : Nat.testBit (S.bef.getD j 0) k = true
    · refine .inr ⟨bef_lt hS.hb j _ hjo k hb2, ?_⟩
      rw [Bool.eq_false_iff]
      intro hL
      have := bef_closed hS.hb (L := fun i => L i = true) hcl j _ hjo (h.closed j _ hjo hL) k hb2
      rw [hk] at this
      cases this
    · exact absurd (mem_unord.2 ⟨hj, hne, by simpa using hb1, by simpa using hb2⟩) hu

theorem E_HA (hS : S.OK) {V : Va} {a : Act} {w : World} (h : RInv S L V a w) {k : Nat} {o : Oper} (ho : S.ops[k]? = some o) (hk : L k = false) (he : ∀ i ∈ edgesOf o, L i = true) {i : Nat} {ob : Ob} (hi : (EOf S.ops S.bef S.st S.md k (S.Hs k)).get i = some ob) :
    S.HA L S.ops.length i = some ob ∧ S.HA L k i = some ob ∧ ∀ j, k < j → j < S.ops.length → i ∈ S.ids j → L j = false := by
  have hkl : k < S.ops.length := (List.getElem?_eq_some_iff.1 ho).1
  obtain ⟨h1, h2⟩ := eraseIds_get _ _ _ _ hi
  have hu : ∀ j, i ∈ S.ids j → j ∉ unordK S.bef S.ops.length k := fun j hj hu => h1 (List.mem_flatMap.2 ⟨j, hu, hj⟩)
  have e1 : S.HA L k i = some ob := RS.HA_lex hS k ob (by omega) h2 (fun j hj hij => by
    rcases ready_cases hS h ho hk he (by omega) (by omega) (hu j hij) with ⟨_, h3⟩ | ⟨h3, _⟩
    · exact h3
    · omega)
  have e3 : ∀ j, k < j → j < S.ops.length → i ∈ S.ids j → L j = false := fun j hj hjl hij => by
    rcases ready_cases hS h ho hk he hjl (by omega) (hu j hij) with ⟨h3, _⟩ | ⟨_, h3⟩
    · omega
    · exact h3
  have e2 := RS.HA_up (S := S) (L := L) (i := i) (k := k) S.ops.length (by omega) (fun j hj hjl hij => by
    rcases Nat.lt_or_ge k j with h3 | h3
    · exact e3 j h3 hjl hij
    · rw [show j = k by omega]; exact hk)
  exact ⟨e2.trans e1, e1, e3⟩

theorem frk_FA (hS : S.OK) {V : Va} {a : Act} {w : World} (h : RInv S L V a w) {k : Nat} {o : Oper} (ho : S.ops[k]? = some o) (hk : L k = false) (he : ∀ i ∈ edgesOf o, L i = true) {t : Nat} {s : SV} (ht : (frkOf S.ops S.bef k (S.frs k)).tr.get t = some s) :
    S.FA L S.ops.length t = some s ∧ S.FA L k t = some s := by
  have hkl : k < S.ops.length := (List.getElem?_eq_some_iff.1 ho).1
  obtain ⟨h1, h2⟩ := eraseDst_get _ _ _ _ ht
  have hu : ∀ j, dstOf S.ops j = some t → j ∉ unordK S.bef S.ops.length k := fun j hj hu => h1 j hu hj
  have e1 : S.FA L k t = some s := RS.FA_lex hS k s (by omega) h2 (fun j hj hij => by
    rcases ready_cases hS h ho hk he (by omega) (by omega) (hu j hij) with ⟨_, h3⟩ | ⟨h3, _⟩
    · exact h3
    · omega)
  have e2 := RS.FA_up (S := S) (L := L) (t := t) (k := k) S.ops.length (by omega) (fun j hj hjl hij => by
    rcases Nat.lt_or_ge k j with h3 | h3
    · rcases ready_cases hS h ho hk he hjl (by omega) (hu j hij) with ⟨h4, _⟩ | ⟨_, h4⟩
      · omega
      · exact h4
    · rw [show j = k by omega]; exact hk)
  exact ⟨e2.trans e1, e1⟩

/-- One more has come up. -/
noncomputable def upd (L : Nat → Bool) (k : Nat) : Nat → Bool := fun j => if j = k then true else L j

theorem upd_self {k : Nat} : upd L k k = true := by simp [upd]
theorem upd_of {k j : Nat} (h : L j = true) : upd L k j = true := by unfold upd; split <;> simp [h]
theorem upd_ne {k j : Nat} (h : j ≠ k) : upd L k j = L j := by simp [upd, h]
theorem upd_cases {k j : Nat} (h : upd L k j = true) : j = k ∨ L j = true := by
  unfold upd at h
  split at h
  · exact .inl ‹_›
  · exact .inr h

theorem HA_upd {k i : Nat} : ∀ n, (i ∉ S.ids k ∨ n ≤ k) → S.HA (upd L k) n i = S.HA L n i := by
  intro n
  induction n with
  | zero => intro _; rfl
  | succ n ih =>
    intro h
    rw [RS.HA, RS.HA]
    by_cases e : n = k
    · subst e
      rcases h with h | h
      · rw [if_neg (fun e => h e.2), if_neg (fun e => h e.2)]; exact ih (.inl h)
      · omega
    · rw [upd_ne e, ih (by rcases h with h | h; exact .inl h; exact .inr (by omega))]

theorem HA_upd_at {k i : Nat} (hi : i ∈ S.ids k) {n : Nat} (hn : k < n) (hl : ∀ j, k < j → j < n → i ∈ S.ids j → L j = false) : S.HA (upd L k) n i = (S.Hp k).get i := by
  rw [RS.HA_up (S := S) (L := upd L k) (k := k + 1) n hn (fun j h1 h2 h3 => by rw [upd_ne (by omega)]; exact hl j (by omega) h2 h3), RS.HA, if_pos ⟨upd_self, hi⟩]

theorem FA_upd {k t : Nat} : ∀ n, (dstOf S.ops k ≠ some t ∨ n ≤ k) → S.FA (upd L k) n t = S.FA L n t := by
  intro n
  induction n with
  | zero => intro _; rfl
  | succ n ih =>
    intro h
    rw [RS.FA, RS.FA]
    by_cases e : n = k
    · subst e
      rcases h with h | h
      · rw [if_neg (fun e => h e.2), if_neg (fun e => h e.2)]; exact ih (.inl h)
      · omega
    · rw [upd_ne e, ih (by rcases h with h | h; exact .inl h; exact .inr (by omega))]

theorem FA_upd_at (hS : S.OK) {k t : Nat} (hi : dstOf S.ops k = some t) {n : Nat} (hn : k < n) : S.FA (upd L k) n t = some (S.sv k) := by
  rw [RS.FA_up (S := S) (L := upd L k) (k := k + 1) n hn (fun j h1 h2 h3 => absurd hi (hS.hd j k t (by omega) h3)), RS.FA, if_pos ⟨upd_self, hi⟩]

theorem R_upd {k i : Nat} (h : S.R L i) : S.R (upd L k) i := by
  rcases h with h | ⟨j, h1, h2, h3⟩
  · exact .inl h
  · exact .inr ⟨j, h1, upd_of h2, h3⟩

theorem R_lt (hS : S.OK) {k i : Nat} (hk : k < S.ops.length) (hL : L k = false) (h : S.R L i) : i < S.st k ∨ S.st (k + 1) ≤ i := by
  rcases h with h | ⟨j, h1, h2, h3, h4⟩
  · exact .inl (by have := hS.hm.dom i h; rw [← hS.st0] at this; exact Nat.lt_of_lt_of_le this (RS.st_le hS k (by omega) (by omega)))
  · have hne : j ≠ k := fun e => by rw [e, hL] at h2; cases h2
    rcases Nat.lt_or_ge j k with hlt | hge
    · exact .inl (Nat.lt_of_lt_of_le h4 (RS.st_le hS k (by omega) (by omega)))
    · exact .inr (Nat.le_trans (RS.st_le hS j (by omega) (by omega)) h3)
end
end Go.Proofs.YtnkdpcalgllnbaaDoor.Sy
