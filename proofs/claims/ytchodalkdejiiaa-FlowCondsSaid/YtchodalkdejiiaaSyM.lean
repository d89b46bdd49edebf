/-
  The symbolic run: what a run on letters tells of every call of that shape (some one-cell values and a slice).
-/
import Derived.Test.YtchodalkdejiiaaSyL
namespace Go.Proofs.Ytchodalkdejiiaa.Sy
open Go Go.RowKit

/-- the arguments' shape: all alone; or fields of a struct, with given things behind it. -/
inductive Kd where
  | flat
  | agg (trail : List SV)

noncomputable def mkArgs : Kd → List At → At → List SV
  | .flat, l, a => (l ++ [a]).map .one
  | .agg tr, l, a => .agg (l ++ [a]) :: tr

noncomputable def splitLast : List At → Option (List At × At)
  | [] => none
  | [a] => some ([], a)
  | a :: l => (splitLast l).map fun p => (a :: p.1, p.2)

noncomputable def ones : List SV → Option (List At)
  | [] => some []
  | .one a :: l => (ones l).map (a :: ·)
  | _ => none

/-- trails that are known: an empty struct; a number. -/
noncomputable def trailEq : List SV → List SV → Bool
  | [.agg []], [.agg []] => true
  | [.one (.lit (.int .i64 (.ofNat a)))], [.one (.lit (.int .i64 (.ofNat b)))] => Nat.beq a b
  | _, _ => false

noncomputable def deArgs : Kd → List SV → Option (List At × At)
  | .flat, args => (ones args).bind splitLast
  | .agg tr, .agg l :: tr' => if trailEq tr tr' then splitLast l else none
  | _, _ => none

theorem splitLast_spec : ∀ (l q : List At) (a : At), splitLast l = some (q, a) → l = q ++ [a]
  | [], _, _, h => by simp [splitLast] at h
  | [b], q, a, h => by
    simp only [splitLast, Option.some.injEq, Prod.mk.injEq] at h
    obtain ⟨rfl, rfl⟩ := h
    rfl
  | b :: c :: l, q, a, h => by
    simp only [splitLast, Option.map_eq_some_iff] at h
    obtain ⟨⟨q', a'⟩, h1, h2⟩ := h
    cases h2
    rw [splitLast_spec (c :: l) q' a' h1]
    rfl
theorem ones_spec : ∀ (l : List SV) (q : List At), ones l = some q → l = q.map .one
  | [], q, h => by simp only [ones, Option.some.injEq] at h; subst h; rfl
  | .one a :: l, q, h => by
    simp only [ones, Option.map_eq_some_iff] at h
    obtain ⟨q', h1, rfl⟩ := h
    rw [ones_spec l q' h1]
    rfl
  | .agg _ :: _, _, h => by simp [ones] at h
  | .tup _ :: _, _, h => by simp [ones] at h
theorem trailEq_spec {a b : List SV} (h : trailEq a b = true) : a = b ∧ ∀ al ph, a.map (SV.sub al ph) = a ∧ ∀ D, ∀ s ∈ a, s.on D := by
  unfold trailEq at h
  split at h
  · exact ⟨rfl, fun al ph => ⟨rfl, fun D s hs => by simp at hs; subst hs; intro x hx; simp at hx⟩⟩
  · rw [Nat.eq_of_beq_eq_true h]
    exact ⟨rfl, fun al ph => ⟨rfl, fun D s hs => by simp at hs; subst hs; trivial⟩⟩
  · cases h
theorem deArgs_spec {K : Kd} {args : List SV} {l : List At} {a : At} (h : deArgs K args = some (l, a)) : args = mkArgs K l a ∧ ∀ tr, K = .agg tr → ∀ al ph, tr.map (SV.sub al ph) = tr ∧ ∀ D, ∀ s ∈ tr, s.on D := by
  cases K with
  | flat =>
    simp only [deArgs] at h
    cases h1 : ones args with
    | none => simp [h1] at h
    | some q =>
      simp only [h1, Option.bind_some] at h
      refine ⟨?_, fun tr e => by cases e⟩
      rw [ones_spec _ _ h1, splitLast_spec _ _ _ h]
      rfl
  | agg tr =>
    unfold deArgs at h
    split at h
    · rename_i e; cases e
    · rename_i tr1 l' tr' e1
      cases e1
      split at h
      · rename_i ht
        obtain ⟨e, hh⟩ := trailEq_spec ht
        refine ⟨?_, fun tr e => by cases e; exact hh⟩
        rw [splitLast_spec _ _ _ h, ← e]
        rfl
      · cases h
    · cases h

structure Tm where
  c : Nat
  t : Nat
  sz : Nat
  n : Nat
  r : SV
  m' : Mem

noncomputable def Tm.n0 (T : Tm) : Nat := if Nat.beq T.n 0 then 0 else 1
noncomputable def Tm.a0 (T : Tm) : At := if Nat.beq T.n 0 then .lit (.slice none 0 0) else .sl 0 T.n
noncomputable def Tm.m0 (T : Tm) : Mem := if Nat.beq T.n 0 then Mem.empty else { H := Tr.nil.put 0 (some { t := T.t, sz := T.sz, cs := (List.range (T.n * T.sz)).map fun j => .sym (T.c + j) }), nxt := 1, mods := [] }
noncomputable def Tm.l0 (T : Tm) : List At := (List.range T.c).map .sym

/-- The run on letters was made. -/
structure Tm.OK (T : Tm) (call0 : CallT) (f : Nat) (K : Kd) : Prop where
  run : call0 f (mkArgs K T.l0 T.a0) T.m0 = some (T.r, T.m')
  mods : T.m'.mods.all (fun i => Nat.ble T.n0 i) = true

noncomputable def alOf (l q : List At) (k : Nat) : At := (l ++ q).getD k (.lit (.bool false))

noncomputable def tmGive (T : Tm) (m : Mem) (l q : List At) (id : Nat) : SV × Mem :=
  (T.r.sub (alOf l q) (phx m T.n0 fun _ => id), reloc m T.n0 T.m' (alOf l q) fun _ => id)

noncomputable def tmTry (T : Tm) (l : List At) (a : At) (m : Mem) : Option (SV × Mem) :=
  if Nat.beq l.length T.c && l.all At.oneC then
    match a with
    | .lit (.slice none 0 0) => if Nat.beq T.n 0 then some (tmGive T m l [] 0) else none
    | .sl id n =>
      if Nat.beq n T.n && !(Nat.beq T.n 0) then
        match m.H.get id with
        | some o => if Nat.beq o.t T.t && Nat.beq o.sz T.sz && Nat.beq (o.cs.take (T.n * T.sz)).length (T.n * T.sz) && (o.cs.take (T.n * T.sz)).all At.oneC then some (tmGive T m l (o.cs.take (T.n * T.sz)) id) else none
        | none => none
      else none
    | _ => none
  else none

noncomputable def tmSum (K : Kd) : List Tm → List SV → Mem → Option (SV × Mem)
  | [], _, _ => none
  | T :: Ts, args, m =>
    match deArgs K args with
    | none => none
    | some (l, a) => match tmTry T l a m with
      | some r => some r
      | none => tmSum K Ts args m

theorem alOf_left {l q : List At} {k : Nat} (h : k < l.length) : alOf l q k = l[k] := by
  simp [alOf, List.getD_eq_getElem?_getD, List.getElem?_append_left h, h]
theorem alOf_right {l q : List At} {j : Nat} : alOf l q (l.length + j) = q.getD j (.lit (.bool false)) := by
  unfold alOf
  rw [List.getD_eq_getElem?_getD, List.getD_eq_getElem?_getD, List.getElem?_append_right (by omega), Nat.add_sub_cancel_left]
theorem alOf_all {p : At → Prop} {l q : List At} (hl : ∀ a ∈ l, p a) (hq : ∀ a ∈ q, p a) (h0 : p (.lit (.bool false))) (k : Nat) : p (alOf l q k) := by
  unfold alOf
  rw [List.getD_eq_getElem?_getD]
  cases hk : (l ++ q)[k]? with
  | none => exact h0
  | some a =>
    have := List.mem_of_getElem? hk
    rcases List.mem_append.1 this with h | h
    · exact hl a h
    · exact hq a h
theorem l0_sub {T : Tm} {l q : List At} {ph : Nat → Nat} (h : l.length = T.c) : T.l0.map (At.sub (alOf l q) ph) = l := by
  unfold Tm.l0
  rw [List.map_map]
  apply List.ext_getElem
  · simp [h]
  · intro i h1 h2
    simp only [List.getElem_map, List.getElem_range, Function.comp, At.sub]
    exact alOf_left h2

theorem mk_sub {K : Kd} (hK : ∀ tr, K = .agg tr → ∀ al ph, tr.map (SV.sub al ph) = tr ∧ ∀ D, ∀ s ∈ tr, s.on D) (al : Nat → At) (ph : Nat → Nat) (l : List At) (a : At) : (mkArgs K l a).map (SV.sub al ph) = mkArgs K (l.map (At.sub al ph)) (a.sub al ph) := by
  cases K with
  | flat => simp [mkArgs, SV.sub]
  | agg tr => simp [mkArgs, SV.sub, (hK tr rfl al ph).1]
theorem mk_on {K : Kd} (hK : ∀ tr, K = .agg tr → ∀ al ph, tr.map (SV.sub al ph) = tr ∧ ∀ D, ∀ s ∈ tr, s.on D) {D : Nat → Prop} {l : List At} {a : At} : (∀ s ∈ mkArgs K l a, s.on D) ↔ ∀ x ∈ l ++ [a], x.on D := by
  cases K with
  | flat =>
    constructor
    · intro h x hx
      exact h (.one x) (List.mem_map.2 ⟨x, hx, rfl⟩)
    · intro h s hs
      obtain ⟨x, hx, rfl⟩ := List.mem_map.1 hs
      exact h x hx
  | agg tr =>
    constructor
    · intro h
      exact h (.agg (l ++ [a])) (List.mem_cons_self ..)
    · intro h s hs
      rcases List.mem_cons.1 hs with rfl | hs
      · exact h
      · exact (hK tr rfl (fun _ => .yld) id).2 D s hs

theorem tmTry_sound {X : Ctx} {C0 : Cfg} {call0 : CallT} (hX : XOK X) (hP : C0.P = X.C.P) (hC0 : ∀ S : Nat → Value, (∀ k, (S k).oneCell' = true) → CallOK { C := C0, S := S, lp := X.lp, LI := fun _ _ _ => True } call0) {f : FuncId} {K : Kd} {T : Tm} (hT : T.OK call0 f K)
    {args : List SV} {l : List At} {a : At} (hde : deArgs K args = some (l, a)) {m : Mem} {r : SV} {m' : Mem} (h : tmTry T l a m = some (r, m')) {D : Nat → Prop} {V : Va} {w : World} (hg : Good X V) (hm : RelM D V m w) (hargs : ∀ s ∈ args, s.on D) :
    Calls X.C.P f (args.map (SV.val V)).toArray w (Gives D V w m r m') := by
  obtain ⟨rfl, hK⟩ := deArgs_spec hde
  have hon := (mk_on hK).1 hargs
  have hmods : ∀ i ∈ T.m'.mods, T.n0 ≤ i := fun i hi => Nat.le_of_ble_eq_true (List.all_eq_true.1 hT.mods i hi)
  unfold tmTry at h
  split at h
  case isFalse => cases h
  rename_i hc
  simp only [Bool.and_eq_true, List.all_eq_true] at hc
  have hlen : l.length = T.c := Nat.eq_of_beq_eq_true hc.1
  have lay : ∀ (q : List At) (id : Nat), (∀ x ∈ q, x.on D) → (∀ x ∈ q, x.oneC = true) → (T.n ≠ 0 → D id) → T.m0.nxt = T.n0 → T.m0.mods = [] → T.a0.sub (alOf l q) (fun _ => id) = a → (T.a0.on (· < T.m0.nxt)) →
      (∀ i o0, T.m0.H.get i = some o0 → i < T.m0.nxt ∧ (∀ a ∈ o0.cs, a.on (· < T.m0.nxt)) ∧ ∃ o, m.H.get id = some o ∧ o0.t = o.t ∧ o0.sz = o.sz ∧ ∀ (j : Nat) (a : At), o0.cs[j]? = some a → o.cs[j]? = some (a.sub (alOf l q) fun _ => id)) →
      Calls X.C.P f ((mkArgs K l a).map (SV.val V)).toArray w (Gives D V w m (tmGive T m l q id).1 (tmGive T m l q id).2) := by
    intro q id hq1 hq2 hid hn0 hmo ha ha0 hob
    have key := lay_call hP hC0 hT.run (by rw [hn0]; exact hmods) hmo hX hg hm (alOf l q) (fun _ => id) (alOf_all (p := fun a => a.on D) (fun x hx => hon x (List.mem_append.2 (.inl hx))) hq1 trivial) (alOf_all (p := fun a => a.oneC = true) hc.2 hq2 rfl)
      (fun i hi => hid (by intro e; rw [hn0] at hi; simp [Tm.n0, e] at hi)) (fun i j hi hj _ => by rw [hn0] at hi hj; unfold Tm.n0 at hi hj; split at hi <;> simp_all) ((mk_on hK).2 fun x hx => by
        rcases List.mem_append.1 hx with hx | hx
        · simp only [Tm.l0, List.mem_map] at hx
          obtain ⟨k, _, rfl⟩ := hx
          trivial
        · simp at hx; subst hx; exact ha0) hob
    have hav : ((mkArgs K T.l0 T.a0).map fun s => (s.sub (alOf l q) fun _ => id).val V) = (mkArgs K l a).map (SV.val V) := by
      have := congrArg (List.map (SV.val V)) (mk_sub hK (alOf l q) (fun _ => id) T.l0 T.a0)
      rw [l0_sub hlen, ha, List.map_map] at this
      exact this
    rw [hav, hn0] at key
    exact key
  split at h
  · split at h
    case isFalse => cases h
    rename_i hn
    cases h
    have hn' : T.n = 0 := Nat.eq_of_beq_eq_true hn
    refine lay [] 0 (fun x hx => by simp at hx) (fun x hx => by simp at hx) (fun h => absurd hn' h) ?_ ?_ ?_ ?_ ?_
    · simp [Tm.m0, Tm.n0, hn', Mem.empty]
    · simp [Tm.m0, hn', Mem.empty]
    · simp [Tm.a0, hn', At.sub]
    · simp [Tm.a0, hn', At.on]
    · intro i o0 hi
      simp [Tm.m0, hn', Mem.empty, Tr.get_nil] at hi
  · rename_i id n
    split at h
    case isFalse => cases h
    rename_i hn
    simp only [Bool.and_eq_true, Bool.not_eq_true'] at hn
    have e1 : n = T.n := Nat.eq_of_beq_eq_true hn.1
    have e2 : T.n ≠ 0 := fun e => by rw [e] at hn; simp at hn
    split at h
    case h_2 => cases h
    rename_i o ho
    split at h
    case isFalse => cases h
    rename_i hq
    simp only [Bool.and_eq_true, List.all_eq_true] at hq
    obtain ⟨⟨⟨q1, q2⟩, q3⟩, q4⟩ := hq
    have q1 := Nat.eq_of_beq_eq_true q1
    have q2 := Nat.eq_of_beq_eq_true q2
    have q3 := Nat.eq_of_beq_eq_true q3
    cases h
    obtain ⟨hD, hoon, _⟩ := hm.ob id o ho
    have hnb : Nat.beq T.n 0 = false := hn.2
    refine lay (o.cs.take (T.n * T.sz)) id (fun x hx => hoon x (List.mem_of_mem_take hx)) q4 (fun _ => hD) ?_ ?_ ?_ ?_ ?_
    · simp [Tm.m0, Tm.n0, hnb]
    · simp [Tm.m0, hnb]
    · simp [Tm.a0, hnb, At.sub, e1]
    · simp [Tm.a0, Tm.m0, hnb, At.on]
    · intro i o0 hi
      simp only [Tm.m0, hnb, Bool.false_eq_true, if_false] at hi ⊢
      rcases Tr.get_put _ _ _ _ _ hi with ⟨rfl, e⟩ | ⟨_, h2⟩
      · cases e
        refine ⟨Nat.zero_lt_one, fun x hx => ?_, o, ho, q1.symm, q2.symm, fun j x hj => ?_⟩
        · simp only [List.mem_map] at hx
          obtain ⟨k, _, rfl⟩ := hx
          trivial
        · simp only [List.getElem?_map, Option.map_eq_some_iff] at hj
          obtain ⟨k, hk, rfl⟩ := hj
          have hkl : j < T.n * T.sz := by simpa using (List.getElem?_eq_some_iff.1 hk).1
          have hkj : k = j := by
            rw [List.getElem?_range hkl] at hk
            exact (Option.some.inj hk).symm
          subst hkj
          simp only [At.sub]
          rw [← hlen, alOf_right, List.getD_eq_getElem?_getD]
          have hget : (o.cs.take (T.n * T.sz))[k]? = some ((o.cs.take (T.n * T.sz))[k]'(by omega)) := List.getElem?_eq_getElem (by omega)
          rw [hget]
          have := hget
          rw [List.getElem?_take, if_pos hkl] at this
          exact this
      · simp [Tr.get_nil] at h2
  · cases h

theorem tmSum_sound {X : Ctx} {C0 : Cfg} {call0 : CallT} (hX : XOK X) (hP : C0.P = X.C.P) (hC0 : ∀ S : Nat → Value, (∀ k, (S k).oneCell' = true) → CallOK { C := C0, S := S, lp := X.lp, LI := fun _ _ _ => True } call0) {f : FuncId} {K : Kd}
    {args : List SV} {m : Mem} {r : SV} {m' : Mem} {D : Nat → Prop} {V : Va} {w : World} (hg : Good X V) (hm : RelM D V m w) (hargs : ∀ s ∈ args, s.on D) : ∀ (Ts : List Tm), (∀ T ∈ Ts, T.OK call0 f K) → tmSum K Ts args m = some (r, m') →
    Calls X.C.P f (args.map (SV.val V)).toArray w (Gives D V w m r m') := by
  intro Ts
  induction Ts with
  | nil => intro _ h; simp [tmSum] at h
  | cons T Ts ih =>
    intro hT h
    rw [tmSum] at h
    split at h
    · cases h
    · rename_i l a hde
      split at h
      · rename_i q hq
        cases h
        exact tmTry_sound hX hP hC0 (hT T (List.mem_cons_self ..)) hde hq hg hm hargs
      · exact ih (fun T hT' => hT T (List.mem_cons_of_mem _ hT')) h
end Go.Proofs.Ytchodalkdejiiaa.Sy
