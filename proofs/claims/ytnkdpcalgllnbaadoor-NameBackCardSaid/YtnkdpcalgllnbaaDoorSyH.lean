/-
  The symbolic run: a region that draws its order: one run in the order of the text, each operation shown only what no operation that may come on either side of it touches, serves every order.
-/
import Derived.Test.YtnkdpcalgllnbaaDoorSyG
import Derived.OrdersIn
namespace Go.Proofs.YtnkdpcalgllnbaaDoor.Sy
open Go Go.RowKit

noncomputable def edgesOf (o : Oper) : List Nat := (o.after.toList.filter fun e => Region.binds .any e).map (·.on)

noncomputable def befStep (bef : List Nat) (o : Oper) : Nat := (edgesOf o).foldl (fun s j => s ||| (2 ^ j ||| bef.getD j 0)) 0

noncomputable def befGo : List Oper → List Nat → List Nat
  | [], acc => acc
  | o :: rest, acc => befGo rest (acc ++ [befStep acc o])

noncomputable def befOK (ops : List Oper) (bef : List Nat) : List Oper → Nat → Bool
  | [], _ => true
  | o :: rest, k => (edgesOf o).all (fun j => Nat.blt j k) && Nat.beq (bef.getD k 0) (befStep bef o) && befOK ops bef rest (k + 1)

noncomputable def unordK (bef : List Nat) (N k : Nat) : List Nat :=
  (List.range N).filter fun j => !(Nat.beq j k) && !(Nat.testBit (bef.getD k 0) j) && !(Nat.testBit (bef.getD j 0) k)

noncomputable def orcIds (n0 n1 : Nat) (mods : List Nat) : List Nat := mods ++ List.range' n0 (n1 - n0)

noncomputable def eraseIds (H : Tr Ob) (l : List Nat) : Tr Ob := l.foldl (fun H i => H.put i none) H

noncomputable def dstOf (ops : List Oper) (j : Nat) : Option Nat := (ops[j]?).bind (·.dst)

noncomputable def eraseDst (ops : List Oper) (t : Tr SV) (l : List Nat) : Tr SV := l.foldl (fun t j => match dstOf ops j with | some d => t.put d none | none => t) t

noncomputable def mergeH (H H' : Tr Ob) (ids : List Nat) : Tr Ob := ids.foldl (fun H i => H.put i (H'.get i)) H

noncomputable def dstNe (ops : List Oper) (j k : Nat) : Bool :=
  match dstOf ops j, dstOf ops k with
  | some a, some b => !(Nat.beq a b)
  | _, _ => true

noncomputable def dstOK (ops : List Oper) : Bool := (List.range ops.length).all fun k => (List.range k).all fun j => dstNe ops j k

noncomputable def natsEq : List Nat → List Nat → Bool
  | [], [] => true
  | a :: l, b :: r => Nat.beq a b && natsEq l r
  | _, _ => false

/-- The first pass, in the text's order: what each operation makes and turns. -/
noncomputable def pass1 (C : Cfg) (call : CallT) (yld : YieldT) (ops : List Oper) : List Oper → Frm → Mem → Option (List Nat × List (List Nat))
  | [], _, m => some ([m.nxt], [])
  | o :: rest, fr, m =>
    match wantedS ops fr o with
    | some true =>
      match stepOp C call yld fr { m with mods := [] } o with
      | some (s, m') => match fr.put o.dst s with
        | some fr' => (pass1 C call yld ops rest fr' m').map fun p => (m.nxt :: p.1, m'.mods :: p.2)
        | none => none
      | none => none
    | some false => match fr.put o.dst (.tup []) with
      | some fr' => (pass1 C call yld ops rest fr' m).map fun p => (m.nxt :: p.1, [] :: p.2)
      | none => none
    | none => none

noncomputable def frkOf (ops : List Oper) (bef : List Nat) (k : Nat) (fr : Frm) : Frm := { fr with tr := eraseDst ops fr.tr (unordK bef ops.length k) }
noncomputable def EOf (ops : List Oper) (bef : List Nat) (st : Nat → Nat) (md : Nat → List Nat) (k : Nat) (H : Tr Ob) : Tr Ob :=
  eraseIds H ((unordK bef ops.length k).flatMap fun j => orcIds (st j) (st (j + 1)) (md j))

/-- The second pass: each operation on what it may see. -/
noncomputable def pass2 (C : Cfg) (call : CallT) (yld : YieldT) (ops : List Oper) (bef : List Nat) (st : Nat → Nat) (md : Nat → List Nat) : Nat → List Oper → Frm → Tr Ob → Option (Frm × Tr Ob)
  | _, [], fr, H => some (fr, H)
  | k, o :: rest, fr, H =>
    match wantedS ops (frkOf ops bef k fr) o with
    | some true =>
      match stepOp C call yld (frkOf ops bef k fr) { H := EOf ops bef st md k H, nxt := st k, mods := [] } o with
      | some (s, m') =>
        if Nat.beq m'.nxt (st (k + 1)) && natsEq m'.mods (md k) && (md k).all (fun i => ((EOf ops bef st md k H).get i).isSome || (Nat.ble (st k) i && Nat.blt i (st (k + 1)))) then
          match fr.put o.dst s with
          | some fr' => pass2 C call yld ops bef st md (k + 1) rest fr' (mergeH H m'.H (orcIds (st k) (st (k + 1)) (md k)))
          | none => none
        else none
      | none => none
    | some false =>
      if Nat.beq (st k) (st (k + 1)) && (md k).isEmpty then
        match fr.put o.dst (.tup []) with
        | some fr' => pass2 C call yld ops bef st md (k + 1) rest fr' H
        | none => none
      else none
    | none => none

noncomputable def drawRun (C : Cfg) (call : CallT) (yld : YieldT) : DrawT := fun ops fr m =>
  match pass1 C call yld ops ops fr m with
  | none => none
  | some (sts, mds) =>
    let bef := befGo ops []
    let st := fun k => sts.getD k 0
    let md := fun k => mds.getD k []
    if befOK ops bef ops 0 && dstOK ops && Nat.beq (st 0) m.nxt && (List.range ops.length).all (fun k => Nat.ble (st k) (st (k + 1))) then
      match pass2 C call yld ops bef st md 0 ops fr m.H with
      | some (fr', H') => some (fr', { H := H', nxt := st ops.length, mods := (List.range ops.length).flatMap md ++ m.mods })
      | none => none
    else none

/-! ### the passes, as facts -/
theorem natsEq_eq : ∀ (l r : List Nat), natsEq l r = true → l = r
  | [], [], _ => rfl
  | a :: l, b :: r, h => by
    simp only [natsEq, Bool.and_eq_true] at h
    rw [Nat.eq_of_beq_eq_true h.1, natsEq_eq l r h.2]
  | [], _ :: _, h => by simp [natsEq] at h
  | _ :: _, [], h => by simp [natsEq] at h

theorem eraseIds_get : ∀ (l : List Nat) (H : Tr Ob) (i : Nat) (o : Ob), (eraseIds H l).get i = some o → i ∉ l ∧ H.get i = some o
  | [], H, i, o, h => ⟨by simp, h⟩
  | j :: l, H, i, o, h => by
    obtain ⟨h1, h2⟩ := eraseIds_get l (H.put j none) i o h
    rcases Tr.get_put _ _ _ _ _ h2 with ⟨_, e⟩ | ⟨hne, h3⟩
    · cases e
    · exact ⟨by simp [hne, h1], h3⟩

theorem eraseDst_get {ops : List Oper} : ∀ (l : List Nat) (T : Tr SV) (t : Nat) (s : SV), (eraseDst ops T l).get t = some s → (∀ j ∈ l, dstOf ops j ≠ some t) ∧ T.get t = some s
  | [], T, t, s, h => ⟨by simp, h⟩
  | j :: l, T, t, s, h => by
    rw [eraseDst, List.foldl_cons] at h
    cases hd : dstOf ops j with
    | none =>
      simp only [hd] at h
      obtain ⟨h1, h2⟩ := eraseDst_get l T t s h
      refine ⟨fun i hi => ?_, h2⟩
      rcases List.mem_cons.1 hi with rfl | hi
      · rw [hd]; simp
      · exact h1 i hi
    | some d =>
      simp only [hd] at h
      obtain ⟨h1, h2⟩ := eraseDst_get l (T.put d none) t s h
      rcases Tr.get_put _ _ _ _ _ h2 with ⟨_, e⟩ | ⟨hne, h3⟩
      · cases e
      · refine ⟨fun i hi => ?_, h3⟩
        rcases List.mem_cons.1 hi with rfl | hi
        · rw [hd]; intro e; cases e; exact hne rfl
        · exact h1 i hi

theorem mergeH_get {H' : Tr Ob} : ∀ (ids : List Nat) (H : Tr Ob) (i : Nat) (o : Ob), (mergeH H H' ids).get i = some o → (i ∈ ids ∧ H'.get i = some o) ∨ (i ∉ ids ∧ H.get i = some o)
  | [], H, i, o, h => .inr ⟨by simp, h⟩
  | j :: ids, H, i, o, h => by
    rcases mergeH_get ids (H.put j (H'.get j)) i o h with ⟨h1, h2⟩ | ⟨h1, h2⟩
    · exact .inl ⟨List.mem_cons_of_mem _ h1, h2⟩
    · rcases Tr.get_put _ _ _ _ _ h2 with ⟨rfl, e⟩ | ⟨hne, h3⟩
      · exact .inl ⟨List.mem_cons_self .., e⟩
      · exact .inr ⟨by simp [hne, h1], h3⟩

theorem mem_orcIds {n0 n1 i : Nat} {md : List Nat} : i ∈ orcIds n0 n1 md ↔ i ∈ md ∨ (n0 ≤ i ∧ i < n1) := by
  unfold orcIds
  rw [List.mem_append, List.mem_range'_1]
  constructor
  · rintro (h | h)
    · exact .inl h
    · exact .inr (by omega)
  · rintro (h | h)
    · exact .inl h
    · exact .inr (by omega)

theorem befOK_spec {ops : List Oper} {bef : List Nat} : ∀ (rest : List Oper) (k : Nat), befOK ops bef rest k = true → ∀ i o, rest[i]? = some o → (∀ j ∈ edgesOf o, j < k + i) ∧ bef.getD (k + i) 0 = befStep bef o
  | [], _, _, i, o, h => by simp at h
  | x :: rest, k, hb, i, o, h => by
    simp only [befOK, Bool.and_eq_true, List.all_eq_true] at hb
    cases i with
    | zero =>
      simp only [List.getElem?_cons_zero, Option.some.injEq] at h
      subst h
      exact ⟨fun j hj => Nat.le_of_ble_eq_true (hb.1.1 j hj), Nat.eq_of_beq_eq_true hb.1.2⟩
    | succ i =>
      rw [List.getElem?_cons_succ] at h
      have := befOK_spec rest (k + 1) hb.2 i o h
      rw [show k + (i + 1) = k + 1 + i by omega]
      exact this

theorem befStep_bit {bef : List Nat} {o : Oper} {j : Nat} (h : Nat.testBit (befStep bef o) j = true) : ∃ i ∈ edgesOf o, j = i ∨ Nat.testBit (bef.getD i 0) j = true := by
  have key : ∀ (l : List Nat) (s : Nat), Nat.testBit (l.foldl (fun s j => s ||| (2 ^ j ||| bef.getD j 0)) s) j = true → Nat.testBit s j = true ∨ ∃ i ∈ l, j = i ∨ Nat.testBit (bef.getD i 0) j = true := by
    intro l
    induction l with
    | nil => intro s h; exact .inl h
    | cons x l ih =>
      intro s h
      rw [List.foldl_cons] at h
      rcases ih _ h with h1 | ⟨i, hi, h1⟩
      · rw [Nat.testBit_or, Nat.testBit_or, Bool.or_eq_true, Bool.or_eq_true, Nat.testBit_two_pow] at h1
        rcases h1 with h1 | h1 | h1
        · exact .inl h1
        · exact .inr ⟨x, List.mem_cons_self .., .inl (of_decide_eq_true h1).symm⟩
        · exact .inr ⟨x, List.mem_cons_self .., .inr h1⟩
      · exact .inr ⟨i, List.mem_cons_of_mem _ hi, h1⟩
  rcases key _ 0 h with h1 | h1
  · simp at h1
  · exact h1

/-- What is before an operation that has come up has come up. -/
theorem bef_closed {ops : List Oper} {bef : List Nat} (hb : befOK ops bef ops 0 = true) {L : Nat → Prop} (hL : ∀ k o, ops[k]? = some o → L k → ∀ i ∈ edgesOf o, L i) :
    ∀ k o, ops[k]? = some o → (∀ i ∈ edgesOf o, L i) → ∀ j, Nat.testBit (bef.getD k 0) j = true → L j := by
  intro k
  induction k using Nat.strongRecOn with
  | _ k ih =>
    intro o ho he j hj
    obtain ⟨h1, h2⟩ := befOK_spec ops 0 hb k o ho
    rw [Nat.zero_add] at h2
    rw [h2] at hj
    obtain ⟨i, hi, hij⟩ := befStep_bit hj
    rcases hij with rfl | hij
    · exact he _ hi
    · have hlt : i < k := by have := h1 i hi; omega
      have hk : k < ops.length := (List.getElem?_eq_some_iff.1 ho).1
      have hio : ops[i]? = some ops[i] := List.getElem?_eq_getElem (by omega)
      exact ih i hlt _ hio (hL i _ hio (he i hi)) j hij

theorem mem_unord {bef : List Nat} {N k j : Nat} : j ∈ unordK bef N k ↔ j < N ∧ j ≠ k ∧ Nat.testBit (bef.getD k 0) j = false ∧ Nat.testBit (bef.getD j 0) k = false := by
  unfold unordK
  rw [List.mem_filter, List.mem_range]
  simp only [Bool.and_eq_true, Bool.not_eq_true']
  constructor
  · rintro ⟨h1, ⟨h2, h3⟩, h4⟩
    exact ⟨h1, (fun e => by rw [e, Nat.beq_refl] at h2; cases h2), h3, h4⟩
  · rintro ⟨h1, h2, h3, h4⟩
    refine ⟨h1, ⟨?_, h3⟩, h4⟩
    rw [Bool.eq_false_iff]
    intro e
    exact h2 (Nat.eq_of_beq_eq_true e)

/-- The run in the text's order, operation by operation. -/
structure Lex (C : Cfg) (call : CallT) (yld : YieldT) (ops : List Oper) (bef : List Nat) (st : Nat → Nat) (md : Nat → List Nat) (frs : Nat → Frm) (Hs : Nat → Tr Ob) (sv : Nat → SV) (Hp : Nat → Tr Ob) (k : Nat) (o : Oper) : Prop where
  put : (frs k).put o.dst (sv k) = some (frs (k + 1))
  run : (wantedS ops (frkOf ops bef k (frs k)) o = some true ∧ stepOp C call yld (frkOf ops bef k (frs k)) { H := EOf ops bef st md k (Hs k), nxt := st k, mods := [] } o = some (sv k, { H := Hp k, nxt := st (k + 1), mods := md k }) ∧
      (∀ i ∈ md k, (EOf ops bef st md k (Hs k)).get i ≠ none ∨ (st k ≤ i ∧ i < st (k + 1)))) ∨
    (wantedS ops (frkOf ops bef k (frs k)) o = some false ∧ st k = st (k + 1) ∧ md k = [] ∧ sv k = .tup [])
  next : ∀ i ob, (Hs (k + 1)).get i = some ob → (i ∈ orcIds (st k) (st (k + 1)) (md k) ∧ (Hp k).get i = some ob) ∨ (i ∉ orcIds (st k) (st (k + 1)) (md k) ∧ (Hs k).get i = some ob)

theorem pass2_lex {C : Cfg} {call : CallT} {yld : YieldT} {ops : List Oper} {bef : List Nat} {st : Nat → Nat} {md : Nat → List Nat} : ∀ (rest : List Oper) (k : Nat) (fr : Frm) (H : Tr Ob) (fr' : Frm) (H' : Tr Ob),
    pass2 C call yld ops bef st md k rest fr H = some (fr', H') → ∃ (frs : Nat → Frm) (Hs : Nat → Tr Ob) (sv : Nat → SV) (Hp : Nat → Tr Ob), frs k = fr ∧ Hs k = H ∧ frs (k + rest.length) = fr' ∧ Hs (k + rest.length) = H' ∧
      ∀ i o, rest[i]? = some o → Lex C call yld ops bef st md frs Hs sv Hp (k + i) o := by
  intro rest
  induction rest with
  | nil =>
    intro k fr H fr' H' h
    simp only [pass2, Option.some.injEq, Prod.mk.injEq] at h
    obtain ⟨rfl, rfl⟩ := h
    exact ⟨fun _ => fr, fun _ => H, fun _ => .tup [], fun _ => H, rfl, rfl, rfl, rfl, fun i o hi => by simp at hi⟩
  | cons o rest ih =>
    intro k fr H fr' H' h
    have join : ∀ (s : SV) (fr1 : Frm) (H1 Hq : Tr Ob), pass2 C call yld ops bef st md (k + 1) rest fr1 H1 = some (fr', H') → fr.put o.dst s = some fr1 →
        ((wantedS ops (frkOf ops bef k fr) o = some true ∧ stepOp C call yld (frkOf ops bef k fr) { H := EOf ops bef st md k H, nxt := st k, mods := [] } o = some (s, { H := Hq, nxt := st (k + 1), mods := md k }) ∧
          (∀ i ∈ md k, (EOf ops bef st md k H).get i ≠ none ∨ (st k ≤ i ∧ i < st (k + 1)))) ∨ (wantedS ops (frkOf ops bef k fr) o = some false ∧ st k = st (k + 1) ∧ md k = [] ∧ s = .tup [])) →
        (∀ i ob, H1.get i = some ob → (i ∈ orcIds (st k) (st (k + 1)) (md k) ∧ Hq.get i = some ob) ∨ (i ∉ orcIds (st k) (st (k + 1)) (md k) ∧ H.get i = some ob)) →
        ∃ (frs : Nat → Frm) (Hs : Nat → Tr Ob) (sv : Nat → SV) (Hp : Nat → Tr Ob), frs k = fr ∧ Hs k = H ∧ frs (k + (o :: rest).length) = fr' ∧ Hs (k + (o :: rest).length) = H' ∧
          ∀ i x, (o :: rest)[i]? = some x → Lex C call yld ops bef st md frs Hs sv Hp (k + i) x := by
      intro s fr1 H1 Hq h1 h2 h3 h4
      obtain ⟨frs, Hs, sv, Hp, e1, e2, e3, e4, e5⟩ := ih (k + 1) fr1 H1 fr' H' h1
      have hne : ∀ i, k + 1 + i ≠ k := fun i => by omega
      refine ⟨fun j => if j = k then fr else frs j, fun j => if j = k then H else Hs j, fun j => if j = k then s else sv j, fun j => if j = k then Hq else Hp j, by simp, by simp, ?_, ?_, ?_⟩
      · simp only [List.length_cons]
        rw [if_neg (by omega), ← e3]
        congr 1
        omega
      · simp only [List.length_cons]
        rw [if_neg (by omega), ← e4]
        congr 1
        omega
      · intro i x hi
        cases i with
        | zero =>
          simp only [List.getElem?_cons_zero, Option.some.injEq] at hi
          subst hi
          rw [Nat.add_zero]
          exact ⟨by simpa [e1] using h2, by simpa using h3, by simpa [e2] using h4⟩
        | succ i =>
          rw [List.getElem?_cons_succ] at hi
          have hL := e5 i x hi
          rw [show k + (i + 1) = k + 1 + i by omega]
          have q1 : ¬ k + 1 + i = k := by omega
          have q2 : ¬ k + 1 + i + 1 = k := by omega
          exact ⟨by simp only [q1, q2, if_false]; exact hL.put, by simp only [q1, if_false]; exact hL.run, by simp only [q1, q2, if_false]; exact hL.next⟩
    rw [pass2] at h
    split at h
    · rename_i hw
      split at h
      · rename_i s m' hs
        split at h
        · rename_i hc
          simp only [Bool.and_eq_true, List.all_eq_true, Bool.or_eq_true] at hc
          split at h
          · rename_i fr1 hp
            obtain ⟨Hq, nx, mo⟩ := m'
            have hc1 := Nat.eq_of_beq_eq_true hc.1.1
            have hc2 := natsEq_eq _ _ hc.1.2
            simp only at hc1 hc2
            subst hc1; subst hc2
            refine join s fr1 _ Hq h hp (.inl ⟨hw, hs, fun i hi => ?_⟩) (fun i ob hi => mergeH_get _ _ _ _ hi)
            rcases hc.2 i hi with h1 | h1
            · exact .inl (fun e => by rw [e] at h1; cases h1)
            · exact .inr ⟨Nat.le_of_ble_eq_true h1.1, Nat.le_of_ble_eq_true h1.2⟩
          · cases h
        · cases h
      · cases h
    · rename_i hw
      split at h
      · rename_i hc
        simp only [Bool.and_eq_true, List.isEmpty_iff] at hc
        have hc1 := Nat.eq_of_beq_eq_true hc.1
        split at h
        · rename_i fr1 hp
          refine join (.tup []) fr1 H H h hp (.inr ⟨hw, hc1, hc.2, rfl⟩) (fun i ob hi => .inr ⟨?_, hi⟩)
          rw [mem_orcIds, hc.2]
          rintro (h1 | h1)
          · simp at h1
          · omega
        · cases h
      · cases h
    · cases h
end Go.Proofs.YtnkdpcalgllnbaaDoor.Sy
