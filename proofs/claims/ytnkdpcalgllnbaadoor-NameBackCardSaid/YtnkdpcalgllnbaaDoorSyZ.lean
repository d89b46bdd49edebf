/-
  The symbolic run: a function that ranges over the words of a text: its prefix, one round that misses and one that hits (on letters), its end.
-/
import Derived.Test.YtnkdpcalgllnbaaDoorNaA
import Derived.Test.YtnkdpcalgllnbaaDoorSyXd
import Derived.RangeFuncLeaves
import Derived.RangeFuncRecord
namespace Go.Proofs.YtnkdpcalgllnbaaDoor.Sy
open Go Go.RowKit Go.Proofs.YtnkdpcalgllnbaaDoor.Na

/-! ### Letters that turn from round to round: 7: the word; 20: its number from nought on; 21: from one on -/
noncomputable def turns (j : Nat) : Bool := Nat.beq j 7 || Nat.beq j 20 || Nat.beq j 21
noncomputable def Sw (S : Nat → Value) (ws : List (List UInt8)) (k : Nat) : Nat → Value := fun j =>
  if Nat.beq j 7 then .string ⟨(ws.getD k []).toArray⟩ else if Nat.beq j 20 then .int .i64 (k : Int) else if Nat.beq j 21 then .int .i64 ((k + 1 : Nat) : Int) else S j
theorem Sw_7 (S : Nat → Value) (ws : List (List UInt8)) (k : Nat) : Sw S ws k 7 = .string ⟨(ws.getD k []).toArray⟩ := rfl
theorem Sw_20 (S : Nat → Value) (ws : List (List UInt8)) (k : Nat) : Sw S ws k 20 = .int .i64 (k : Int) := rfl
theorem Sw_21 (S : Nat → Value) (ws : List (List UInt8)) (k : Nat) : Sw S ws k 21 = .int .i64 ((k + 1 : Nat) : Int) := rfl
theorem Sw_one {S : Nat → Value} (h : ∀ k, (S k).oneCell' = true) (ws : List (List UInt8)) (k : Nat) : ∀ j, (Sw S ws k j).oneCell' = true := by
  intro j
  unfold Sw
  split
  · rfl
  · split
    · rfl
    · split
      · rfl
      · exact h j
theorem Sw_else {S : Nat → Value} {ws : List (List UInt8)} {k j : Nat} (h : turns j = false) : Sw S ws k j = S j := by
  simp only [turns, Bool.or_eq_false_iff] at h
  unfold Sw
  rw [if_neg (by rw [h.1.1]; simp), if_neg (by rw [h.1.2]; simp), if_neg (by rw [h.2]; simp)]

/-- An atom that no turning letter is in. -/
noncomputable def At.calm : At → Bool
  | .sym j => !turns j
  | .yld => false
  | _ => true
noncomputable def SV.calm : SV → Bool
  | .one a => a.calm
  | .agg l => l.all At.calm
  | .tup l => l.all At.calm
noncomputable def memCalm (m : Mem) : Bool := (List.range m.nxt).all fun i => match m.H.get i with | some o => o.cs.all At.calm | none => true
noncomputable def frCalm (fr : Frm) : Bool := (List.range fr.N).all fun t => match fr.tr.get t with | some s => s.calm | none => true

noncomputable def Va.withS (V : Va) (S : Nat → Value) : Va := { V with sym := S }
theorem At.val_calm {V : Va} {S : Nat → Value} {ws : List (List UInt8)} {k : Nat} (hs : V.sym = S) {a : At} (h : a.calm = true) : a.val (V.withS (Sw S ws k)) = a.val V := by
  cases a with
  | sym j =>
    simp only [At.val, Va.withS, hs]
    exact Sw_else (by simpa [At.calm] using h)
  | _ => rfl
theorem SV.val_calm {V : Va} {S : Nat → Value} {ws : List (List UInt8)} {k : Nat} (hs : V.sym = S) {s : SV} (h : s.calm = true) : s.val (V.withS (Sw S ws k)) = s.val V := by
  cases s with
  | one a => exact At.val_calm hs h
  | agg q =>
    simp only [SV.val]
    rw [List.map_congr_left fun a ha => At.val_calm hs (List.all_eq_true.1 h a ha)]
  | tup q =>
    simp only [SV.val]
    rw [List.map_congr_left fun a ha => At.val_calm hs (List.all_eq_true.1 h a ha)]
theorem FrR.calm {D : Nat → Prop} {V : Va} {S : Nat → Value} {ws : List (List UInt8)} {k : Nat} {fr : Frm} {a : Act} (h : FrR D V fr a) (hs : V.sym = S) (hy : frCalm fr = true) : FrR D (V.withS (Sw S ws k)) fr a := by
  refine ⟨h.size, fun t s ht => ?_⟩
  obtain ⟨h1, h2⟩ := h.at_ t s ht
  have hlt : t < fr.N := by rw [← h.size]; exact (Array.getElem?_eq_some_iff.1 h1).1
  have := List.all_eq_true.1 hy t (List.mem_range.2 hlt)
  simp only [ht] at this
  rw [SV.val_calm hs this]
  exact ⟨h1, h2⟩

/-- **A MEMORY SAID ANEW.** -/
theorem RelM.anew {D D' : Nat → Prop} {V V' : Va} {m M : Mem} {w : World} (h : RelM D' V' m w) (hd : ∀ i, D i → i < M.nxt) (hm : ∀ i ∈ M.mods, D i)
    (hob : ∀ i o, M.H.get i = some o → D i ∧ (∀ a ∈ o.cs, a.on D) ∧ V.blk i = V'.blk i ∧ V.cap i = V'.cap i ∧ ∃ o', m.H.get i = some o' ∧ o'.t = o.t ∧ o'.sz = o.sz ∧ (o.full = true → o'.full = true) ∧ o.cs.length = o'.cs.length ∧ ∀ (j : Nat) (a : At), o.cs[j]? = some a → ∃ a', o'.cs[j]? = some a' ∧ a'.val V' = a.val V) :
    RelM D V M w := by
  refine ⟨hd, fun i o hi => ?_, fun i j oi oj hi hj hb => ?_, hm⟩
  · obtain ⟨h1, h2, h3, h4, o', h5, h6, h7, h8, h9, h10⟩ := hob i o hi
    obtain ⟨_, _, h11⟩ := h.ob i o' h5
    obtain ⟨cur, c1, c2, c3, c4, c5⟩ := h11.ex
    refine ⟨h1, h2, ⟨⟨cur, by rw [h3, c1, h6], by rw [h4, c2, h7], by rw [h4]; exact c3, by rw [h9]; exact c4, fun j a hj => ?_⟩, fun hf => ?_⟩⟩
    · obtain ⟨a', e1, e2⟩ := h10 j a hj
      rw [← e2]
      exact c5 j a' e1
    · rw [h9, h4, ← h7]
      exact h11.all (h8 hf)
  · obtain ⟨_, _, h3, _, o', h5, _⟩ := hob i oi hi
    obtain ⟨_, _, g3, _, o'', g5, _⟩ := hob j oj hj
    rw [h3, g3] at hb
    exact h.inj i j o' o'' h5 g5 hb

theorem Tr.put_ne {α : Type} (t : Tr α) : ∀ (k : Nat) (x : Option α) (m : Nat) (u : α), m ≠ k → t.get m = some u → (t.put k x).get m = some u := by
  induction t with
  | nil => intro k x m u _ h; cases h
  | node v l r ihl ihr =>
    intro k x m u hne h
    rw [Tr.get_node] at h
    rw [Tr.put_node]
    by_cases h0 : k = 0
    · subst h0
      rw [show Nat.beq 0 0 = true from rfl]
      simp only [cond_true, Tr.get_node]
      rw [if_neg hne] at h ⊢
      exact h
    · rw [show Nat.beq k 0 = false by rw [Tr.beq0]; simpa using h0]
      simp only [cond_false]
      by_cases h1 : m = 0
      · subst h1
        rw [if_pos rfl] at h
        cases Nat.beq ((k - 1) % 2) 0 <;> simp only [cond_true, cond_false, Tr.get_node, if_pos] <;> exact h
      · rw [if_neg h1] at h
        cases hk : Nat.beq ((k - 1) % 2) 0 with
        | true =>
          rw [Tr.beq0] at hk
          have hk' : (k - 1) % 2 = 0 := by simpa using hk
          simp only [cond_true, Tr.get_node, if_neg h1]
          by_cases hm : (m - 1) % 2 = 0
          · rw [if_pos hm] at h ⊢
            exact ihl _ x _ u (fun e => hne (key_split h1 h0 (by omega) e)) h
          · rw [if_neg hm] at h ⊢
            exact h
        | false =>
          rw [Tr.beq0] at hk
          have hk' : ¬ (k - 1) % 2 = 0 := by simpa using hk
          simp only [cond_false, Tr.get_node, if_neg h1]
          by_cases hm : (m - 1) % 2 = 0
          · rw [if_pos hm] at h ⊢
            exact h
          · rw [if_neg hm] at h ⊢
            exact ihr _ x _ u (fun e => hne (key_split h1 h0 (by omega) e)) h

theorem below_step {D : Nat → Prop} {V V' : Va} {w0 w w' : World} {m m' : Mem} (h : StepM D V w m V' w' m') (hm : RelM (Dn D m.nxt m'.nxt) V' m' w') (hD : ∀ i, D i → w0.heap.size ≤ V.blk i) (h0 : w0.heap.size ≤ w.heap.size) : Below w0.heap.size w w' :=
  ⟨h.os, h.tape, h.output, h.oth.size, fun b hb => h.same b (by omega) fun i hi => by
    rcases hm.mlt i hi with h1 | ⟨h1, h2⟩
    · have := (h.agree.ids i h1).1
      have := hD i h1
      omega
    · rcases h.fresh i h1 h2 with h3 | ⟨j, _, h4, h5⟩
      · omega
      · have := hD j h4
        omega⟩

/-! ### A round -/
noncomputable def putPs : List Nat → List SV → Frm → Option Frm
  | [], [], fr => some fr
  | p :: ps, s :: ss, fr => (fr.put (some p) s).bind (putPs ps ss)
  | _, _, _ => none
theorem putPs_sound {D : Nat → Prop} {V : Va} : ∀ (ps : List Nat) (ss : List SV) (fr fr' : Frm) (a : Act), putPs ps ss fr = some fr' → FrR D V fr a → (∀ s ∈ ss, s.on D) →
    ps.length = ss.length ∧ FrR D V fr' { tmps := (ps.zip (ss.map (SV.val V))).foldl (fun t p => t.setIfInBounds p.1 p.2) a.tmps, defers := [] }
  | [], [], fr, fr', a, h, hf, _ => by
    simp only [putPs, Option.some.injEq] at h
    subst h
    exact ⟨rfl, ⟨hf.size, hf.at_⟩⟩
  | p :: ps, s :: ss, fr, fr', a, h, hf, hs => by
    simp only [putPs] at h
    cases hp : fr.put (some p) s with
    | none => simp [hp] at h
    | some fr1 =>
      simp only [hp, Option.bind_some] at h
      obtain ⟨h1, h2⟩ := putPs_sound ps ss fr1 fr' (a.put (some p) (s.val V)) h (hf.put hp (hs s (List.mem_cons_self ..))) (fun x hx => hs x (List.mem_cons_of_mem _ hx))
      exact ⟨by simp [h1], h2⟩
  | [], _ :: _, _, _, _, h, _, _ => by simp [putPs] at h
  | _ :: _, [], _, _, _, h, _, _ => by simp [putPs] at h

noncomputable def noC : CallT := fun _ _ _ => none
noncomputable def noY : YieldT := fun _ _ => none
noncomputable def noD : DrawT := fun _ _ _ => none
noncomputable def nrm1 (k : Frm → Mem → Option (Out × Frm × Mem)) : Option (Out × Frm × Mem) → Option (Out × Frm × Mem)
  | some (.nrm, fr, m) => k fr m
  | _ => none
noncomputable def roundR (C : Cfg) (fr : Frm) (ps : List Nat) (assign body : Code) (args : List SV) (m : Mem) : Option (Out × Frm × Mem) :=
  match putPs ps args fr with
  | none => none
  | some fr0 => nrm1 (fun fr1 m1 => run C noC noY noD maxFuel body fr1 m1) (run C noC noY noD maxFuel assign fr0 m)
theorem nrm1_some {k : Frm → Mem → Option (Out × Frm × Mem)} {o : Option (Out × Frm × Mem)} {r : Out × Frm × Mem} (h : nrm1 k o = some r) : ∃ fr m, o = some (.nrm, fr, m) ∧ k fr m = some r := by
  unfold nrm1 at h
  split at h
  · exact ⟨_, _, rfl, h⟩
  · cases h

/-- the loop's record. -/
noncomputable def recOf (fn : FuncId) (a : Act) (ps : Array Tmp) (assign body : Code) (dd : Nat) (st : LoopState) (pe : Option Code) : Loop :=
  { state := st, pending := pe, fn := fn, tmps := a.tmps, params := ps, assign := assign, body := body, defers := dd }

/-- The memory in a round: the text's own box forgotten, the number a letter. -/
noncomputable def loopMem (m : Mem) (sid aid : Nat) : Mem := { m with H := (m.H.put aid (some { t := 3, sz := 1, cs := [.sym 20] })).put sid none }
theorem loopMem_get {m : Mem} {sid aid i : Nat} {o : Ob} (h : (loopMem m sid aid).H.get i = some o) : i ≠ sid ∧ ((i = aid ∧ o = { t := 3, sz := 1, cs := [.sym 20] }) ∨ (i ≠ aid ∧ m.H.get i = some o)) := by
  rcases Tr.get_put _ _ _ _ _ h with ⟨_, e⟩ | ⟨hne, h⟩
  · cases e
  · rcases Tr.get_put _ _ _ _ _ h with ⟨h1, e⟩ | ⟨hne', h⟩
    · cases e
      exact ⟨hne, .inl ⟨h1, rfl⟩⟩
    · exact ⟨hne, .inr ⟨hne', h⟩⟩
end Go.Proofs.YtnkdpcalgllnbaaDoor.Sy
