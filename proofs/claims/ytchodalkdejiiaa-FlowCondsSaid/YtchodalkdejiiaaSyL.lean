/-
  The symbolic run: a run on letters, laid into whatever memory the caller has.
-/
import Derived.Test.YtchodalkdejiiaaSyK
namespace Go.Proofs.Ytchodalkdejiiaa.Sy
open Go Go.RowKit

/-- Letters by atoms, numbers by numbers. -/
noncomputable def At.sub (al : Nat → At) (ph : Nat → Nat) : At → At
  | .lit v => .lit v
  | .sym k => al k
  | .ptr i o => .ptr (ph i) o
  | .sl i n => .sl (ph i) n
  | .clo f caps => .clo f (caps.map fun p => (ph p.1, p.2))
  | .yld => .yld
noncomputable def SV.sub (al : Nat → At) (ph : Nat → Nat) : SV → SV
  | .one a => .one (a.sub al ph)
  | .agg l => .agg (l.map (At.sub al ph))
  | .tup l => .tup (l.map (At.sub al ph))
noncomputable def Ob.sub (al : Nat → At) (ph : Nat → Nat) (o : Ob) : Ob := { o with cs := o.cs.map (At.sub al ph) }

noncomputable def Va.pull (V : Va) (al : Nat → At) (ph : Nat → Nat) : Va := { blk := fun i => V.blk (ph i), cap := fun i => V.cap (ph i), sym := fun k => (al k).val V, lp := V.lp }

theorem At.sub_val (V : Va) (al : Nat → At) (ph : Nat → Nat) (a : At) : (a.sub al ph).val V = a.val (V.pull al ph) := by
  cases a with
  | clo f caps => simp only [At.sub, At.val, List.map_map]; rfl
  | _ => rfl
theorem SV.sub_val (V : Va) (al : Nat → At) (ph : Nat → Nat) (s : SV) : (s.sub al ph).val V = s.val (V.pull al ph) := by
  have h : ∀ l : List At, (l.map (At.sub al ph)).map (At.val V) = l.map (At.val (V.pull al ph)) := fun l => by
    rw [List.map_map]
    exact List.map_congr_left fun a _ => At.sub_val V al ph a
  cases s with
  | one a => exact At.sub_val V al ph a
  | agg l => simp only [SV.sub, SV.val, h]
  | tup l => simp only [SV.sub, SV.val, h]
theorem At.sub_on {D D' : Nat → Prop} {al : Nat → At} {ph : Nat → Nat} (ha : ∀ k, (al k).on D') (hp : ∀ i, D i → D' (ph i)) {a : At} (h : a.on D) : (a.sub al ph).on D' := by
  cases a with
  | lit v => trivial
  | sym k => exact ha k
  | ptr i o => exact hp i h
  | sl i n => exact hp i h
  | clo f caps =>
    intro p hp'
    simp only [List.mem_map] at hp'
    obtain ⟨q, hq, rfl⟩ := hp'
    exact hp _ (h q hq)
  | yld => trivial
theorem SV.sub_on {D D' : Nat → Prop} {al : Nat → At} {ph : Nat → Nat} (ha : ∀ k, (al k).on D') (hp : ∀ i, D i → D' (ph i)) {s : SV} (h : s.on D) : (s.sub al ph).on D' := by
  cases s with
  | one a => exact At.sub_on ha hp h
  | agg l =>
    intro a hm
    obtain ⟨b, hb, rfl⟩ := List.mem_map.1 hm
    exact At.sub_on ha hp (h b hb)
  | tup l =>
    intro a hm
    obtain ⟨b, hb, rfl⟩ := List.mem_map.1 hm
    exact At.sub_on ha hp (h b hb)

/-- where the run's numbers lie in the caller's memory: its own objects behind all of the caller's. -/
noncomputable def phx (m : Mem) (n0 : Nat) (ph : Nat → Nat) (i : Nat) : Nat := if Nat.blt i n0 then ph i else m.nxt + (i - n0)

noncomputable def relocH (m : Mem) (n0 : Nat) (H' : Tr Ob) (al : Nat → At) (ph : Nat → Nat) : List Nat → Tr Ob → Tr Ob
  | [], H => H
  | i :: l, H => relocH m n0 H' al ph l (match H'.get i with | some o => H.put (m.nxt + (i - n0)) (some (o.sub al (phx m n0 ph))) | none => H)

noncomputable def reloc (m : Mem) (n0 : Nat) (m0' : Mem) (al : Nat → At) (ph : Nat → Nat) : Mem :=
  { H := relocH m n0 m0'.H al ph (List.range' n0 (m0'.nxt - n0)) m.H, nxt := m.nxt + (m0'.nxt - n0), mods := m.mods }

theorem phx_lt {m : Mem} {n0 i : Nat} {ph : Nat → Nat} (h : i < n0) : phx m n0 ph i = ph i := by
  unfold phx
  have e : Nat.blt i n0 = true := Nat.ble_eq_true_of_le h
  rw [if_pos e]
theorem phx_ge {m : Mem} {n0 i : Nat} {ph : Nat → Nat} (h : n0 ≤ i) : phx m n0 ph i = m.nxt + (i - n0) := by
  unfold phx
  rw [if_neg (fun e => by have : i < n0 := Nat.le_of_ble_eq_true e; omega)]

theorem relocH_get {m : Mem} {n0 : Nat} {H' : Tr Ob} {al : Nat → At} {ph : Nat → Nat} : ∀ (l : List Nat) (H : Tr Ob) (j : Nat) (o : Ob), (relocH m n0 H' al ph l H).get j = some o →
    (∃ i o', i ∈ l ∧ H'.get i = some o' ∧ j = m.nxt + (i - n0) ∧ o = o'.sub al (phx m n0 ph)) ∨ H.get j = some o
  | [], H, j, o, h => .inr h
  | i :: l, H, j, o, h => by
    rcases relocH_get l _ j o h with ⟨i', o', h1, h2, h3, h4⟩ | h1
    · exact .inl ⟨i', o', List.mem_cons_of_mem _ h1, h2, h3, h4⟩
    · cases hi : H'.get i with
      | none => simp only [hi] at h1; exact .inr h1
      | some o' =>
        simp only [hi] at h1
        rcases Tr.get_put _ _ _ _ _ h1 with ⟨rfl, e⟩ | ⟨_, h2⟩
        · cases e
          exact .inl ⟨i, o', List.mem_cons_self .., hi, rfl, rfl⟩
        · exact .inr h2

/-- **THE LAYING.** -/
theorem lay_call {X : Ctx} {C0 : Cfg} {call0 : CallT} (hP : C0.P = X.C.P) (hC0 : ∀ S : Nat → Value, (∀ k, (S k).oneCell' = true) → CallOK { C := C0, S := S, lp := X.lp, LI := fun _ _ _ => True } call0) {f : FuncId} {args0 : List SV} {m0 : Mem} {r0 : SV} {m0' : Mem}
    (run0 : call0 f args0 m0 = some (r0, m0')) (hmods : ∀ i ∈ m0'.mods, m0.nxt ≤ i) (hm0 : m0.mods = [])
    {D : Nat → Prop} {V : Va} {w : World} {m : Mem} (hX : XOK X) (hg : Good X V) (hm : RelM D V m w) (al : Nat → At) (ph : Nat → Nat) (hal : ∀ k, (al k).on D) (hone : ∀ k, (al k).oneC = true)
    (hph : ∀ i, i < m0.nxt → D (ph i)) (hinj : ∀ i j, i < m0.nxt → j < m0.nxt → ph i = ph j → i = j) (hargs0 : ∀ s ∈ args0, s.on (· < m0.nxt))
    (hob : ∀ i o0, m0.H.get i = some o0 → i < m0.nxt ∧ (∀ a ∈ o0.cs, a.on (· < m0.nxt)) ∧ ∃ o, m.H.get (ph i) = some o ∧ o0.t = o.t ∧ o0.sz = o.sz ∧ ∀ (j : Nat) (a : At), o0.cs[j]? = some a → o.cs[j]? = some (a.sub al ph)) :
    Calls X.C.P f (args0.map fun s => (s.sub al ph).val V).toArray w (Gives D V w m (r0.sub al (phx m m0.nxt ph)) (reloc m m0.nxt m0' al ph)) := by
  obtain ⟨_, hcall⟩ := hC0 (fun k => (al k).val V) (fun k => At.oneC_val (hg.symOK hX) (hone k)) f args0 m0 r0 m0' run0
  have hrel : RelM (· < m0.nxt) (V.pull al ph) m0 w := by
    refine ⟨fun i h => h, fun i o0 hi => ?_, fun i j oi oj hi hj hb => ?_, fun i hi => by rw [hm0] at hi; simp at hi⟩
    · obtain ⟨h1, h2, o, h3, h4, h5, h6⟩ := hob i o0 hi
      obtain ⟨_, _, hat⟩ := hm.ob _ o h3
      obtain ⟨cur, c1, c2, c3, c4, c5⟩ := hat.ex
      refine ⟨h1, h2, ⟨cur, by rw [h4]; exact c1, by rw [h5]; exact c2, c3, ?_, fun j a hj => ?_⟩⟩
      · have : o0.cs.length ≤ o.cs.length := by
          rcases Nat.lt_or_ge o.cs.length o0.cs.length with hlt | hge
          · have := h6 o.cs.length _ (List.getElem?_eq_getElem hlt)
            rw [List.getElem?_eq_none (Nat.le_refl _)] at this
            cases this
          · exact hge
        omega
      · rw [← At.sub_val]
        exact c5 j _ (h6 j a hj)
    · obtain ⟨h1, _, o, h3, _⟩ := hob i oi hi
      obtain ⟨h1', _, o', h3', _⟩ := hob j oj hj
      exact hinj i j h1 h1' (hm.inj _ _ o o' h3 h3' hb)
  have hcall := hcall (· < m0.nxt) (V.pull al ph) w ⟨rfl, hg.lp⟩ hrel trivial hargs0
  rw [hP] at hcall
  have hav : (args0.map (SV.val (V.pull al ph))).toArray = (args0.map fun s => (s.sub al ph).val V).toArray := by
    congr 1
    exact List.map_congr_left fun s _ => (SV.sub_val V al ph s).symm
  rw [hav] at hcall
  refine hcall.mono ?_
  rintro e w' ⟨V1, rfl, s1, s2, s3⟩
  obtain ⟨c, hc⟩ : ∃ c, c = m0'.nxt - m0.nxt := ⟨_, rfl⟩
  have hle := s1.nxt
  -- the blocks of its own objects are new
  have hnew : ∀ i, m0.nxt ≤ i → i < m0'.nxt → w.heap.size ≤ V1.blk i := by
    intro i h1 h2
    rcases s1.fresh i h1 h2 with h3 | ⟨j, h3, h4, _⟩
    · exact h3
    · have := hmods j h3; omega
  have hsame : ∀ b, b < w.heap.size → w'.heap[b]? = w.heap[b]? := by
    intro b hb
    refine s1.same b hb fun i hi => ?_
    have h1 := hmods i hi
    have h2 : i < m0'.nxt := s2.dom i (s2.mlt i hi)
    have := hnew i h1 h2
    omega
  obtain ⟨Vn, hVn⟩ : ∃ Vn : Va, Vn = { V with blk := fun i => if m.nxt ≤ i then V1.blk (i - m.nxt + m0.nxt) else V.blk i, cap := fun i => if m.nxt ≤ i then V1.cap (i - m.nxt + m0.nxt) else V.cap i } := ⟨_, rfl⟩
  have hA : V.agree D Vn := by
    refine ⟨fun i hi => ?_, by rw [hVn], by rw [hVn]⟩
    have hn : ¬ m.nxt ≤ i := by have := hm.dom i hi; omega
    rw [hVn]
    simp only [hn, if_false, and_self]
  have hB : V1.agree (Dn (· < m0.nxt) m0.nxt m0'.nxt) (Vn.pull al (phx m m0.nxt ph)) := by
    refine ⟨fun i hi => ?_, ?_, ?_⟩
    · rcases Nat.lt_or_ge i m0.nxt with h1 | h1
      · have h2 := s1.agree.ids i h1
        simp only [Va.pull, phx_lt h1]
        rw [(hA.ids _ (hph i h1)).1, (hA.ids _ (hph i h1)).2, h2.1, h2.2]
        exact ⟨rfl, rfl⟩
      · simp only [Va.pull, phx_ge h1]
        rw [hVn]
        have h3 : m.nxt ≤ m.nxt + (i - m0.nxt) := by omega
        have h4 : m.nxt + (i - m0.nxt) - m.nxt + m0.nxt = i := by omega
        simp only [h3, if_true, h4, and_self]
    · show (fun k => (al k).val Vn) = V1.sym
      rw [s1.agree.sym]
      funext k
      exact At.val_agree hA (hal k)
    · show Vn.lp = V1.lp
      rw [s1.agree.lp, hA.lp]
      rfl
  have hphx : ∀ i, Dn (· < m0.nxt) m0.nxt m0'.nxt i → Dn D m.nxt (reloc m m0.nxt m0' al ph).nxt (phx m m0.nxt ph i) := by
    intro i hi
    rcases Nat.lt_or_ge i m0.nxt with h1 | h1
    · rw [phx_lt h1]; exact .inl (hph i h1)
    · rw [phx_ge h1]
      have h2 : i < m0'.nxt := s2.dom i hi
      exact .inr ⟨by omega, by simp only [reloc]; omega⟩
  have hal' : ∀ k, (al k).on (Dn D m.nxt (reloc m m0.nxt m0' al ph).nxt) := fun k => At.on_mono Dn_le (hal k)
  refine ⟨Vn, ?_, ⟨by simp only [reloc]; omega, hA, fun i hi => hi, s1.os, s1.tape, s1.output, s1.oth, fun b hb _ => hsame b hb, fun i h1 h2 => ?_⟩, ⟨fun i hi => ?_, fun i o hi => ?_, fun i j oi oj hi hj hb => ?_, fun i hi => .inl (hm.mlt i hi)⟩, ?_⟩
  · rw [SV.sub_val, SV.val_agree hB s3]
  · refine .inl ?_
    rw [hVn]
    simp only [h1, if_true]
    refine hnew _ (by omega) ?_
    simp only [reloc] at h2
    omega
  · simp only [reloc]
    rcases hi with hi | hi
    · have := hm.dom i hi; omega
    · simp only [reloc] at hi; omega
  · rcases relocH_get _ _ _ _ hi with ⟨i0, o', h1, h2, rfl, rfl⟩ | h1
    · obtain ⟨h3, h4, h5⟩ := s2.ob i0 o' h2
      rw [List.mem_range'_1] at h1
      have hx : phx m m0.nxt ph i0 = m.nxt + (i0 - m0.nxt) := phx_ge h1.1
      rw [← hx]
      refine ⟨hphx i0 h3, fun a ha => ?_, ?_⟩
      · obtain ⟨b, hb, rfl⟩ := List.mem_map.1 ha
        exact At.sub_on hal' hphx (h4 b hb)
      · have h6 := h5.kept h3 h4 hB rfl
        obtain ⟨cur, c1, c2, c3, c4, c5⟩ := h6.ex
        refine ⟨cur, c1, c2, c3, by simpa [Ob.sub] using c4, fun j a hj => ?_⟩
        simp only [Ob.sub, List.getElem?_map, Option.map_eq_some_iff] at hj
        obtain ⟨b, hb, rfl⟩ := hj
        rw [At.sub_val]
        exact c5 j b hb
    · obtain ⟨h2, h3, h4⟩ := hm.ob i o h1
      exact ⟨.inl h2, fun a ha => At.on_mono Dn_le (h3 a ha), h4.kept h2 h3 hA (hsame _ h4.lt)⟩
  · have cls : ∀ i oi, (reloc m m0.nxt m0' al ph).H.get i = some oi → (∃ i0 o', m0.nxt ≤ i0 ∧ i0 < m0'.nxt ∧ m0'.H.get i0 = some o' ∧ i = m.nxt + (i0 - m0.nxt) ∧ Vn.blk i = V1.blk i0) ∨ (m.H.get i = some oi ∧ Vn.blk i = V.blk i ∧ V.blk i < w.heap.size) := by
      intro i oi hi
      rcases relocH_get _ _ _ _ hi with ⟨i0, o', h1, h2, h3, _⟩ | h1
      · rw [List.mem_range'_1] at h1
        refine .inl ⟨i0, o', h1.1, by omega, h2, h3, ?_⟩
        have := (hB.ids i0 (s2.ob i0 o' h2).1).1
        simp only [Va.pull, phx_ge h1.1] at this
        rw [h3]; exact this
      · obtain ⟨h2, _, h4⟩ := hm.ob i oi h1
        exact .inr ⟨h1, (hA.ids i h2).1, h4.lt⟩
    rcases cls i oi hi with ⟨i0, o', h1, h2, h3, h4, h5⟩ | ⟨h1, h2, h3⟩ <;> rcases cls j oj hj with ⟨j0, o'', k1, k2, k3, k4, k5⟩ | ⟨k1, k2, k3⟩
    · rw [h5, k5] at hb
      have := s2.inj i0 j0 o' o'' h3 k3 hb
      rw [h4, k4, this]
    · rw [h5, k2] at hb
      have := hnew i0 h1 h2
      omega
    · rw [h2, k5] at hb
      have := hnew j0 k1 k2
      omega
    · rw [h2, k2] at hb
      exact hm.inj i j oi oj h1 k1 hb
  · exact SV.sub_on hal' hphx s3
end Go.Proofs.Ytchodalkdejiiaa.Sy
