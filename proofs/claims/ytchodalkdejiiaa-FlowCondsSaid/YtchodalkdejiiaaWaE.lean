/-
  Walks: SameForms joined; FormsOf.
-/
import Derived.Test.YtchodalkdejiiaaWaD
import Derived.Laws.AppendOwn
import Derived.OwnWalk
namespace Go.Proofs.Ytchodalkdejiiaa.Wa
open Go Go.RowKit

theorem same_forms (w : World) (v u : Value) (fs gs : List Fm) (hx : FormsAt w v fs) (hy : FormsAt w u gs) : Calls Try.prog 16 #[v, u] w (FormP w (decide (fs = gs))) := by
  obtain ⟨A, c, rfl, hn, hA⟩ := hx
  obtain ⟨B, d, rfl, hm, hB⟩ := hy
  by_cases hl : fs.length = gs.length
  · by_cases h0 : 0 < fs.length
    · obtain ⟨b, rfl, hb⟩ := hA h0
      obtain ⟨b', rfl, hb'⟩ := hB (by omega)
      rw [← hl]
      exact same_forms_eq w b b' c d fs gs hl hn hb hb'
    · have e1 : fs = [] := List.eq_nil_of_length_eq_zero (by omega)
      have e2 : gs = [] := List.eq_nil_of_length_eq_zero (by omega)
      subst e1
      subst e2
      exact same_forms_0 w A B c d
  · have : decide (fs = gs) = false := by
      simp only [decide_eq_false_iff_not]
      rintro rfl
      exact hl rfl
    rw [this]
    exact same_forms_ne w A B _ _ c d hl

/-- Cells that read as forms. -/
def FL (w : World) : List Fm → List Value → Prop
  | [], xs => xs = []
  | f :: fs, xs => ∃ s t ys, xs = f.cells s t ++ ys ∧ IntsAt w s f.sh ∧ IntsAt w t f.sl ∧ FL w fs ys

theorem FL.snoc {w : World} {f : Fm} {s t : Value} (hs : IntsAt w s f.sh) (ht : IntsAt w t f.sl) : ∀ {fs : List Fm} {xs : List Value}, FL w fs xs → FL w (fs ++ [f]) (xs ++ f.cells s t)
  | [], _, h => by
    subst h
    exact ⟨s, t, [], by simp, hs, ht, rfl⟩
  | g :: fs, xs, h => by
    obtain ⟨s', t', ys, rfl, h1, h2, h3⟩ := h
    exact ⟨s', t', ys ++ f.cells s t, by simp, h1, h2, FL.snoc hs ht h3⟩
theorem FL.at_ {w : World} : ∀ {fs : List Fm} {xs : List Value}, FL w fs xs → ∀ (j : Nat) (f : Fm), fs[j]? = some f → ∃ s t, IntsAt w s f.sh ∧ IntsAt w t f.sl ∧ ∀ i u, (f.cells s t)[i]? = some u → xs[j * 10 + i]? = some u
  | [], _, _, j, f, hj => by simp at hj
  | g :: fs, xs, h, j, f, hj => by
    obtain ⟨s, t, ys, rfl, h1, h2, h3⟩ := h
    cases j with
    | zero =>
      simp only [List.getElem?_cons_zero, Option.some.injEq] at hj
      subst hj
      refine ⟨s, t, h1, h2, fun i u hu => ?_⟩
      have hi : i < (g.cells s t).length := (List.getElem?_eq_some_iff.1 hu).1
      rw [Nat.zero_mul, Nat.zero_add, List.getElem?_append_left hi]
      exact hu
    | succ j =>
      rw [List.getElem?_cons_succ] at hj
      obtain ⟨s', t', k1, k2, k3⟩ := FL.at_ h3 j f hj
      refine ⟨s', t', k1, k2, fun i u hu => ?_⟩
      have e : (g.cells s t).length = 10 := rfl
      rw [List.getElem?_append_right (by rw [e]; omega), e]
      rw [show (j + 1) * 10 + i - 10 = j * 10 + i by omega]
      exact k3 i u hu

theorem formsAt_of_own {w w' : World} {base : Nat} {v : Value} {fs : List Fm} {xs : List Value} (ho : w'.ownsRow base 32 10 v fs.length xs) (hf : FL w fs xs) (hb : Below w.heap.size w w') (hn : fs.length ≤ 1000000) : FormsAt w' v fs := by
  obtain ⟨hl, h | ⟨g, cap, cur, rfl, h1, h2, h3, h4, h5, h6⟩⟩ := ho
  · obtain ⟨rfl, h0⟩ := h
    refine ⟨none, 0, by rw [h0], hn, fun h => absurd h (by omega)⟩
  · refine ⟨_, cap, rfl, hn, fun _ => ⟨g, rfl, (Array.getElem?_eq_some_iff.1 h2).1, fun j f hj => ?_⟩⟩
    obtain ⟨s, t, k1, k2, k3⟩ := hf.at_ j f hj
    refine ⟨s, t, k1.below hb, k2.below hb, fun i u hu => ?_⟩
    have hx := k3 i u hu
    rw [cell_of_row w' g _ cur 32 (0, 0) h2]
    rw [← h6, List.getElem?_take] at hx
    split at hx
    · simpa using hx
    · cases hx

/-- The forms of a mnemonic. -/
def ofOp (fs : List Fm) (op : Int) : List Fm := fs.filter fun f => f.op == op
theorem ofOp_snoc (fs : List Fm) (op : Int) (k : Nat) (f : Fm) (h : fs[k]? = some f) : ofOp (fs.take (k + 1)) op = ofOp (fs.take k) op ++ if f.op == op then [f] else [] := by
  unfold ofOp
  rw [List.take_add_one, h, List.filter_append]
  cases hf : f.op == op <;> simp [hf]

def FormsP (w : World) (fs : List Fm) (e : Ending) (w' : World) : Prop := ∃ v, e = .returned v ∧ FormsAt w' v fs ∧ Below w.heap.size w w'

theorem form_info : (Try.prog.info? 32).map (fun i => (i.zero.map (fun z => z.cells.size), i.size, i.bytes)) = some (some 10, 10, 112) := by kernel_rfl
theorem forms_elem : Try.prog.underlying 22 = some (.slice 32) := by kernel_rfl

set_option maxHeartbeats 4000000 in
theorem forms_of_some (w : World) (b c : Nat) (fs : List Fm) (op : Int) (hn : fs.length ≤ 1000000) (hx : FormsIn w b fs) :
    Calls Try.prog 20 #[.slice (some ⟨b, 0, none⟩) fs.length c, .int .i64 op] w (FormsP w (ofOp fs op)) := by
  obtain ⟨n, hn'⟩ : ∃ n, n = fs.length := ⟨_, rfl⟩
  have HX := Lib.hid hx
  have HN : Hid (n = fs.length) := Lib.hid hn'
  rw [← hn'] at hn ⊢
  clear hn' hx
  obtain ⟨i0, hi, hi2⟩ := Option.map_eq_some_iff.1 form_info
  simp only [Prod.mk.injEq, Option.map_eq_some_iff] at hi2
  obtain ⟨⟨z, hz, hzs⟩, hsz, hbyt⟩ := hi2
  go_enter Try.func20, Try.ntmps20
  go_wp2
  go_loopw [5, 6] (fun v i wr => ∃ (k : Nat) (xs : List Value), k ≤ n ∧ i = .int .i64 k ∧ Hid (wr.ownsRow w.heap.size 32 10 v (ofOp (fs.take k) op).length xs) ∧ Hid (FL w (ofOp (fs.take k) op) xs) ∧ Hid (Below w.heap.size w wr)) (fun _ i _ => n - (intOf i).toNat)
  case atStart => exact ⟨0, [], Nat.zero_le _, rfl, Lib.hid (World.ownsRow_nil _ _ _ _), Lib.hid rfl, Lib.hid (.refl _ _)⟩
  case round =>
    obtain ⟨k, xs, hk, rfl, hown, hfl, hq⟩ := hrel
    by_cases hlt : k < n
    · have hkx : k < fs.length := by rw [← HN.out]; exact hlt
      obtain ⟨f, hf⟩ : ∃ f, fs[k]? = some f := ⟨_, List.getElem?_eq_getElem hkx⟩
      obtain ⟨s, t, i1, i2, r1⟩ := HX.out.2 k _ hf
      obtain ⟨p0, p1, p2, p3, p4, p5, p6, p7, p8, p9⟩ := form_cells (rangeAt_below r1 HX.out.1 hq.out)
      have h0 : (0 : Int) ≤ (k : Int) := by omega
      have h1 : (k : Int) < (n : Int) := by omega
      have Hsn := Lib.hid (ofOp_snoc fs op k f hf)
      have HI := Lib.hid (And.intro i1 i2)
      clear i1 i2 r1 hkx hf
      by_cases he : f.op = op
      · have hb : (f.op == op) = true := by simp [he]
        have HE := Lib.hid hb
        have hs1 : s.oneCell' = true := by obtain ⟨A, c', rfl, _⟩ := HI.out.1; rfl
        have ht1 : t.oneCell' = true := by obtain ⟨A, c', rfl, _⟩ := HI.out.2; rfl
        have HO := Lib.hid (And.intro hs1 ht1)
        have HB := Lib.hid hbyt
        have HZ := Lib.hid (And.intro hi (And.intro hz (And.intro hsz hzs)))
        clear hs1 ht1 hbyt hi hz hsz hzs
        go_wp2_with (first
          | (at_builtin; refine wpList_append_own _ rfl _ _ 22 rfl w.heap.size 32 i0 z 10 112 forms_elem HZ.out.1 HZ.out.2.1 HZ.out.2.2.1 HB.out HZ.out.2.2.2 (by decide) _ _ _ rfl (hown.out.alloc _) ⟨wr.heap.size, 0, none⟩ 1 1 [.int .i64 op, s, t, .int .i64 f.pre, .int .i64 f.map, .int .i64 f.code, .int .i64 f.digit, .int .i64 f.w, .bool f.vex, .int .i64 f.l] rfl rfl ?c1 ?c2 ?c3 ?c4 ?c5 ?_)
          | go_in)
        case c1 =>
          intro j u hj
          rw [Addr.add_mid]
          rw [cell_of_row _ _ _ _ 32 (0, 0) (heap_alloc_new _ _)]
          rw [Nat.zero_add]
          simpa using hj
        case c2 =>
          intro u hu
          simp only [List.mem_cons, List.not_mem_nil, or_false] at hu
          rcases hu with rfl | rfl | rfl | rfl | rfl | rfl | rfl | rfl | rfl | rfl
          all_goals first | rfl | exact HO.out.1 | exact HO.out.2
        case c3 =>
          have := List.length_filter_le (fun f : Fm => f.op == op) (fs.take k)
          have := List.length_take_le k fs
          unfold ofOp maxLen
          omega
        case c4 =>
          have := List.length_filter_le (fun f : Fm => f.op == op) (fs.take k)
          have := List.length_take_le k fs
          unfold ofOp
          omega
        case c5 => have := hq.out.size; simp; omega
        intro v' w1 hown' hgrow _
        have e1 : ofOp (fs.take (k + 1)) op = ofOp (fs.take k) op ++ [f] := by rw [Hsn.out, HE.out]; simp
        have e2 : (ofOp (fs.take (k + 1)) op).length = (ofOp (fs.take k) op).length + 1 := by rw [e1]; simp
        have e3 : [.int .i64 op, s, t, .int .i64 f.pre, .int .i64 f.map, .int .i64 f.code, .int .i64 f.digit, .int .i64 f.w, .bool f.vex, .int .i64 f.l] = f.cells s t := by simp [Fm.cells, he]
        have R1 : Hid (w1.ownsRow w.heap.size 32 10 v' (ofOp (fs.take (k + 1)) op).length (xs ++ f.cells s t)) := by rw [e2, ← e3]; exact hown'
        have R2 : Hid (FL w (ofOp (fs.take (k + 1)) op) (xs ++ f.cells s t)) := by rw [e1]; exact FL.snoc HI.out.1 HI.out.2 hfl.out
        have R3 : Hid (Below w.heap.size w w1) := Lib.hid ((hq.out.alloc hq.out.size _).grown hgrow (by have := hq.out.size; simp; omega) (fun g hg => (hown.out.lt g hg).1))
        clear hown' hgrow e1 e2 e3 hown hfl hq p0 p1 p2 p3 p4 p5 p6 p7 p8 p9 he hb
        go_wp2
        go_roundw
        case rel => exact ⟨k + 1, _, by omega, by go_num, R1, R2, R3⟩
        case measure => simp [intOf]; omega
      · have hb : (f.op == op) = false := by simp [he]
        have HE := Lib.hid hb
        go_wp2
        go_roundw
        case rel =>
          have e1 : ofOp (fs.take (k + 1)) op = ofOp (fs.take k) op := by rw [Hsn.out, HE.out]; simp
          refine ⟨k + 1, xs, by omega, by go_num, ?_, ?_, hq⟩
          · rw [e1]; exact hown
          · rw [e1]; exact hfl
        case measure => simp [intOf]; omega
    · have e1 : fs.take k = fs := List.take_of_length_le (by have := HN.out; omega)
      rw [e1] at hown hfl
      have HE := Lib.hid (formsAt_of_own hown.out hfl.out hq.out (Nat.le_trans (List.length_filter_le _ _) (by have := HN.out; omega)))
      clear e1
      go_wp2
      go_ret
      exact ⟨_, rfl, HE.out, hq.out⟩
end Go.Proofs.Ytchodalkdejiiaa.Wa
