/-
  Walks: SameForms.
-/
import Derived.Test.YtchodalkdejiiaaWaC
import Derived.Deep.MidRow
import Derived.StillTailTactics
import Derived.KernelRfl
namespace Go.Proofs.Ytchodalkdejiiaa.Wa
open Go Go.RowKit

def FormsIn (w : World) (b : Nat) (fs : List Fm) : Prop :=
  b < w.heap.size ∧ ∀ (j : Nat) (f : Fm), fs[j]? = some f → ∃ s t, IntsAt w s f.sh ∧ IntsAt w t f.sl ∧ w.rangeAt b (j * 10) (f.cells s t)
/-- A slice value that reads as a list of forms. -/
def FormsAt (w : World) (v : Value) (fs : List Fm) : Prop :=
  ∃ A c, v = .slice A fs.length c ∧ fs.length ≤ 1000000 ∧ (0 < fs.length → ∃ b, A = some ⟨b, 0, none⟩ ∧ FormsIn w b fs)

theorem rangeAt_below {w w' : World} {b o : Nat} {cs : List Value} (h : w.rangeAt b o cs) (hlt : b < w.heap.size) (hb : Below w.heap.size w w') : w'.rangeAt b o cs :=
  fun j v hv => (hb.cell (p := ⟨b, o + j, none⟩) hlt).trans (h j v hv)
theorem FormsIn.below {w w' : World} {b : Nat} {fs : List Fm} (h : FormsIn w b fs) (hb : Below w.heap.size w w') : FormsIn w' b fs := by
  refine ⟨Nat.lt_of_lt_of_le h.1 hb.size, fun j f hj => ?_⟩
  obtain ⟨s, t, h1, h2, h3⟩ := h.2 j f hj
  exact ⟨s, t, h1.below hb, h2.below hb, rangeAt_below h3 h.1 hb⟩
theorem FormsAt.below {w w' : World} {v : Value} {fs : List Fm} (h : FormsAt w v fs) (hb : Below w.heap.size w w') : FormsAt w' v fs := by
  obtain ⟨A, c, hv, hn, hA⟩ := h
  refine ⟨A, c, hv, hn, fun h0 => ?_⟩
  obtain ⟨b, e, hi⟩ := hA h0
  exact ⟨b, e, hi.below hb⟩

theorem form_struct : (Try.prog.underlying 32).map TypeDesc.isRow = some true := by kernel_rfl
theorem form_size : (Try.prog.info? 32).map (·.size) = some 10 := by kernel_rfl
theorem load_form (w : World) (b o : Nat) (f : Fm) (s t : Value) (h : w.rangeAt b o (f.cells s t)) : (Instr.loadAt 32 (.pointer (some ⟨b, o, none⟩))).run Try.prog w = .ok (.agg (f.cells s t).toArray) w := by
  obtain ⟨d, hd, hr⟩ := Option.map_eq_some_iff.1 form_struct
  exact run_loadAt_mid w b o 32 (f.cells s t) d h hd hr form_size

theorem form_cells {w : World} {b o : Nat} {f : Fm} {s t : Value} (h : w.rangeAt b o (f.cells s t)) :
    w.cell? ⟨b, o, none⟩ = some (.int .i64 f.op) ∧ w.cell? ⟨b, o + 1, none⟩ = some s ∧ w.cell? ⟨b, o + 2, none⟩ = some t ∧ w.cell? ⟨b, o + 3, none⟩ = some (.int .i64 f.pre) ∧ w.cell? ⟨b, o + 4, none⟩ = some (.int .i64 f.map) ∧
    w.cell? ⟨b, o + 5, none⟩ = some (.int .i64 f.code) ∧ w.cell? ⟨b, o + 6, none⟩ = some (.int .i64 f.digit) ∧ w.cell? ⟨b, o + 7, none⟩ = some (.int .i64 f.w) ∧ w.cell? ⟨b, o + 8, none⟩ = some (.bool f.vex) ∧ w.cell? ⟨b, o + 9, none⟩ = some (.int .i64 f.l) :=
  ⟨h 0 _ rfl, h 1 _ rfl, h 2 _ rfl, h 3 _ rfl, h 4 _ rfl, h 5 _ rfl, h 6 _ rfl, h 7 _ rfl, h 8 _ rfl, h 9 _ rfl⟩

theorem same_forms_ne (w : World) (A B : Option Addr) (n m c d : Nat) (h : ¬ n = m) : Calls Try.prog 16 #[.slice A n c, .slice B m d] w (FormP w false) := by
  have h' : ((n : Int) == (m : Int)) = false := by simp; omega
  have h'' : ((n : Int) != (m : Int)) = true := by simp; omega
  go_enter Try.func16, Try.ntmps16
  go_wp2
  go_ret
  exact ⟨rfl, .refl _ _⟩
theorem same_forms_0 (w : World) (A B : Option Addr) (c d : Nat) : Calls Try.prog 16 #[.slice A 0 c, .slice B 0 d] w (FormP w true) := by
  go_enter Try.func16, Try.ntmps16
  go_wp2
  go_loop [5] (fun i => i = .int .i64 0) (fun _ => 0)
  case atStart => rfl
  case round =>
    subst hrel
    go_wp2
    go_ret
    exact ⟨rfl, .refl _ _⟩

set_option maxHeartbeats 4000000 in
theorem same_forms_eq (w : World) (b b' c d : Nat) (fs gs : List Fm) (hl : fs.length = gs.length) (hn : fs.length ≤ 1000000) (hx : FormsIn w b fs) (hy : FormsIn w b' gs) :
    Calls Try.prog 16 #[.slice (some ⟨b, 0, none⟩) fs.length c, .slice (some ⟨b', 0, none⟩) fs.length d] w (FormP w (decide (fs = gs))) := by
  obtain ⟨n, hn'⟩ : ∃ n, n = fs.length := ⟨_, rfl⟩
  have HX := Lib.hid hx
  have HY := Lib.hid hy
  have HN : Hid (n = fs.length) := Lib.hid hn'
  have HL : Hid (fs.length = gs.length) := Lib.hid hl
  rw [← hn'] at hn ⊢
  clear hl hn' hx hy
  go_enter Try.func16, Try.ntmps16
  go_wp2
  go_loopw [5] (fun i wr => ∃ k : Nat, k ≤ n ∧ i = .int .i64 k ∧ Hid (∀ j, j < k → fs[j]? = gs[j]?) ∧ Hid (Below w.heap.size w wr)) (fun i _ => n - (intOf i).toNat)
  case atStart => exact ⟨0, Nat.zero_le _, rfl, Lib.hid fun j hj => absurd hj (by omega), Lib.hid (.refl _ _)⟩
  case round =>
    obtain ⟨k, hk, rfl, hag, hq⟩ := hrel
    by_cases hlt : k < n
    · have hkx : k < fs.length := by rw [← HN.out]; exact hlt
      have hky : k < gs.length := by rw [← HL.out]; exact hkx
      obtain ⟨f, hf⟩ : ∃ f, fs[k]? = some f := ⟨_, List.getElem?_eq_getElem hkx⟩
      obtain ⟨g, hg⟩ : ∃ g, gs[k]? = some g := ⟨_, List.getElem?_eq_getElem hky⟩
      obtain ⟨s, t, i1, i2, r1⟩ := (HX.out.below hq.out).2 k _ hf
      obtain ⟨s1, t1, i3, i4, r2⟩ := (HY.out.below hq.out).2 k _ hg
      obtain ⟨p0, p1, p2, p3, p4, p5, p6, p7, p8, p9⟩ := form_cells r1
      obtain ⟨q0, q1, q2, q3, q4, q5, q6, q7, q8, q9⟩ := form_cells r2
      have h0 : (0 : Int) ≤ (k : Int) := by omega
      have h1 : (k : Int) < (n : Int) := by omega
      have HC : Hid (Calls Try.prog 23 #[.agg #[.int .i64 f.op, s, t, .int .i64 f.pre, .int .i64 f.map, .int .i64 f.code, .int .i64 f.digit, .int .i64 f.w, .bool f.vex, .int .i64 f.l],
        .agg #[.int .i64 g.op, s1, t1, .int .i64 g.pre, .int .i64 g.map, .int .i64 g.code, .int .i64 g.digit, .int .i64 g.w, .bool g.vex, .int .i64 g.l]] wr.drew (FormP wr.drew (decide (f = g)))) := Lib.hid (same_form wr.drew f g s t s1 t1 i1 i2 i3 i4)
      have Hf := Lib.hid hf
      have Hg := Lib.hid hg
      clear i1 i2 i3 i4 r1 r2 hkx hky hf hg
      by_cases he : f = g
      · have HE := Lib.hid he
        rw [decide_eq_true he] at HC
        clear he
        go_wp2
        go_still_tail 8, (by kernel_rfl)
        change wpList _ _ _ _ _ wr.drew
        have hbd : Hid (Below w.heap.size w wr.drew) := Lib.hid (hq.out.drew)
        clear hq p0 p1 p2 p3 p4 p5 p6 p7 p8 p9 q0 q1 q2 q3 q4 q5 q6 q7 q8 q9
        generalize wr.drew = w2 at *
        go_wp2_with fail
        refine HC.out.mono ?_
        rintro e w' ⟨rfl, hb'⟩
        have hbb : Hid (Below w.heap.size w w') := Lib.hid (hbd.out.trans (hb'.mono hbd.out.size))
        clear HC hb'
        go_wp2
        go_roundw
        case rel =>
          refine ⟨k + 1, by omega, by go_num, Lib.hid fun j hj => ?_, hbb⟩
          by_cases hjk : j < k
          · exact hag.out j hjk
          · obtain rfl : j = k := by omega
            rw [Hf.out, Hg.out, HE.out]
        case measure => simp [intOf]; omega
      · rw [decide_eq_false he] at HC
        have hfin : decide (fs = gs) = false := by
          simp only [decide_eq_false_iff_not]
          rintro rfl
          have := Hf.out.symm.trans Hg.out
          exact he (Option.some.inj this)
        rw [hfin]
        clear he hfin
        go_wp2
        go_still_tail 8, (by kernel_rfl)
        change wpList _ _ _ _ _ wr.drew
        have hbd : Hid (Below w.heap.size w wr.drew) := Lib.hid (hq.out.drew)
        clear hq p0 p1 p2 p3 p4 p5 p6 p7 p8 p9 q0 q1 q2 q3 q4 q5 q6 q7 q8 q9
        generalize wr.drew = w2 at *
        go_wp2_with fail
        refine HC.out.mono ?_
        rintro e w' ⟨rfl, hb'⟩
        have hbb : Hid (Below w.heap.size w w') := Lib.hid (hbd.out.trans (hb'.mono hbd.out.size))
        clear HC hb'
        go_wp2
        go_ret
        exact ⟨rfl, hbb.out⟩
    · have hfin : decide (fs = gs) = true := by
        simp only [decide_eq_true_eq]
        have e1 := HN.out
        apply List.ext_getElem? 
        intro j
        by_cases hj : j < fs.length
        · exact hag.out j (by omega)
        · rw [List.getElem?_eq_none (by omega), List.getElem?_eq_none (by have := HL.out; omega)]
      go_wp2
      go_ret
      exact ⟨by rw [hfin]; rfl, hq.out⟩
end Go.Proofs.Ytchodalkdejiiaa.Wa
