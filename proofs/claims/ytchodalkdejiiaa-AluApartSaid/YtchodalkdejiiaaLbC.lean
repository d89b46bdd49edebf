/-
  AluApart walked.
-/
import Derived.Test.YtchodalkdejiiaaLbA
import Derived.Test.YtchodalkdejiiaaLaY
namespace Go.Proofs.Ytchodalkdejiiaa.Lb
open Go Go.RowKit Go.Proofs.Ytchodalkdejiiaa.La Go.Proofs.Ytchodalkdejiiaa.Sy Go.Proofs.Ytchodalkdejiiaa.Wa Go.Proofs.Ytchodalkdejiiaa.Tab

theorem alu_apart : apartAll aluTab = true := by kernel_rfl
theorem alu_length : aluTab.length = 207 := by kernel_rfl

set_option maxHeartbeats 4000000 in
theorem alu_apart_law (w : World) (x y : Int) : Calls Try.prog 11 #[.int .i64 x, .int .i64 y] w (FormP w true) := by
  obtain ⟨i, hxi, hi⟩ := pick_lt x 207 (by decide)
  obtain ⟨k, hyk, hk⟩ := pick_lt y 207 (by decide)
  obtain ⟨f, hf⟩ : ∃ f, aluTab[i]? = some f := ⟨_, List.getElem?_eq_getElem (by rw [alu_length]; exact hi)⟩
  obtain ⟨g, hg⟩ : ∃ g, aluTab[k]? = some g := ⟨_, List.getElem?_eq_getElem (by rw [alu_length]; exact hk)⟩
  have HW := Lib.hid (ways_of alu_apart hf hg)
  have HP := Lib.hid (And.intro hxi hyk)
  have HF := Lib.hid (And.intro hf hg)
  clear hxi hyk hf hg
  go_enter Try.func11, Try.ntmps11
  go_wp2_with fail
  refine (awake13 w).mono ?_
  rintro e w1 ⟨rfl, hB⟩
  have B1 := Lib.hid hB
  clear hB
  go_wp2_with fail
  refine (rows24 w1).mono ?_
  rintro e w2 ⟨v, rfl, ⟨A, c, rfl, _, hA⟩, _, hB⟩
  rw [alu_length] at hA ⊢
  obtain ⟨b, rfl, hb⟩ := hA (by decide)
  have B2 := Lib.hid (bel B1.out hB)
  have KA := Lib.hid hb
  clear hB hA B1 hb
  go_wp2_with fail
  refine (pick_nat w2 x 207 i (by decide) (by decide) HP.out.1).mono ?_
  rintro e w' ⟨rfl, rfl⟩
  go_wp2_with fail
  refine (pick_nat w2 y 207 k (by decide) (by decide) HP.out.2).mono ?_
  rintro e w' ⟨rfl, rfl⟩
  obtain ⟨s, t, ⟨A1, c1, rfl, _⟩, ⟨A2, c2, rfl, _⟩, r1⟩ := KA.out.2 i f HF.out.1
  obtain ⟨s1, t1, ⟨A3, c3, rfl, _⟩, ⟨A4, c4, rfl, _⟩, r2⟩ := KA.out.2 k g HF.out.2
  obtain ⟨p0, p1, p2, p3, p4, p5, p6, p7, p8, p9⟩ := form_cells r1
  obtain ⟨q0, q1, q2, q3, q4, q5, q6, q7, q8, q9⟩ := form_cells r2
  have h0 : (0 : Int) ≤ (i : Int) := by omega
  have h1 : (i : Int) < (207 : Int) := by omega
  have h2 : (0 : Int) ≤ (k : Int) := by omega
  have h3 : (k : Int) < (207 : Int) := by omega
  have hbl : b < w2.heap.size := KA.out.1
  have hb1 : ¬ b = w2.heap.size := by omega
  have hb2 : ¬ b = w2.heap.size + 1 := by omega
  clear r1 r2
  go_wp2
  go_region
  all_goals
    clear p0 p1 p2 p3 p4 p5 p6 p7 p8 p9 q0 q1 q2 q3 q4 q5 q6 q7 q8 q9 hbl hb1 hb2 h0 h1 h2 h3
    rcases HW.out with ⟨e, e'⟩ | ⟨e, e1⟩ | ⟨e, e1, e2⟩ | ⟨e, e1, e2, e3⟩ | ⟨e, e1, e2, e3, e4⟩ | ⟨e, e1, e2, e3, e4, d1, d2, d3⟩
  all_goals
    clear HW
    first
      | (subst e; subst e'; go_wp2; go_ret; exact ⟨rfl, apart_below B2.out _ _⟩)
      | skip
  all_goals
    have x0 : ((i : Int) == (k : Int)) = false := by simp; omega
    clear e
  · have x1 : (f.pre == g.pre) = false := by simp [e1]
    clear e1
    go_wp2
    go_ret
    exact ⟨rfl, apart_below B2.out _ _⟩
  · have x1 : (f.pre == g.pre) = true := by simp [e1]
    have x2 : (f.w == g.w) = false := by simp [e2]
    clear e1 e2
    go_wp2
    go_ret
    exact ⟨rfl, apart_below B2.out _ _⟩
  · have x1 : (f.pre == g.pre) = true := by simp [e1]
    have x2 : (f.w == g.w) = true := by simp [e2]
    have x3 : (f.map == g.map) = false := by simp [e3]
    clear e1 e2 e3
    go_wp2
    go_ret
    exact ⟨rfl, apart_below B2.out _ _⟩
  · have x1 : (f.pre == g.pre) = true := by simp [e1]
    have x2 : (f.w == g.w) = true := by simp [e2]
    have x3 : (f.map == g.map) = true := by simp [e3]
    have x4 : (f.code == g.code) = false := by simp [e4]
    clear e1 e2 e3 e4
    go_wp2
    go_ret
    exact ⟨rfl, apart_below B2.out _ _⟩
  · have x1 : (f.pre == g.pre) = true := by simp [e1]
    have x2 : (f.w == g.w) = true := by simp [e2]
    have x3 : (f.map == g.map) = true := by simp [e3]
    have x4 : (f.code == g.code) = true := by simp [e4]
    have x5 : (f.digit != g.digit) = true := by simp [d3]
    clear e1 e2 e3 e4 d3
    go_wp2
    go_ret
    exact ⟨rfl, apart_below B2.out _ _⟩
  · have x1 : (f.pre == g.pre) = false := by simp [e1]
    clear e1
    go_wp2
    go_ret
    exact ⟨rfl, apart_below B2.out _ _⟩
  · have x1 : (f.pre == g.pre) = true := by simp [e1]
    have x2 : (f.w == g.w) = false := by simp [e2]
    clear e1 e2
    go_wp2
    go_ret
    exact ⟨rfl, apart_below B2.out _ _⟩
  · have x1 : (f.pre == g.pre) = true := by simp [e1]
    have x2 : (f.w == g.w) = true := by simp [e2]
    have x3 : (f.map == g.map) = false := by simp [e3]
    clear e1 e2 e3
    go_wp2
    go_ret
    exact ⟨rfl, apart_below B2.out _ _⟩
  · have x1 : (f.pre == g.pre) = true := by simp [e1]
    have x2 : (f.w == g.w) = true := by simp [e2]
    have x3 : (f.map == g.map) = true := by simp [e3]
    have x4 : (f.code == g.code) = false := by simp [e4]
    clear e1 e2 e3 e4
    go_wp2
    go_ret
    exact ⟨rfl, apart_below B2.out _ _⟩
  · have x1 : (f.pre == g.pre) = true := by simp [e1]
    have x2 : (f.w == g.w) = true := by simp [e2]
    have x3 : (f.map == g.map) = true := by simp [e3]
    have x4 : (f.code == g.code) = true := by simp [e4]
    have x5 : (f.digit != g.digit) = true := by simp [d3]
    clear e1 e2 e3 e4 d3
    go_wp2
    go_ret
    exact ⟨rfl, apart_below B2.out _ _⟩
end Go.Proofs.Ytchodalkdejiiaa.Lb
