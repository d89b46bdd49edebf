/-
  AluEight walked.
-/
import Derived.Test.YtchodalkdejiiaaLdA
namespace Go.Proofs.Ytchodalkdejiiaa.Ld
open Go Go.RowKit Go.Proofs.Ytchodalkdejiiaa.La Go.Proofs.Ytchodalkdejiiaa.Lb Go.Proofs.Ytchodalkdejiiaa.Sy Go.Proofs.Ytchodalkdejiiaa.Wa Go.Proofs.Ytchodalkdejiiaa.Tab

set_option maxHeartbeats 4000000 in
theorem alu_eight_law (w : World) (x y : Int) : Calls Try.prog 10 #[.int .i64 x, .int .i64 y] w (FormP w true) := by
  obtain ⟨i, hxi, hi⟩ := pick_lt x 8 (by decide)
  obtain ⟨k, hyk, hk⟩ := pick_lt y 8 (by decide)
  have HP := Lib.hid (And.intro hxi hyk)
  have HI := Lib.hid (And.intro hi hk)
  have i0 : (0 : Int) ≤ (i : Int) := by omega
  have i1 : (i : Int) < 8 := by omega
  have k0 : (0 : Int) ≤ (k : Int) := by omega
  have k1 : (k : Int) < 8 := by omega
  clear hxi hyk hi hk
  go_enter Try.func10, Try.ntmps10
  go_wp2_with fail
  refine (awake13 w).mono ?_
  rintro e w1 ⟨rfl, hB⟩
  have B1 := Lib.hid hB
  clear hB
  go_wp2_with fail
  refine (pick_nat w1 x 8 i (by decide) (by decide) HP.out.1).mono ?_
  rintro e w' ⟨rfl, rfl⟩
  go_wp2_with fail
  refine (pick_nat w1 y 8 k (by decide) (by decide) HP.out.2).mono ?_
  rintro e w' ⟨rfl, rfl⟩
  clear HP
  go_wp2_with fail
  refine (rows24 w1).mono ?_
  rintro e w2 ⟨v, rfl, hA, _, hB⟩
  have KA := Lib.hid hA
  have B2 := Lib.hid (bel B1.out hB)
  clear hA hB B1
  go_wp2_with fail
  refine (forms_of w2 v aluTab (1 + i) KA.out).mono ?_
  rintro e w3 ⟨v1, rfl, hA, hB⟩
  have KA1 := Lib.hid hA
  have B3 := Lib.hid (bel B2.out hB)
  clear hA hB B2 KA
  go_wp2_with fail
  refine (rows24 w3).mono ?_
  rintro e w4 ⟨v, rfl, hA, _, hB⟩
  have KA := Lib.hid hA
  have KB1 := Lib.hid (KA1.out.below hB)
  have B4 := Lib.hid (bel B3.out hB)
  clear hA hB B3 KA1
  go_wp2_with fail
  refine (forms_of w4 v aluTab (1 + k) KA.out).mono ?_
  rintro e w5 ⟨v2, rfl, ⟨A2, c2, rfl, _, hA2⟩, hB⟩
  obtain ⟨A1, c1, rfl, _, hA1⟩ := KB1.out.below hB
  rw [eight_len HI.out.1] at hA1 ⊢
  rw [eight_len HI.out.2] at hA2 ⊢
  obtain ⟨b1, rfl, hb1⟩ := hA1 (by decide)
  obtain ⟨b2, rfl, hb2⟩ := hA2 (by decide)
  have F1 := Lib.hid hb1
  have F2 := Lib.hid hb2
  have B5 := Lib.hid (bel B4.out hB)
  clear hA1 hA2 hb1 hb2 hB B4 KB1 KA
  go_wp2
  go_loopw [8] (fun j wr => ∃ n : Nat, n ≤ 19 ∧ j = .int .i64 n ∧ Hid (Below w5.heap.size w5 wr)) (fun j _ => 19 - (intOf j).toNat)
  case atStart => exact ⟨0, Nat.zero_le _, rfl, Lib.hid (.refl _ _)⟩
  case round =>
    obtain ⟨n, hn, rfl, hq⟩ := hrel
    by_cases hlt : n < 19
    · obtain ⟨f, hf⟩ : ∃ f, (ofOp aluTab (1 + i))[n]? = some f := ⟨_, List.getElem?_eq_getElem (by rw [eight_len HI.out.1]; exact hlt)⟩
      obtain ⟨g, hg⟩ : ∃ g, (ofOp aluTab (1 + k))[n]? = some g := ⟨_, List.getElem?_eq_getElem (by rw [eight_len HI.out.2]; exact hlt)⟩
      obtain ⟨et, d0, d1, e0, e1⟩ := eight_row HI.out.1 HI.out.2 hf hg
      obtain ⟨s, t, i1, i2, r1⟩ := (F1.out.below hq.out).2 n _ hf
      obtain ⟨s1, t1, i3, i4, r2⟩ := (F2.out.below hq.out).2 n _ hg
      have I1 := Lib.hid i1
      have I2 := Lib.hid i2
      have I3 := Lib.hid i3
      have I4 := Lib.hid i4
      obtain ⟨A3, c3, rfl, _⟩ := i1
      obtain ⟨A4, c4, rfl, _⟩ := i2
      obtain ⟨A5, c5, rfl, _⟩ := i3
      obtain ⟨A6, c6, rfl, _⟩ := i4
      obtain ⟨p0, p1, p2, p3, p4, p5, p6, p7, p8, p9⟩ := form_cells r1
      obtain ⟨q0, q1, q2, q3, q4, q5, q6, q7, q8, q9⟩ := form_cells r2
      have h0 : (0 : Int) ≤ (n : Int) := by omega
      have h1 : (n : Int) < (19 : Int) := by omega
      have ET := Lib.hid et
      have hl1 : b1 < wr.heap.size := Nat.lt_of_lt_of_le F1.out.1 hq.out.size
      have hl2 : b2 < wr.heap.size := Nat.lt_of_lt_of_le F2.out.1 hq.out.size
      have hb1 : ¬ b1 = wr.heap.size := by omega
      have hb2 : ¬ b2 = wr.heap.size := by omega
      have R2 := Lib.hid r2
      clear et r1 r2 hf hg
      by_cases hd : 0 ≤ f.digit
      · go_wp2
        generalize hw6 : wr.alloc (Obj.cells #[.int .i64 g.op, .slice A3 f.sh.length c3, .slice A4 f.sl.length c4, .int .i64 f.pre, .int .i64 f.map, .int .i64 (f.code), .int .i64 (f.digit + (k : Int) - (i : Int)), .int .i64 f.w, .bool f.vex, .int .i64 f.l] 32) = w6
        have B6 : Below wr.heap.size wr w6 := by rw [← hw6]; exact (Below.refl _ wr).alloc (Nat.le_refl _) _
        have hnew : w6.heap[wr.heap.size]? = some (Obj.cells #[.int .i64 g.op, .slice A3 f.sh.length c3, .slice A4 f.sl.length c4, .int .i64 f.pre, .int .i64 f.map, .int .i64 (f.code), .int .i64 (f.digit + (k : Int) - (i : Int)), .int .i64 f.w, .bool f.vex, .int .i64 f.l] 32) := by rw [← hw6]; exact heap_alloc_new _ _
        have x0 : w6.cell? ⟨wr.heap.size, 0, none⟩ = some (.int .i64 g.op) := by rw [cell_of_row w6 _ 0 _ 32 (0, 0) hnew]; rfl
        have x1 : w6.cell? ⟨wr.heap.size, 1, none⟩ = some (.slice A3 f.sh.length c3) := by rw [cell_of_row w6 _ 1 _ 32 (0, 0) hnew]; rfl
        have x2 : w6.cell? ⟨wr.heap.size, 2, none⟩ = some (.slice A4 f.sl.length c4) := by rw [cell_of_row w6 _ 2 _ 32 (0, 0) hnew]; rfl
        have x3 : w6.cell? ⟨wr.heap.size, 3, none⟩ = some (.int .i64 f.pre) := by rw [cell_of_row w6 _ 3 _ 32 (0, 0) hnew]; rfl
        have x4 : w6.cell? ⟨wr.heap.size, 4, none⟩ = some (.int .i64 f.map) := by rw [cell_of_row w6 _ 4 _ 32 (0, 0) hnew]; rfl
        have x5 : w6.cell? ⟨wr.heap.size, 5, none⟩ = some (.int .i64 (f.code)) := by rw [cell_of_row w6 _ 5 _ 32 (0, 0) hnew]; rfl
        have x6 : w6.cell? ⟨wr.heap.size, 6, none⟩ = some (.int .i64 (f.digit + (k : Int) - (i : Int))) := by rw [cell_of_row w6 _ 6 _ 32 (0, 0) hnew]; rfl
        have x7 : w6.cell? ⟨wr.heap.size, 7, none⟩ = some (.int .i64 f.w) := by rw [cell_of_row w6 _ 7 _ 32 (0, 0) hnew]; rfl
        have x8 : w6.cell? ⟨wr.heap.size, 8, none⟩ = some (.bool f.vex) := by rw [cell_of_row w6 _ 8 _ 32 (0, 0) hnew]; rfl
        have x9 : w6.cell? ⟨wr.heap.size, 9, none⟩ = some (.int .i64 f.l) := by rw [cell_of_row w6 _ 9 _ 32 (0, 0) hnew]; rfl
        obtain ⟨q0, q1, q2, q3, q4, q5, q6, q7, q8, q9⟩ := form_cells (rangeAt_below R2.out hl2 B6)
        have B7 : Below wr.heap.size wr w6.drew := bdn B6 1
        have hF : ({ f with op := g.op, digit := f.digit + k - i } : Fm) = g := by
          have := ET.out
          unfold turned at this
          rw [if_pos hd] at this
          rw [← this]
          congr 1
          omega
        have HC : Hid (Calls Try.prog 23 #[.agg #[.int .i64 g.op, .slice A3 f.sh.length c3, .slice A4 f.sl.length c4, .int .i64 f.pre, .int .i64 f.map, .int .i64 (f.code), .int .i64 (f.digit + (k : Int) - (i : Int)), .int .i64 f.w, .bool f.vex, .int .i64 f.l], .agg #[.int .i64 g.op, .slice A5 g.sh.length c5, .slice A6 g.sl.length c6, .int .i64 g.pre, .int .i64 g.map, .int .i64 g.code, .int .i64 g.digit, .int .i64 g.w, .bool g.vex, .int .i64 g.l]] w6.drew (FormP w6.drew true)) := by
          apply Lib.hid
          have := same_form w6.drew { f with op := g.op, digit := f.digit + k - i } g _ _ _ _ (I1.out.below B7) (I2.out.below B7) (I3.out.below B7) (I4.out.below B7)
          rw [decide_eq_true hF] at this
          exact this
        have BB : Hid (Below w5.heap.size w5 w6.drew) := Lib.hid (hq.out.trans (B7.mono hq.out.size))
        clear hq hw6 B6 B7 hnew hF ET R2 I1 I2 I3 I4 hl1 hl2 hb1 hb2
        go_still_tail 5, (by kernel_rfl)
        change wpList _ _ _ _ _ w6.drew
        clear x0 x1 x2 x3 x4 x5 x6 x7 x8 x9 q0 q1 q2 q3 q4 q5 q6 q7 q8 q9
        generalize w6.drew = w7 at *
        go_wp2_with fail
        refine HC.out.mono ?_
        rintro e w' ⟨rfl, hb'⟩
        have hbb : Hid (Below w5.heap.size w5 w') := Lib.hid (BB.out.trans (hb'.mono BB.out.size))
        clear HC hb' BB
        go_wp2
        go_roundw
        case rel => exact ⟨n + 1, by omega, by go_num, hbb⟩
        case measure => simp [intOf]; omega
      · have hd' : f.digit < 0 := by omega
        go_wp2
        generalize hw6 : wr.alloc (Obj.cells #[.int .i64 g.op, .slice A3 f.sh.length c3, .slice A4 f.sl.length c4, .int .i64 f.pre, .int .i64 f.map, .int .i64 (f.code + 8 * ((k : Int) - (i : Int))), .int .i64 (f.digit), .int .i64 f.w, .bool f.vex, .int .i64 f.l] 32) = w6
        have B6 : Below wr.heap.size wr w6 := by rw [← hw6]; exact (Below.refl _ wr).alloc (Nat.le_refl _) _
        have hnew : w6.heap[wr.heap.size]? = some (Obj.cells #[.int .i64 g.op, .slice A3 f.sh.length c3, .slice A4 f.sl.length c4, .int .i64 f.pre, .int .i64 f.map, .int .i64 (f.code + 8 * ((k : Int) - (i : Int))), .int .i64 (f.digit), .int .i64 f.w, .bool f.vex, .int .i64 f.l] 32) := by rw [← hw6]; exact heap_alloc_new _ _
        have x0 : w6.cell? ⟨wr.heap.size, 0, none⟩ = some (.int .i64 g.op) := by rw [cell_of_row w6 _ 0 _ 32 (0, 0) hnew]; rfl
        have x1 : w6.cell? ⟨wr.heap.size, 1, none⟩ = some (.slice A3 f.sh.length c3) := by rw [cell_of_row w6 _ 1 _ 32 (0, 0) hnew]; rfl
        have x2 : w6.cell? ⟨wr.heap.size, 2, none⟩ = some (.slice A4 f.sl.length c4) := by rw [cell_of_row w6 _ 2 _ 32 (0, 0) hnew]; rfl
        have x3 : w6.cell? ⟨wr.heap.size, 3, none⟩ = some (.int .i64 f.pre) := by rw [cell_of_row w6 _ 3 _ 32 (0, 0) hnew]; rfl
        have x4 : w6.cell? ⟨wr.heap.size, 4, none⟩ = some (.int .i64 f.map) := by rw [cell_of_row w6 _ 4 _ 32 (0, 0) hnew]; rfl
        have x5 : w6.cell? ⟨wr.heap.size, 5, none⟩ = some (.int .i64 (f.code + 8 * ((k : Int) - (i : Int)))) := by rw [cell_of_row w6 _ 5 _ 32 (0, 0) hnew]; rfl
        have x6 : w6.cell? ⟨wr.heap.size, 6, none⟩ = some (.int .i64 (f.digit)) := by rw [cell_of_row w6 _ 6 _ 32 (0, 0) hnew]; rfl
        have x7 : w6.cell? ⟨wr.heap.size, 7, none⟩ = some (.int .i64 f.w) := by rw [cell_of_row w6 _ 7 _ 32 (0, 0) hnew]; rfl
        have x8 : w6.cell? ⟨wr.heap.size, 8, none⟩ = some (.bool f.vex) := by rw [cell_of_row w6 _ 8 _ 32 (0, 0) hnew]; rfl
        have x9 : w6.cell? ⟨wr.heap.size, 9, none⟩ = some (.int .i64 f.l) := by rw [cell_of_row w6 _ 9 _ 32 (0, 0) hnew]; rfl
        obtain ⟨q0, q1, q2, q3, q4, q5, q6, q7, q8, q9⟩ := form_cells (rangeAt_below R2.out hl2 B6)
        have B7 : Below wr.heap.size wr w6.drew := bdn B6 1
        have hF : ({ f with op := g.op, code := f.code + 8 * (k - i) } : Fm) = g := by
          have := ET.out
          unfold turned at this
          rw [if_neg (show ¬ 0 ≤ f.digit by omega)] at this
          rw [← this]
        have HC : Hid (Calls Try.prog 23 #[.agg #[.int .i64 g.op, .slice A3 f.sh.length c3, .slice A4 f.sl.length c4, .int .i64 f.pre, .int .i64 f.map, .int .i64 (f.code + 8 * ((k : Int) - (i : Int))), .int .i64 (f.digit), .int .i64 f.w, .bool f.vex, .int .i64 f.l], .agg #[.int .i64 g.op, .slice A5 g.sh.length c5, .slice A6 g.sl.length c6, .int .i64 g.pre, .int .i64 g.map, .int .i64 g.code, .int .i64 g.digit, .int .i64 g.w, .bool g.vex, .int .i64 g.l]] w6.drew (FormP w6.drew true)) := by
          apply Lib.hid
          have := same_form w6.drew { f with op := g.op, code := f.code + 8 * (k - i) } g _ _ _ _ (I1.out.below B7) (I2.out.below B7) (I3.out.below B7) (I4.out.below B7)
          rw [decide_eq_true hF] at this
          exact this
        have BB : Hid (Below w5.heap.size w5 w6.drew) := Lib.hid (hq.out.trans (B7.mono hq.out.size))
        clear hq hw6 B6 B7 hnew hF ET R2 I1 I2 I3 I4 hl1 hl2 hb1 hb2
        go_still_tail 5, (by kernel_rfl)
        change wpList _ _ _ _ _ w6.drew
        clear x0 x1 x2 x3 x4 x5 x6 x7 x8 x9 q0 q1 q2 q3 q4 q5 q6 q7 q8 q9
        generalize w6.drew = w7 at *
        go_wp2_with fail
        refine HC.out.mono ?_
        rintro e w' ⟨rfl, hb'⟩
        have hbb : Hid (Below w5.heap.size w5 w') := Lib.hid (BB.out.trans (hb'.mono BB.out.size))
        clear HC hb' BB
        go_wp2
        go_roundw
        case rel => exact ⟨n + 1, by omega, by go_num, hbb⟩
        case measure => simp [intOf]; omega
    · obtain rfl : n = 19 := by omega
      go_wp2
      go_ret
      exact ⟨rfl, bel B5.out hq.out⟩
end Go.Proofs.Ytchodalkdejiiaa.Ld
