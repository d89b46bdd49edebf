/-
  The document's answer, walked: a text parsed.
-/
import Derived.Test.YtnkdpcalgllnbaaDoorNaX
namespace Go.Proofs.YtnkdpcalgllnbaaDoor.Nr
open Go Go.RowKit Go.Proofs.YtnkdpcalgllnbaaDoor Go.Proofs.YtnkdpcalgllnbaaDoor.Sy Go.Proofs.YtnkdpcalgllnbaaDoor.Na Go.Proofs.YtnkdpcalgllnbaaDoor.Nc Go.Proofs.YtnkdpcalgllnbaaDoor.Np

theorem hit_eq (s : ByteArray) (k : Nat) : ((wd k).toList == s.toList) = hitP s (wordsA.getD k []) := by
  rw [ByteArray.toList_eq, ByteArray.toList_eq]
  show (wordsA.getD k [] == s.data.toList) = _
  cases hh : hitP s (wordsA.getD k []) with
  | true => simpa using hitP_iff.1 hh
  | false =>
    simp only [beq_eq_false_iff_ne]
    intro e
    rw [hitP_iff.2 e] at hh
    cases hh

theorem tail_at {s : ByteArray} {k : Nat} (hk : k < 3) (hm : ∀ j, j < k → (hasI s j && paB (trimI s j)) = false) (h : (hasI s k && paB (trimI s k)) = true) : tailN s = fst k + paN (trimI s k) ∧ tailB s = true := by
  unfold tailN tailB
  match k, hk with
  | 0, _ =>
    rw [h]
    exact ⟨rfl, rfl⟩
  | 1, _ =>
    rw [hm 0 (by omega), h]
    exact ⟨rfl, rfl⟩
  | 2, _ =>
    rw [hm 0 (by omega), hm 1 (by omega), h]
    exact ⟨rfl, rfl⟩
theorem tail_no {s : ByteArray} (hm : ∀ j, j < 3 → (hasI s j && paB (trimI s j)) = false) : tailN s = 0 ∧ tailB s = false := by
  unfold tailN tailB
  rw [hm 0 (by omega), hm 1 (by omega), hm 2 (by omega)]
  exact ⟨rfl, rfl⟩
theorem beh_yes {s : ByteArray} {k : Nat} (h : hasI s k = true) : behS s (pfx k) = trimI s k := if_pos h
theorem cell_of_row' (w : World) (b j : Nat) (cur : Array Value) (t : Nat) (fr : Nat × Nat) (h : w.heap[b]? = some (.cells cur t fr)) : w.cell? ⟨b, j, none⟩ = cur[j]? := by simp [World.cell?, h]

set_option maxHeartbeats 4000000 in
theorem ref8 (s : ByteArray) (w : World) : Calls Tryd.prog 8 #[.string s] w (NmP w (.tuple #[.int .i64 (parN s : Int), .bool (parB s)])) := by
  go_enter Tryd.func8, Tryd.ntmps8
  go_wp2_with fail
  refine (names26 w).mono ?_
  rintro e w1 ⟨b, c, rfl, hT, hB⟩
  have HT := Lib.hid hT
  have B1 := Lib.hid hB
  clear hT hB
  go_wp2
  go_loop [5] (fun i => ∃ k : Nat, k ≤ 322 ∧ i = .int .i64 k ∧ Hid (∀ j, j < k → hitP s (wordsA.getD j []) = false)) (fun i => 322 - (intOf i).toNat)
  case atStart => exact ⟨0, by omega, rfl, Lib.hid fun j hj => absurd hj (by omega)⟩
  case round =>
    obtain ⟨k, hk, rfl, hag⟩ := hrel
    by_cases hlt : k < 322
    · have hc : w1.cell? ⟨b, k, none⟩ = some (.string (wd k)) := HT.out.2 k hlt
      have h0 : (0 : Int) ≤ (k : Int) := by omega
      have h1 : (k : Int) < 322 := by omega
      cases hh : hitP s (wordsA.getD k []) with
      | true =>
        have hb : ((wd k).toList == s.toList) = true := by rw [hit_eq, hh]
        have HF := Lib.hid (fidx_at (s := s) (by rw [wlen]; exact hlt) hh hag.out)
        clear hh
        generalize wd k = u at *
        go_wp2
        go_ret2
        exact ⟨by rw [show parN s = k + 1 by rw [parN, HF.out], show parB s = true by rw [parB, HF.out]]; rfl, B1.out⟩
      | false =>
        have hb : ((wd k).toList == s.toList) = false := by rw [hit_eq, hh]
        have HH := Lib.hid hh
        clear hh
        generalize wd k = u at *
        go_wp2
        refine ⟨⟨k + 1, by omega, by go_num, Lib.hid fun j hj => ?_⟩, by simp [intOf]; omega⟩
        by_cases e : j = k
        · rw [e]; exact HH.out
        · exact hag.out j (by omega)
    · have HF := Lib.hid (fidx_no (s := s) (l := wordsA) (fun j hj => hag.out j (by rw [wlen] at hj; omega)))
      have h1 : ¬ (k : Int) < 322 := by omega
      go_wp2
      generalize hw2 : (w1.alloc (Obj.cells #[.string ⟨#[106]⟩, .string ⟨#[115, 101, 116]⟩, .string ⟨#[99, 109, 111, 118]⟩] 9)).alloc (Obj.cells #[.int .i64 68, .int .i64 84, .int .i64 100] 3) = w2
      have a0 : w2.heap[w1.heap.size]? = some (Obj.cells #[.string ⟨#[106]⟩, .string ⟨#[115, 101, 116]⟩, .string ⟨#[99, 109, 111, 118]⟩] 9) := by
        rw [← hw2, heap_alloc_old _ _ _ (by simp)]
        exact heap_alloc_new _ _
      have a1 : w2.heap[w1.heap.size + 1]? = some (Obj.cells #[.int .i64 68, .int .i64 84, .int .i64 100] 3) := by
        rw [← hw2]
        exact heap_alloc2_new _ _ _
      have hs2 : w2.heap.size = w1.heap.size + 2 := by rw [← hw2]; simp
      have B2 : Hid (Below w.heap.size w w2) := Lib.hid (by
        rw [← hw2]
        exact (B1.out.alloc B1.out.size _).alloc (by have := B1.out.size; simp; omega) _)
      have C0 : Hid (∀ k, k < 3 → w2.cell? ⟨w1.heap.size, k, none⟩ = some (.string (pfx k))) := Lib.hid (by
        intro k hk
        rw [cell_of_row' _ _ k _ _ _ a0]
        match k, hk with
        | 0, _ => rfl
        | 1, _ => rfl
        | 2, _ => rfl)
      have C1 : Hid (∀ k, k < 3 → w2.cell? ⟨w1.heap.size + 1, k, none⟩ = some (.int .i64 (fst k : Int))) := Lib.hid (by
        intro k hk
        rw [cell_of_row' _ _ k _ _ _ a1]
        match k, hk with
        | 0, _ => rfl
        | 1, _ => rfl
        | 2, _ => rfl)
      have hl0 : w1.heap.size < w2.heap.size := by omega
      have hl1 : w1.heap.size + 1 < w2.heap.size := by omega
      clear hw2 a0 a1 hs2 B1 HT hag hk hlt h1
      generalize w1.heap.size = z0 at *
      go_loopw [8] (fun i wr => ∃ k : Nat, k ≤ 3 ∧ i = .int .i64 k ∧ Hid (∀ j, j < k → (hasI s j && paB (trimI s j)) = false) ∧ Hid (Below w2.heap.size w2 wr)) (fun i _ => 3 - (intOf i).toNat)
      case atStart => exact ⟨0, by omega, rfl, Lib.hid fun j hj => absurd hj (by omega), Lib.hid (.refl _ _)⟩
      case round =>
        obtain ⟨k, hk, rfl, hag, hq⟩ := hrel
        by_cases hlt : k < 3
        · have e0 : wr.cell? ⟨z0, k, none⟩ = some (.string (pfx k)) := (hq.out.cell (p := ⟨z0, k, none⟩) hl0).trans (C0.out k hlt)
          have h0 : (0 : Int) ≤ (k : Int) := by omega
          have h1 : (k : Int) < 3 := by omega
          have HB := Lib.hid (behind27 s (pfx k) wr)
          have HP := Lib.hid (parse28 (behS s (pfx k)) wr)
          have e1 : ∀ wr', Below wr.heap.size wr wr' → wr'.cell? ⟨z0 + 1, k, none⟩ = some (.int .i64 (fst k : Int)) := fun wr' hb' =>
            ((hq.out.trans (hb'.mono hq.out.size)).cell (p := ⟨z0 + 1, k, none⟩) hl1).trans (C1.out k hlt)
          have E1 := Lib.hid e1
          clear e1
          have hf : fst k ≤ 100 := by match k, hlt with | 0, _ => decide | 1, _ => decide | 2, _ => decide
          have hp16 := paN_lt (trimI s k)
          cases hh : hasI s k with
          | true =>
            rw [beh_yes hh] at HB HP
            have hh' : Lib.hasPrefix s.data.toList (pfx k).data.toList = true := hh
            rw [hh'] at HB
            cases hp : paB (trimI s k) with
            | true =>
              rw [hp] at HP
              have HTl := Lib.hid (tail_at (s := s) hlt hag.out (by rw [hh, hp]; rfl))
              clear hh hh' hp
              generalize trimI s k = u at *
              generalize pfx k = pf at *
              have f0 : (0 : Int) ≤ (fst k : Int) := by omega
              have f1 : (fst k : Int) ≤ 100 := by omega
              generalize fst k = fk at *
              have n0 : (0 : Int) ≤ (paN u : Int) := by omega
              have n1 : (paN u : Int) ≤ 16 := by omega
              go_wp2_with (go_at_call 27; refine HB.out.mono ?_; rintro e w3 ⟨rfl, rfl⟩)
              refine HP.out.mono ?_
              rintro e w4 ⟨rfl, hB4⟩
              have ec := E1.out w4 hB4
              have BB := Lib.hid (B2.out.trans ((hq.out.trans (hB4.mono hq.out.size)).mono B2.out.size))
              clear HB HP E1 hB4 C0 C1 hq e0
              go_wp2
              go_ret2
              refine ⟨?_, BB.out⟩
              rw [show parN s = tailN s by rw [parN, HF.out], show parB s = tailB s by rw [parB, HF.out], HTl.out.1, HTl.out.2]
              simp
            | false =>
              rw [hp] at HP
              have HM : Hid ((hasI s k && paB (trimI s k)) = false) := Lib.hid (by rw [hp]; simp)
              clear hh hh' hp
              generalize pfx k = pf at *
              go_wp2_with (go_at_call 27; refine HB.out.mono ?_; rintro e w3 ⟨rfl, rfl⟩)
              refine HP.out.mono ?_
              rintro e w4 ⟨rfl, hB4⟩
              have BB := Lib.hid (hq.out.trans (hB4.mono hq.out.size))
              clear HB HP E1 hB4 C0 C1 hq e0
              go_wp2
              go_roundw
              case rel =>
                refine ⟨k + 1, by omega, by go_num, Lib.hid fun j hj => ?_, BB⟩
                by_cases e : j = k
                · rw [e]; exact HM.out
                · exact hag.out j (by omega)
              case measure => simp [intOf]; omega
          | false =>
            have hh' : Lib.hasPrefix s.data.toList (pfx k).data.toList = false := hh
            rw [hh'] at HB
            have HM : Hid ((hasI s k && paB (trimI s k)) = false) := Lib.hid (by rw [hh]; simp)
            clear hh hh'
            generalize behS s (pfx k) = u at *
            generalize pfx k = pf at *
            go_wp2_with (go_at_call 27; refine HB.out.mono ?_; rintro e w3 ⟨rfl, rfl⟩)
            refine HP.out.mono ?_
            rintro e w4 ⟨rfl, hB4⟩
            have BB := Lib.hid (hq.out.trans (hB4.mono hq.out.size))
            clear HB HP E1 hB4 C0 C1 hq e0
            go_wp2
            go_roundw
            case rel =>
              refine ⟨k + 1, by omega, by go_num, Lib.hid fun j hj => ?_, BB⟩
              by_cases e : j = k
              · rw [e]; exact HM.out
              · exact hag.out j (by omega)
            case measure => simp [intOf]; omega
        · have h1 : ¬ (k : Int) < 3 := by omega
          have HTl := Lib.hid (tail_no (s := s) fun j hj => hag.out j (by omega))
          go_wp2
          go_ret2
          refine ⟨?_, B2.out.trans (hq.out.mono B2.out.size)⟩
          rw [show parN s = tailN s by rw [parN, HF.out], show parB s = tailB s by rw [parB, HF.out], HTl.out.1, HTl.out.2]
          rfl
end Go.Proofs.YtnkdpcalgllnbaaDoor.Nr
