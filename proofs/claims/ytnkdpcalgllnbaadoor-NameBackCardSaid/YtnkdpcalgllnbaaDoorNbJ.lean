/-
  NameBack, by its runs.
-/
import Derived.Test.YtnkdpcalgllnbaaDoorNbH0
import Derived.Test.YtnkdpcalgllnbaaDoorNbH1
import Derived.Test.YtnkdpcalgllnbaaDoorNbH2
import Derived.Test.YtnkdpcalgllnbaaDoorNbH3
import Derived.Test.YtnkdpcalgllnbaaDoorNbI0
import Derived.Test.YtnkdpcalgllnbaaDoorNbI1
namespace Go.Proofs.YtnkdpcalgllnbaaDoor.Nv
open Go Go.RowKit Go.Proofs.YtnkdpcalgllnbaaDoor Go.Proofs.YtnkdpcalgllnbaaDoor.Sy Go.Proofs.YtnkdpcalgllnbaaDoor.Na Go.Proofs.YtnkdpcalgllnbaaDoor.Nc Go.Proofs.YtnkdpcalgllnbaaDoor.Np Go.Proofs.YtnkdpcalgllnbaaDoor.Nr Go.Proofs.YtnkdpcalgllnbaaDoor.Nb
theorem first_any (k : Nat) (h : k < 322) : firstK k = true := by
  have key : ∀ (o n : Nat), ((List.range n).all fun j => firstK (o + j)) = true → o ≤ k → k < o + n → firstK k = true := by
    intro o n h1 h2 h3
    have := List.all_eq_true.1 h1 (k - o) (List.mem_range.2 (by omega))
    rwa [show o + (k - o) = k by omega] at this
  by_cases h1 : k < 81
  · exact key 0 81 first_part0 (by omega) (by omega)
  by_cases h2 : k < 162
  · exact key 81 81 first_part1 (by omega) (by omega)
  by_cases h3 : k < 242
  · exact key 162 80 first_part2 (by omega) (by omega)
  · exact key 242 80 first_part3 (by omega) (by omega)

/-! ### The names are apart -/
theorem nameOf_in {k : Nat} (h : k < 322) : nameOf (((k + 1 : Nat) : Int)) = wd k := by
  unfold nameOf wd
  rw [if_pos (by omega), show (((k + 1 : Nat) : Int)).toNat - 1 = k by omega]
theorem nameOf_out {n : Int} (h : ¬ (1 ≤ n ∧ n ≤ 322)) : nameOf n = ⟨#[]⟩ := by
  unfold nameOf
  rw [if_neg h]
theorem par_name {k : Nat} (h : k < 322) : parN (nameOf (((k + 1 : Nat) : Int))) = k + 1 := by
  rw [nameOf_in h]
  exact Nat.eq_of_beq_eq_true (List.all_eq_true.1 words_par k (List.mem_range.2 h))
theorem oth_of (o : Int) (k : Nat) : Oth o k (o == (k : Int)) := by
  refine ⟨rfl, fun h h1 h2 he => ?_⟩
  have hne : ¬ o = (k : Int) := by simpa using h
  obtain ⟨j, rfl⟩ : ∃ j, k = j + 1 := ⟨k - 1, by omega⟩
  have e1 : parN (nameOf (Int.ofNat (j + 1))) = j + 1 := par_name (by omega)
  rw [← he] at e1
  by_cases ho : 1 ≤ o ∧ o ≤ 322
  · obtain ⟨i, rfl⟩ : ∃ i : Nat, o = ((i + 1 : Nat) : Int) := ⟨o.toNat - 1, by omega⟩
    rw [par_name (by omega)] at e1
    exact hne (by rw [e1])
  · rw [nameOf_out ho, Nat.eq_of_beq_eq_true none_par] at e1
    omega

/-! ### A text that is read -/
theorem fidx_hit {s : ByteArray} : ∀ {l : List (List UInt8)} {k : Nat}, fidx s l = some k → ∃ x ∈ l, hitP s x = true
  | [], k, h => by cases h
  | x :: l, k, h => by
    unfold fidx at h
    by_cases hx : hitP s x = true
    · exact ⟨x, List.mem_cons_self .., hx⟩
    · rw [if_neg hx] at h
      obtain ⟨k', hk, _⟩ := Option.map_eq_some_iff.1 h
      obtain ⟨y, hy, h2⟩ := fidx_hit hk
      exact ⟨y, List.mem_cons_of_mem _ hy, h2⟩
theorem tail_text {s : ByteArray} {i : Nat} (h : (hasI s i && paB (trimI s i)) = true) : ∃ p ∈ wordsL, s.data.toList = (pfx i).data.toList ++ p.1.data.toList := by
  rw [Bool.and_eq_true] at h
  obtain ⟨h1, h2⟩ := h
  unfold paB at h2
  obtain ⟨k, hk⟩ := Option.isSome_iff_exists.1 h2
  refine ⟨_, findT_some hk, ?_⟩
  have h1' : Lib.hasPrefix s.data.toList (pfx i).data.toList = true := h1
  have h3 : (pfx i).data.toList <+: s.data.toList := List.isPrefixOf_iff_prefix.1 h1'
  obtain ⟨r, hr⟩ := h3
  show s.data.toList = (pfx i).data.toList ++ (trimI s i).data.toList
  unfold trimI Lib.trimPrefix
  rw [if_pos h1', ← hr]
  simp
theorem second_of {s : ByteArray} (h : parB s = true) : secondW s.data.toList = true := by
  unfold parB at h
  split at h
  · rename_i k hk
    obtain ⟨x, hx, h2⟩ := fidx_hit hk
    rw [← hitP_iff.1 h2]
    exact List.all_eq_true.1 second_words x hx
  · have key : ∀ i, i < 3 → (hasI s i && paB (trimI s i)) = true → secondW s.data.toList = true := by
      intro i hi hb
      obtain ⟨p, hp, e⟩ := tail_text hb
      rw [e]
      exact List.all_eq_true.1 (List.all_eq_true.1 second_tails i (List.mem_range.2 hi)) p hp
    unfold tailB at h
    rw [Bool.or_eq_true, Bool.or_eq_true] at h
    rcases h with h | h | h
    · exact key 0 (by decide) h
    · exact key 1 (by decide) h
    · exact key 2 (by decide) h
theorem par_no {s : ByteArray} (h : parB s = false) : parN s = 0 := by
  unfold parB at h
  unfold parN
  split at h
  · cases h
  · unfold tailB at h
    rw [Bool.or_eq_false_iff, Bool.or_eq_false_iff] at h
    show tailN s = 0
    unfold tailN
    rw [h.1, h.2.1, h.2.2]
    rfl

theorem args_on {q : SV} (hqo : q.on fun _ => False) : ∀ s ∈ [q, .one (.sym 2), .one (.sym 1)], SV.on (fun _ => False) s := by
  intro s hs
  simp only [List.mem_cons, List.not_mem_nil, or_false] at hs
  rcases hs with rfl | rfl | rfl
  · exact hqo
  · trivial
  · trivial

theorem back_any {n o : Int} {t : ByteArray} {cmp : BinOp → Int → Option Bool} {k : Nat} {same out : Bool} {q : SV} (hc : CmpOK n cmp) (hl : ¬ (t.size : Int) > 100) (ho : Oth o k same) (hout : out = true → nameOf n = ⟨#[]⟩)
    (hq : q.val (V0 (Sb n o t)) = .int .i64 n) (hqo : q.on fun _ => False) (h1 : first1 cmp k same out q = true) (w : World) : Calls Tryd.prog 5 #[.int .i64 n, .int .i64 o, .string t] w (BoolP w true) := by
  have ha : (([q, .one (.sym 2), .one (.sym 1)] : List SV).map (SV.val (V0 (Sb n o t)))).toArray = #[.int .i64 n, .int .i64 o, .string t] := by
    simp only [List.map_cons, List.map_nil, hq]
    rfl
  rw [← ha]
  have hl' : false = decide ((t.size : Int) > 100) := by simp; omega
  cases hp : parB t with
  | false =>
    exact back_split code5 (C1 := Cb cmp k same false) (S1 := Sb n o t) (C2 := C0) (S2 := S2 t) rfl rfl (xokB hc hl' ho) (callB_ok hc hl' ho hout) (ctx_ok (S2_one t) liT) (callS_ok (S2_one t) liT (sumN_ok (par_no hp) hp)) rfl (args_on hqo) h1 (q := .one (.sym 1))
      (fun V hV => by simp only [SV.val, At.val, hV]; rfl) trivial second_no w
  | true =>
    have h2 := second_of hp
    have e0 : (⟨t.data.toList.toArray⟩ : ByteArray) = t := by cases t; simp
    exact back_split code5 (C1 := Cb cmp k same false) (S1 := Sb n o t) (C2 := C0) (S2 := S2 t) rfl rfl (xokB hc hl' ho) (callB_ok hc hl' ho hout) (ctx_ok (S2_one t) liT) (callL_ok (S2_one t) liT) rfl (args_on hqo) h1 (q := litS ⟨t.data.toList.toArray⟩)
      (fun V _ => by rw [e0]; rfl) trivial h2 w

theorem back_law (w : World) (n o : Int) (t : ByteArray) : Calls Tryd.prog 5 #[.int .i64 n, .int .i64 o, .string t] w (BoolP w true) := by
  by_cases hl : (t.size : Int) > 100
  · refine true_of_run (X := cx (Cb (fun _ _ => none) 0 (o == ((0 : Nat) : Int)) true) (Sb n o t)) (callB_ok (out := false) (fun _ _ _ h => by cases h) (by simp [hl]) (oth_of o 0) (fun h => by cases h)) (f := 5) (args := [.one (.sym 0), .one (.sym 2), .one (.sym 1)]) ?_ (fun _ _ _ => trivial) ?_ w ?_
    · cases (o == ((0 : Nat) : Int))
      · exact long_run
      · exact long_run'
    · intro s hs
      simp only [List.mem_cons, List.not_mem_nil, or_false] at hs
      rcases hs with rfl | rfl | rfl <;> trivial
    · intro V hV
      simp only [List.map_cons, List.map_nil, SV.val, At.val, hV]
      rfl
  by_cases h1 : n < 1
  · have hr : ∀ b, first1 cmpL 0 b true (.one (.sym 0)) = true := fun b => by
      cases b
      · exact first_low
      · exact first_low'
    exact back_any (q := .one (.sym 0)) (cmpL_ok h1) hl (oth_of o 0) (fun _ => nameOf_out (by omega)) rfl trivial (hr _) w
  by_cases h2 : 322 < n
  · have hr : ∀ b, first1 cmpH 0 b true (.one (.sym 0)) = true := fun b => by
      cases b
      · exact first_high
      · exact first_high'
    exact back_any (q := .one (.sym 0)) (cmpH_ok h2) hl (oth_of o 0) (fun _ => nameOf_out (by omega)) rfl trivial (hr _) w
  obtain ⟨k, rfl⟩ : ∃ k : Nat, n = ((k + 1 : Nat) : Int) := ⟨n.toNat - 1, by omega⟩
  have h3 := first_any k (by omega)
  unfold firstK at h3
  rw [Bool.and_eq_true] at h3
  have hr : ∀ b, first1 (fun _ _ => none) (k + 1) b false (.one (litI (k + 1))) = true := fun b => by
    cases b
    · exact h3.2
    · exact h3.1
  exact back_any (cmp := fun _ _ => none) (q := .one (litI (k + 1))) (fun _ _ _ h => by cases h) hl (oth_of o (k + 1)) (fun h => by cases h) rfl trivial (hr _) w
end Go.Proofs.YtnkdpcalgllnbaaDoor.Nv
