/-
  NameConds: by its runs, which condition and which of its names told.
-/
import Derived.Test.YtnkdpcalgllnbaaDoorNbA
namespace Go.Proofs.YtnkdpcalgllnbaaDoor.Nb
open Go Go.RowKit Go.Proofs.YtnkdpcalgllnbaaDoor Go.Proofs.YtnkdpcalgllnbaaDoor.Sy Go.Proofs.YtnkdpcalgllnbaaDoor.Na Go.Proofs.YtnkdpcalgllnbaaDoor.Nc Go.Proofs.YtnkdpcalgllnbaaDoor.Np Go.Proofs.YtnkdpcalgllnbaaDoor.Nr

def PickP (w : World) (x : Int) (e : Ending) (w' : World) : Prop := e = .returned (.int .i64 x) ∧ w = w'
theorem pick (w : World) (x : Int) (m : Nat) (h1 : 1 ≤ m) (h2 : m ≤ 1000000) : Calls Tryd.prog 21 #[.int .i64 x, .int .i64 m] w (PickP w (x % m)) := by
  have e1 : x.tmod m = x % m - if 0 ≤ x ∨ (m : Int) ∣ x then 0 else (m : Int) := by
    rw [Int.tmod_eq_emod]
    split <;> simp
  have b1 : 0 ≤ x % (m : Int) := Int.emod_nonneg x (by omega)
  have b2 : x % (m : Int) < m := Int.emod_lt_of_pos x (by omega)
  have hlo : -(m : Int) ≤ x.tmod m := by rw [e1]; split <;> omega
  have hhi : x.tmod m < m := by rw [e1]; split <;> omega
  have HE := Lib.hid e1
  have HB := Lib.hid (And.intro b1 b2)
  have hm : (1 : Int) ≤ (m : Int) := by omega
  have hm0 : ¬ (m : Int) = 0 := by omega
  clear e1 b1 b2
  by_cases hneg : x.tmod m < 0
  · have HR : Hid (x.tmod m + m = x % m) := by
      have := HE.out
      have b := HB.out
      apply Lib.hid
      rw [this] at hneg ⊢
      split at hneg <;> rename_i hc
      · omega
      · rw [if_neg hc]; omega
    go_enter Tryd.func21, Tryd.ntmps21
    go_wp2
    go_ret
    exact ⟨by rw [← HR.out]; rfl, rfl⟩
  · have HR : Hid (x.tmod m = x % m) := by
      have := HE.out
      have b := HB.out
      apply Lib.hid
      rw [this] at hneg ⊢
      split at hneg <;> rename_i hc
      · rw [if_pos hc]; omega
      · omega
    go_enter Tryd.func21, Tryd.ntmps21
    go_wp2
    go_ret
    exact ⟨by rw [← HR.out]; rfl, rfl⟩

/-- The letters: 0: the condition's number; 1: which of its names. -/
noncomputable def Sc (n x : Int) : Nat → Value := fun j => if Nat.beq j 0 then .int .i64 n else .int .i64 x
theorem Sc_one (n x : Int) : ∀ k, (Sc n x k).oneCell' = true := fun k => by unfold Sc; split <;> rfl
noncomputable def lenK (k : Nat) : Nat := [1, 1, 3, 3, 2, 2, 2, 2, 1, 1, 2, 2, 2, 2, 2, 2].getD k 1
noncomputable def sumK (k i : Nat) : CallT := fun f args m =>
  if Nat.beq f 21 then (match args with
    | [.one (.sym j), .one (.lit (.int .i64 (.ofNat d)))] => if Nat.beq j 0 && Nat.beq d 16 then some (.one (litI k), m) else if Nat.beq j 1 && Nat.beq d (lenK k) then some (.one (litI i), m) else none
    | _ => none) else
  if Nat.beq f 17 then (match args with | [] => some (.one (.lit (.bool true)), m) | _ => none) else sumL f args m
noncomputable def callK (k i : Nat) : CallT := callS (sumK k i)
theorem sumK_ok {n x : Int} {k i : Nat} (hk : n % 16 = (k : Int)) (hi : x % (lenK k : Int) = (i : Int)) (h1 : 1 ≤ lenK k) (h2 : lenK k ≤ 3) : CallOK (ctx (Sc n x) 0 T3) (sumK k i) := by
  intro f args m r m' h
  unfold sumK at h
  by_cases e : Nat.beq f 21 = true
  · rw [if_pos e] at h
    have e' := Nat.eq_of_beq_eq_true e
    clear e
    subst e'
    split at h
    case h_2 => cases h
    rename_i j d
    have key : ∀ (z : Int) (q : Nat), (∀ V : Va, V.sym = Sc n x → V.sym j = .int .i64 z) → 1 ≤ d → d ≤ 16 → z % (d : Int) = (q : Int) →
        (∀ xs w, (callFunc 21 xs).run Tryd.prog w = .ok (.enter 21 xs) w) ∧ ∀ (D : Nat → Prop) (V : Va) (w : World), Sy.Good (ctx (Sc n x) 0 T3) V → RelM D V m w → (ctx (Sc n x) 0 T3).LI D V w → (∀ s ∈ [SV.one (At.sym j), SV.one (At.lit (.int .i64 (.ofNat d)))], s.on D) →
          Calls Tryd.prog 21 (([SV.one (At.sym j), SV.one (At.lit (.int .i64 (.ofNat d)))]).map (SV.val V)).toArray w (Gives D V w m (.one (litI q)) m) := by
      intro z q hV d1 d2 hq
      refine ⟨Tryd.call21, fun D V w hg hm _ _ => ?_⟩
      have ha : (([SV.one (At.sym j), SV.one (At.lit (.int .i64 (.ofNat d)))]).map (SV.val V)).toArray = #[.int .i64 z, .int .i64 ((d : Nat) : Int)] := by
        simp only [List.map_cons, List.map_nil, SV.val, At.val, hV V hg.sym]
        rfl
      rw [ha]
      refine give_val (v := .int .i64 (q : Int)) hm rfl trivial (Calls.mono (h := pick w z d d1 (by omega)) ?_)
      rintro e w' ⟨rfl, rfl⟩
      exact ⟨by rw [← hq], Below.refl _ _⟩
    by_cases e1 : (Nat.beq j 0 && Nat.beq d 16) = true
    · rw [if_pos e1] at h
      rw [Bool.and_eq_true] at e1
      have ej := Nat.eq_of_beq_eq_true e1.1
      have ed := Nat.eq_of_beq_eq_true e1.2
      subst ej
      subst ed
      cases h
      exact key n k (fun V hV => by rw [hV]; rfl) (by decide) (by decide) hk
    · rw [if_neg e1] at h
      by_cases e2 : (Nat.beq j 1 && Nat.beq d (lenK k)) = true
      · rw [if_pos e2] at h
        rw [Bool.and_eq_true] at e2
        have ej := Nat.eq_of_beq_eq_true e2.1
        have ed := Nat.eq_of_beq_eq_true e2.2
        subst ej
        rw [← ed] at hi h1 h2
        cases h
        exact key x i (fun V hV => by rw [hV]; rfl) h1 (by omega) hi
      · rw [if_neg e2] at h
        cases h
  · rw [if_neg e] at h
    by_cases e3 : Nat.beq f 17 = true
    · rw [if_pos e3] at h
      have e' := Nat.eq_of_beq_eq_true e3
      clear e e3
      subst e'
      split at h
      case h_2 => cases h
      cases h
      exact ⟨Tryd.call17, fun D V w _ hm _ _ => give_val hm rfl trivial (awake17 w)⟩
    · rw [if_neg e3] at h
      exact sumL_ok _ rfl f args m r m' h

noncomputable def condK (k i : Nat) : Bool := isTrue (callK k i 6 [.one (.sym 0), .one (.sym 1)] Mem.empty)
theorem cond_use {n x : Int} {k i : Nat} (hk : n % 16 = (k : Int)) (hi : x % (lenK k : Int) = (i : Int)) (h1 : 1 ≤ lenK k) (h2 : lenK k ≤ 3) (h : condK k i = true) (w : World) : Calls Tryd.prog 6 #[.int .i64 n, .int .i64 x] w (BoolP w true) := by
  refine true_of_run (X := ctx (Sc n x) 0 T3) (callS_ok (Sc_one n x) liT (sumK_ok hk hi h1 h2)) h (fun _ _ _ => trivial) ?_ w ?_
  · intro s hs
    simp only [List.mem_cons, List.not_mem_nil, or_false] at hs
    rcases hs with rfl | rfl <;> trivial
  · intro V hV
    simp only [List.map_cons, List.map_nil, SV.val, At.val, hV]
    rfl
theorem conds_all : ((List.range 16).all fun k => Nat.ble 1 (lenK k) && Nat.ble (lenK k) 3 && (List.range (lenK k)).all fun i => condK k i) = true := by kernel_rfl
theorem conds_law (w : World) (n x : Int) : Calls Tryd.prog 6 #[.int .i64 n, .int .i64 x] w (BoolP w true) := by
  obtain ⟨k, hk⟩ := Int.eq_ofNat_of_zero_le (show 0 ≤ n % 16 by omega)
  have hk1 : k < 16 := by omega
  have h := List.all_eq_true.1 conds_all k (List.mem_range.2 hk1)
  simp only [Bool.and_eq_true] at h
  obtain ⟨⟨h1, h2⟩, h3⟩ := h
  have h1 := Nat.le_of_ble_eq_true h1
  have h2 := Nat.le_of_ble_eq_true h2
  obtain ⟨i, hi⟩ := Int.eq_ofNat_of_zero_le (Int.emod_nonneg x (show ((lenK k : Nat) : Int) ≠ 0 by omega))
  have hi1 : i < lenK k := by
    have := Int.emod_lt_of_pos x (show (0 : Int) < ((lenK k : Nat) : Int) by omega)
    omega
  exact cond_use hk hi h1 h2 (List.all_eq_true.1 h3 i (List.mem_range.2 hi1)) w
end Go.Proofs.YtnkdpcalgllnbaaDoor.Nb
