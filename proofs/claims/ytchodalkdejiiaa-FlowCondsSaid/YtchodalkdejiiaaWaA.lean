/-
  Walks: linotypekit's small functions over lists.
-/
import Derived.Test.YtchodalkdejiiaaRows
import Derived.WalkKit
import Derived.WalkSpells
import Derived.StillTactics
import Derived.Deep.QuietTactic
import Derived.BigQuiet
import Derived.LoopTactic
import Derived.IntWalk
import Derived.RowKit3
import Derived.Below
import Derived.Laws.OwnMore
import Derived.Deep.AppendLies
import Derived.Deep.Draws
import Derived.Lib.Hide
namespace Go.Proofs.Ytchodalkdejiiaa.Wa
open Go Go.RowKit

/-- A slice value that reads as a list of cells. -/
def Rd (w : World) (v : Value) (n : Nat) (xs : List Value) : Prop :=
  ∃ A c, v = .slice A n c ∧ n ≤ 1000000 ∧ (0 < n → ∃ b, A = some ⟨b, 0, none⟩ ∧ b < w.heap.size ∧ ∀ j u, xs[j]? = some u → w.cell? ⟨b, j, none⟩ = some u)

def ints (xs : List Int) : List Value := xs.map (.int .i64 ·)

def SameP (w : World) (r : Bool) (e : Ending) (w' : World) : Prop := e = .returned (.bool r) ∧ ∃ n, w' = w.drewN n

theorem same_ints_ne (w : World) (A B : Option Addr) (n m c d : Nat) (h : ¬ n = m) : Calls Try.prog 40 #[.slice A n c, .slice B m d] w (SameP w false) := by
  have h' : ((n : Int) == (m : Int)) = false := by simp; omega
  have h'' : ((n : Int) != (m : Int)) = true := by simp; omega
  go_enter Try.func40, Try.ntmps40
  go_wp2
  go_ret
  exact ⟨rfl, 0, rfl⟩

theorem eq_of_upto {xs ys : List Int} (h : xs.length = ys.length) (hk : ∀ j, j < xs.length → xs[j]? = ys[j]?) : xs = ys := by
  apply List.ext_getElem? 
  intro j
  by_cases hj : j < xs.length
  · exact hk j hj
  · rw [List.getElem?_eq_none (by omega), List.getElem?_eq_none (by omega)]

theorem same_ints_eq (w : World) (b b' : Nat) (c d : Nat) (xs ys : List Int) (hl : xs.length = ys.length) (hn : xs.length ≤ 1000000) 
    (hx : Hid (∀ (j : Nat) u, xs[j]? = some u → w.cell? ⟨b, j, none⟩ = some (.int .i64 u))) (hy : Hid (∀ (j : Nat) u, ys[j]? = some u → w.cell? ⟨b', j, none⟩ = some (.int .i64 u))) :
    Calls Try.prog 40 #[.slice (some ⟨b, 0, none⟩) xs.length c, .slice (some ⟨b', 0, none⟩) xs.length d] w (SameP w (decide (xs = ys))) := by
  obtain ⟨n, hn'⟩ : ∃ n, n = xs.length := ⟨_, rfl⟩
  have HN : Hid (n = xs.length) := Lib.hid hn'
  have HL : Hid (xs.length = ys.length) := Lib.hid hl
  rw [← hn'] at hn ⊢
  clear hl hn'
  go_enter Try.func40, Try.ntmps40
  go_wp2
  go_loopw [5] (fun i wr => ∃ k : Nat, k ≤ n ∧ i = .int .i64 k ∧ Hid (∀ j, j < k → xs[j]? = ys[j]?) ∧ Hid (∃ q, wr = w.drewN q)) (fun i _ => n - (intOf i).toNat)
  case atStart => exact ⟨0, Nat.zero_le _, rfl, Lib.hid fun j hj => absurd hj (by omega), Lib.hid ⟨0, rfl⟩⟩
  case round =>
    obtain ⟨k, hk, rfl, hag, hq⟩ := hrel
    obtain ⟨q, rfl⟩ := hq.out
    clear hq
    by_cases hlt : k < n
    · have hkx : k < xs.length := by rw [← HN.out]; exact hlt
      have hky : k < ys.length := by rw [← HL.out]; exact hkx
      have cx : w.cell? ⟨b, k, none⟩ = some (.int .i64 xs[k]) := hx.out k _ (List.getElem?_eq_getElem hkx)
      have cy : w.cell? ⟨b', k, none⟩ = some (.int .i64 ys[k]) := hy.out k _ (List.getElem?_eq_getElem hky)
      have h0 : (0 : Int) ≤ (k : Int) := by omega
      have h1 : (k : Int) < (n : Int) := by omega
      by_cases he : xs[k] = ys[k]
      · have hb : (xs[k] != ys[k]) = false := by simp [he]
        go_wp2
        go_quiet (fail)
        go_wp2
        go_roundw
        case rel =>
          refine ⟨k + 1, by omega, by go_num, Lib.hid fun j hj => ?_, Lib.hid ⟨_, rfl⟩⟩
          by_cases hjk : j < k
          · exact hag.out j hjk
          · obtain rfl : j = k := by omega
            rw [List.getElem?_eq_getElem hkx, List.getElem?_eq_getElem hky, he]
        case measure => simp [intOf]; omega
      · have hb : (xs[k] != ys[k]) = true := by simp [he]
        have hfin : decide (xs = ys) = false := by
          simp only [decide_eq_false_iff_not]
          intro e
          subst e
          exact he rfl
        go_wp2
        go_quiet (fail)
        go_wp2
        go_ret
        exact ⟨by rw [hfin]; rfl, _, World.drewN_drewN _ _ _⟩
    · have hfin : decide (xs = ys) = true := by
        simp only [decide_eq_true_eq]
        have e1 := HN.out
        exact eq_of_upto HL.out fun j hj => hag.out j (by omega)
      go_wp2
      go_ret
      exact ⟨by rw [hfin]; rfl, _, rfl⟩

theorem same_ints_0 (w : World) (A B : Option Addr) (c d : Nat) : Calls Try.prog 40 #[.slice A 0 c, .slice B 0 d] w (SameP w true) := by
  go_enter Try.func40, Try.ntmps40
  go_wp2
  go_loop [5] (fun i => i = .int .i64 0) (fun _ => 0)
  case atStart => rfl
  case round =>
    subst hrel
    go_wp2
    go_ret
    exact ⟨rfl, 0, rfl⟩

/-- A slice value that reads as a list of numbers. -/
def IntsAt (w : World) (v : Value) (xs : List Int) : Prop :=
  ∃ A c, v = .slice A xs.length c ∧ xs.length ≤ 1000000 ∧ (0 < xs.length → ∃ b, A = some ⟨b, 0, none⟩ ∧ b < w.heap.size ∧ ∀ (j : Nat) u, xs[j]? = some u → w.cell? ⟨b, j, none⟩ = some (.int .i64 u))

theorem IntsAt.below {w w' : World} {v : Value} {xs : List Int} (h : IntsAt w v xs) (hb : Below w.heap.size w w') : IntsAt w' v xs := by
  obtain ⟨A, c, hv, hn, hA⟩ := h
  refine ⟨A, c, hv, hn, fun h0 => ?_⟩
  obtain ⟨b, e, hlt, hc⟩ := hA h0
  exact ⟨b, e, Nat.lt_of_lt_of_le hlt hb.size, fun j u hu => (hb.cell (p := ⟨b, j, none⟩) hlt).trans (hc j u hu)⟩

theorem same_ints (w : World) (v u : Value) (xs ys : List Int) (hx : IntsAt w v xs) (hy : IntsAt w u ys) : Calls Try.prog 40 #[v, u] w (SameP w (decide (xs = ys))) := by
  obtain ⟨A, c, rfl, hn, hA⟩ := hx
  obtain ⟨B, d, rfl, hm, hB⟩ := hy
  by_cases hl : xs.length = ys.length
  · by_cases h0 : 0 < xs.length
    · obtain ⟨b, rfl, _, hb⟩ := hA h0
      obtain ⟨b', rfl, _, hb'⟩ := hB (by omega)
      rw [← hl]
      exact same_ints_eq w b b' c d xs ys hl hn (Lib.hid hb) (Lib.hid hb')
    · have e1 : xs = [] := List.eq_nil_of_length_eq_zero (by omega)
      have e2 : ys = [] := List.eq_nil_of_length_eq_zero (by omega)
      subst e1
      subst e2
      exact same_ints_0 w A B c d
  · have : decide (xs = ys) = false := by
      simp only [decide_eq_false_iff_not]
      rintro rfl
      exact hl rfl
    rw [this]
    exact same_ints_ne w A B _ _ c d hl
theorem same_ints_yes (w : World) (v u : Value) (xs : List Int) (hx : IntsAt w v xs) (hy : IntsAt w u xs) : Calls Try.prog 40 #[v, u] w (SameP w true) := by
  have := same_ints w v u xs xs hx hy
  simpa using this
theorem same_ints_no (w : World) (v u : Value) (xs ys : List Int) (hx : IntsAt w v xs) (hy : IntsAt w u ys) (h : ¬ xs = ys) : Calls Try.prog 40 #[v, u] w (SameP w false) := by
  have := same_ints w v u xs ys hx hy
  simpa [h] using this

/-- A form, as data. -/
structure Fm where
  op : Int
  sh : List Int
  sl : List Int
  pre : Int
  map : Int
  code : Int
  digit : Int
  w : Int
  vex : Bool
  l : Int
noncomputable instance : DecidableEq Fm := fun a b => Classical.propDecidable (a = b)

def FormP (w : World) (r : Bool) (e : Ending) (w' : World) : Prop := e = .returned (.bool r) ∧ Below w.heap.size w w'


theorem bdn {B : Nat} {a w : World} (h : Below B a w) (n : Nat) : Below B a (w.drewN n) := h.trans ⟨rfl, rfl, rfl, Nat.le_refl _, fun _ _ => rfl⟩
theorem bl2 (w : World) (o o1 : Obj) : Below w.heap.size w ((w.alloc o).alloc o1) := ((Below.refl _ _).alloc (Nat.le_refl _) _).alloc (by simp) _
theorem bl2n (w : World) (o o1 : Obj) (n : Nat) : Below w.heap.size w (((w.alloc o).alloc o1).drewN n) := bdn (bl2 w o o1) n
theorem bl2nn (w : World) (o o1 : Obj) (n k : Nat) : Below w.heap.size w ((((w.alloc o).alloc o1).drewN n).drewN k) := bdn (bdn (bl2 w o o1) n) k
end Go.Proofs.Ytchodalkdejiiaa.Wa
