/-
  compared: the flags behind a comparison of two bytes, walked.
-/
import Derived.Test.YtnkdpcalgllnbaaRows
import Derived.WalkKit
import Derived.WalkSpells
import Derived.StillTactics
import Derived.Deep.QuietTactic
import Derived.BigQuiet
import Derived.LoopTactic
import Derived.IntWalk
import Derived.RowKit3
import Derived.Below
import Derived.Lib.Hide
import Derived.Laws.Rows
import Derived.KernelRfl
namespace Go.Proofs.Ytnkdpcalgllnbaa.Co
open Go Go.RowKit

def CmpdP (w : World) (v : Value) (e : Ending) (w' : World) : Prop := e = .returned v ∧ Below w.heap.size w w'

/-- Of the first k bits an even number is set. -/
def parB (d : Int) : Nat → Bool
  | 0 => true
  | k + 1 => !(parB d k == ((d / 2 ^ k).tmod 2 == 1))

theorem size23 : (Try.prog.info? 23).map (·.size) = some 5 := by kernel_rfl
/-- The difference with a sign. -/
def sgn (a b : Int) : Int := wrap64 (wrap64 (IntKind.i8.wrap a) - wrap64 (IntKind.i8.wrap b))

theorem compared_lo (w : World) (a b : Int) (hlo : sgn a b < -128) : Calls Try.prog 12 #[.int .u8 a, .int .u8 b] w (CmpdP w (.agg #[.bool (decide (a < b)), .bool (a == b), .bool (decide (127 < (a - b) % 256)), .bool true, .bool (parB ((a - b) % 256) 8)])) := by
  unfold sgn at *
  go_enter Try.func12, Try.ntmps12
  go_wp2
  generalize wrap64 (wrap64 (IntKind.i8.wrap a) - wrap64 (IntKind.i8.wrap b)) = sg at *
  obtain ⟨d, hd⟩ : ∃ d, (a - b) % 256 = d := ⟨_, rfl⟩
  have hd0 : 0 ≤ d := by omega
  have hd1 : d < 256 := by omega
  rw [hd]
  go_loop [7, 8] (fun e i => ∃ k : Nat, k ≤ 8 ∧ i = .int .i64 k ∧ e = .bool (parB d k)) (fun _ i => 8 - (intOf i).toNat)
  case atStart => exact ⟨0, by omega, rfl, rfl⟩
  case round =>
    obtain ⟨k, hk, rfl, rfl⟩ := hrel
    by_cases hlt : k < 8
    · have h1 : (k : Int) < 8 := by omega
      have h0 : (0 : Int) ≤ (k : Int) := by omega
      go_wp2
      exact ⟨⟨k + 1, by omega, rfl, rfl⟩, by simp [intOf]; omega⟩
    · obtain rfl : k = 8 := by omega
      go_wp2
      try simp only [Exit.inBlock, Exit.then]
      refine bodyPost_ret (results_cell_row (ty := 23) rfl _ _ w.heap.size 23 _ _ _ rfl (heap_alloc_new _ _) Try.underlying23 rfl size23) rfl ?_
      exact ⟨rfl, (Below.refl _ _).alloc (Nat.le_refl _) _⟩

theorem compared_hi (w : World) (a b : Int) (hlo : ¬ sgn a b < -128) (hhi : sgn a b > 127) : Calls Try.prog 12 #[.int .u8 a, .int .u8 b] w (CmpdP w (.agg #[.bool (decide (a < b)), .bool (a == b), .bool (decide (127 < (a - b) % 256)), .bool true, .bool (parB ((a - b) % 256) 8)])) := by
  unfold sgn at *
  go_enter Try.func12, Try.ntmps12
  go_wp2
  generalize wrap64 (wrap64 (IntKind.i8.wrap a) - wrap64 (IntKind.i8.wrap b)) = sg at *
  obtain ⟨d, hd⟩ : ∃ d, (a - b) % 256 = d := ⟨_, rfl⟩
  have hd0 : 0 ≤ d := by omega
  have hd1 : d < 256 := by omega
  rw [hd]
  go_loop [7, 8] (fun e i => ∃ k : Nat, k ≤ 8 ∧ i = .int .i64 k ∧ e = .bool (parB d k)) (fun _ i => 8 - (intOf i).toNat)
  case atStart => exact ⟨0, by omega, rfl, rfl⟩
  case round =>
    obtain ⟨k, hk, rfl, rfl⟩ := hrel
    by_cases hlt : k < 8
    · have h1 : (k : Int) < 8 := by omega
      have h0 : (0 : Int) ≤ (k : Int) := by omega
      go_wp2
      exact ⟨⟨k + 1, by omega, rfl, rfl⟩, by simp [intOf]; omega⟩
    · obtain rfl : k = 8 := by omega
      go_wp2
      try simp only [Exit.inBlock, Exit.then]
      refine bodyPost_ret (results_cell_row (ty := 23) rfl _ _ w.heap.size 23 _ _ _ rfl (heap_alloc_new _ _) Try.underlying23 rfl size23) rfl ?_
      exact ⟨rfl, (Below.refl _ _).alloc (Nat.le_refl _) _⟩

theorem compared_mid (w : World) (a b : Int) (hlo : ¬ sgn a b < -128) (hhi : ¬ sgn a b > 127) : Calls Try.prog 12 #[.int .u8 a, .int .u8 b] w (CmpdP w (.agg #[.bool (decide (a < b)), .bool (a == b), .bool (decide (127 < (a - b) % 256)), .bool false, .bool (parB ((a - b) % 256) 8)])) := by
  unfold sgn at *
  go_enter Try.func12, Try.ntmps12
  go_wp2
  generalize wrap64 (wrap64 (IntKind.i8.wrap a) - wrap64 (IntKind.i8.wrap b)) = sg at *
  obtain ⟨d, hd⟩ : ∃ d, (a - b) % 256 = d := ⟨_, rfl⟩
  have hd0 : 0 ≤ d := by omega
  have hd1 : d < 256 := by omega
  rw [hd]
  go_loop [7, 8] (fun e i => ∃ k : Nat, k ≤ 8 ∧ i = .int .i64 k ∧ e = .bool (parB d k)) (fun _ i => 8 - (intOf i).toNat)
  case atStart => exact ⟨0, by omega, rfl, rfl⟩
  case round =>
    obtain ⟨k, hk, rfl, rfl⟩ := hrel
    by_cases hlt : k < 8
    · have h1 : (k : Int) < 8 := by omega
      have h0 : (0 : Int) ≤ (k : Int) := by omega
      go_wp2
      exact ⟨⟨k + 1, by omega, rfl, rfl⟩, by simp [intOf]; omega⟩
    · obtain rfl : k = 8 := by omega
      go_wp2
      try simp only [Exit.inBlock, Exit.then]
      refine bodyPost_ret (results_cell_row (ty := 23) rfl _ _ w.heap.size 23 _ _ _ rfl (heap_alloc_new _ _) Try.underlying23 rfl size23) rfl ?_
      have hO : (decide (sg < -128) || decide (127 < sg)) = false := by simp; omega
      exact ⟨by rw [hO], (Below.refl _ _).alloc (Nat.le_refl _) _⟩

/-- The flags behind a comparison. -/
def cmpd (a b : Int) : Value := .agg #[.bool (decide (a < b)), .bool (a == b), .bool (decide (127 < (a - b) % 256)), .bool (decide (sgn a b < -128) || decide (127 < sgn a b)), .bool (parB ((a - b) % 256) 8)]
theorem compared (w : World) (a b : Int) : Calls Try.prog 12 #[.int .u8 a, .int .u8 b] w (CmpdP w (cmpd a b)) := by
  unfold cmpd
  by_cases h1 : sgn a b < -128
  · rw [show (decide (sgn a b < -128) || decide (127 < sgn a b)) = true by simp [h1]]
    exact compared_lo w a b h1
  · by_cases h2 : sgn a b > 127
    · rw [show (decide (sgn a b < -128) || decide (127 < sgn a b)) = true by simp; omega]
      exact compared_hi w a b h1 h2
    · rw [show (decide (sgn a b < -128) || decide (127 < sgn a b)) = false by simp; omega]
      exact compared_mid w a b h1 h2

def PickP (w : World) (x : Int) (e : Ending) (w' : World) : Prop := e = .returned (.int .i64 x) ∧ w = w'
theorem pick (w : World) (x : Int) (m : Nat) (h1 : 1 ≤ m) (h2 : m ≤ 1000000) : Calls Try.prog 13 #[.int .i64 x, .int .i64 m] w (PickP w (x % m)) := by
  have e1 : x.tmod m = x % m - if 0 ≤ x ∨ (m : Int) ∣ x then 0 else (m : Int) := by
    rw [Int.tmod_eq_emod]
    split <;> simp
  have b1 : 0 ≤ x % (m : Int) := Int.emod_nonneg x (by omega)
  have b2 : x % (m : Int) < m := Int.emod_lt_of_pos x (by omega)
  have hlo : -(m : Int) ≤ x.tmod m := by rw [e1]; split <;> omega
  have hhi : x.tmod m < m := by rw [e1]; split <;> omega
  have HE := Lib.hid e1
  have HB := Lib.hid (And.intro b1 b2)
  have hm : (1 : Int) ≤ (m : Int) := by omega
  have hm0 : ¬ (m : Int) = 0 := by omega
  clear e1 b1 b2
  by_cases hneg : x.tmod m < 0
  · have HR : Hid (x.tmod m + m = x % m) := by
      have := HE.out
      have b := HB.out
      apply Lib.hid
      rw [this] at hneg ⊢
      split at hneg <;> rename_i hc
      · omega
      · rw [if_neg hc]; omega
    go_enter Try.func13, Try.ntmps13
    go_wp2
    go_ret
    exact ⟨by rw [← HR.out]; rfl, rfl⟩
  · have HR : Hid (x.tmod m = x % m) := by
      have := HE.out
      have b := HB.out
      apply Lib.hid
      rw [this] at hneg ⊢
      split at hneg <;> rename_i hc
      · rw [if_pos hc]; omega
      · omega
    go_enter Try.func13, Try.ntmps13
    go_wp2
    go_ret
    exact ⟨by rw [← HR.out]; rfl, rfl⟩
end Go.Proofs.Ytnkdpcalgllnbaa.Co
