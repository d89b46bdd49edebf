/-
  FlowConds, by its runs.
-/
import Derived.Test.YtchodalkdejiiaaLcB0
import Derived.Test.YtchodalkdejiiaaLcB1
import Derived.Test.YtchodalkdejiiaaLcB2
import Derived.Test.YtchodalkdejiiaaLcB3
namespace Go.Proofs.Ytchodalkdejiiaa.Lc
open Go Go.RowKit Go.Proofs.Ytchodalkdejiiaa.Sy Go.Proofs.Ytchodalkdejiiaa.Wa Go.Proofs.Ytchodalkdejiiaa.Tab Go.Proofs.Ytchodalkdejiiaa.La
theorem conds_any (k : Nat) (h : k < 16) : conds k = true := by
  match k, h with
  | 0, _ => exact conds_0
  | 1, _ => exact conds_1
  | 2, _ => exact conds_2
  | 3, _ => exact conds_3
  | 4, _ => exact conds_4
  | 5, _ => exact conds_5
  | 6, _ => exact conds_6
  | 7, _ => exact conds_7
  | 8, _ => exact conds_8
  | 9, _ => exact conds_9
  | 10, _ => exact conds_10
  | 11, _ => exact conds_11
  | 12, _ => exact conds_12
  | 13, _ => exact conds_13
  | 14, _ => exact conds_14
  | 15, _ => exact conds_15
  | k + 16, h => exact absurd h (by omega)
theorem flow_conds_law (w : World) (n : Int) : Calls Try.prog 7 #[.int .i64 n] w (FormP w true) := by
  have hk0 : 0 ≤ n % 16 := by omega
  have hk1 : n % 16 < 16 := by omega
  obtain ⟨k, hk⟩ := Int.eq_ofNat_of_zero_le hk0
  exact conds_use hk (conds_any k (by omega)) w
end Go.Proofs.Ytchodalkdejiiaa.Lc
