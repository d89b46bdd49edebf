/-
  CondCompares, by its runs.
-/
import Derived.Test.YtnkdpcalgllnbaaCoQ0
import Derived.Test.YtnkdpcalgllnbaaCoQ1
import Derived.Test.YtnkdpcalgllnbaaCoQ2
import Derived.Test.YtnkdpcalgllnbaaCoQ3
namespace Go.Proofs.Ytnkdpcalgllnbaa.Co
open Go Go.RowKit Go.Proofs.Ytnkdpcalgllnbaa.Sy
theorem comps_any (k : Nat) (h : k < 16) : comps k = true := by
  match k, h with
  | 0, _ => exact comps_0
  | 1, _ => exact comps_1
  | 2, _ => exact comps_2
  | 3, _ => exact comps_3
  | 4, _ => exact comps_4
  | 5, _ => exact comps_5
  | 6, _ => exact comps_6
  | 7, _ => exact comps_7
  | 8, _ => exact comps_8
  | 9, _ => exact comps_9
  | 10, _ => exact comps_10
  | 11, _ => exact comps_11
  | 12, _ => exact comps_12
  | 13, _ => exact comps_13
  | 14, _ => exact comps_14
  | 15, _ => exact comps_15
  | k + 16, h => exact absurd h (by omega)
theorem compares_law (w : World) (a b n : Int) (ha : 0 ≤ a) (ha' : a ≤ 255) (hb : 0 ≤ b) (hb' : b ≤ 255) : Calls Try.prog 4 #[.int .u8 a, .int .u8 b, .int .i64 n] w (BoolP w true) := by
  obtain ⟨z, hz, hk, hp⟩ := std_any a b n ha ha' hb hb'
  exact comps_use hz hp (comps_any z.k hk) w
end Go.Proofs.Ytnkdpcalgllnbaa.Co
