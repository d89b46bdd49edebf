/-
  CondNames, by its runs.
-/
import Derived.Test.YtnkdpcalgllnbaaCoG0
import Derived.Test.YtnkdpcalgllnbaaCoG1
import Derived.Test.YtnkdpcalgllnbaaCoG2
import Derived.Test.YtnkdpcalgllnbaaCoG3
namespace Go.Proofs.Ytnkdpcalgllnbaa.Co
open Go Go.RowKit Go.Proofs.Ytnkdpcalgllnbaa.Sy
theorem names_row {a : Nat} (h : ((List.range 18).all fun b => names1 a b) = true) {b : Nat} (hb : b < 18) : names1 a b = true := List.all_eq_true.1 h b (List.mem_range.2 hb)
theorem names_any (a b : Nat) (ha : a < 18) (hb : b < 18) : names1 a b = true := by
  match a, ha with
  | 0, _ => exact names_row names_0 hb
  | 1, _ => exact names_row names_1 hb
  | 2, _ => exact names_row names_2 hb
  | 3, _ => exact names_row names_3 hb
  | 4, _ => exact names_row names_4 hb
  | 5, _ => exact names_row names_5 hb
  | 6, _ => exact names_row names_6 hb
  | 7, _ => exact names_row names_7 hb
  | 8, _ => exact names_row names_8 hb
  | 9, _ => exact names_row names_9 hb
  | 10, _ => exact names_row names_10 hb
  | 11, _ => exact names_row names_11 hb
  | 12, _ => exact names_row names_12 hb
  | 13, _ => exact names_row names_13 hb
  | 14, _ => exact names_row names_14 hb
  | 15, _ => exact names_row names_15 hb
  | 16, _ => exact names_row names_16 hb
  | 17, _ => exact names_row names_17 hb
  | a + 18, h => exact absurd h (by omega)
theorem names_law (w : World) (n m : Int) : Calls Try.prog 6 #[.int .i64 n, .int .i64 m] w (BoolP w true) := by
  obtain ⟨a, ha, h1⟩ := stands n
  obtain ⟨b, hb, h2⟩ := stands m
  exact names_use h1 h2 (names_any a b ha hb) w
end Go.Proofs.Ytnkdpcalgllnbaa.Co
