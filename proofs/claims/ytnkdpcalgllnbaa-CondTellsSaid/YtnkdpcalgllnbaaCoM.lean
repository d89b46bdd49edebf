/-
  CondTells, by its runs.
-/
import Derived.Test.YtnkdpcalgllnbaaCoL0
import Derived.Test.YtnkdpcalgllnbaaCoL1
import Derived.Test.YtnkdpcalgllnbaaCoL2
namespace Go.Proofs.Ytnkdpcalgllnbaa.Co
open Go Go.RowKit Go.Proofs.Ytnkdpcalgllnbaa.Sy
theorem tells_any (a : Nat) (ha : a < 18) : tells a = true := by
  match a, ha with
  | 0, _ => exact tells_0
  | 1, _ => exact tells_1
  | 2, _ => exact tells_2
  | 3, _ => exact tells_3
  | 4, _ => exact tells_4
  | 5, _ => exact tells_5
  | 6, _ => exact tells_6
  | 7, _ => exact tells_7
  | 8, _ => exact tells_8
  | 9, _ => exact tells_9
  | 10, _ => exact tells_10
  | 11, _ => exact tells_11
  | 12, _ => exact tells_12
  | 13, _ => exact tells_13
  | 14, _ => exact tells_14
  | 15, _ => exact tells_15
  | 16, _ => exact tells_16
  | 17, _ => exact tells_17
  | a + 18, h => exact absurd h (by omega)
theorem tells_law (w : World) (n : Int) (t : ByteArray) (c z s o p : Bool) : Calls Try.prog 5 #[.int .i64 n, .string t, .agg #[.bool c, .bool z, .bool s, .bool o, .bool p]] w (BoolP w true) := by
  by_cases hl : (t.size : Int) > 100
  · exact tells_use0 c z s o p t (cmp := fun _ _ => none) (q := .one (.sym 0)) (fun _ _ _ h => by cases h) (fun _ h => h) trivial (by simp [hl]) tells_long okn okn okn okn okn w
  · obtain ⟨a, ha, h1⟩ := stands n
    have h := tells_any a ha
    unfold tells at h
    obtain ⟨c', hc, h⟩ := allN_use h c
    obtain ⟨z', hz, h⟩ := allN_use h z
    obtain ⟨s', hs, h⟩ := allN_use h s
    obtain ⟨o', ho, h⟩ := allN_use h o
    obtain ⟨p', hp, h⟩ := allN_use h p
    exact tells_use c z s o p t h1 (by simp [hl]) h hc hz hs ho hp w
end Go.Proofs.Ytnkdpcalgllnbaa.Co
