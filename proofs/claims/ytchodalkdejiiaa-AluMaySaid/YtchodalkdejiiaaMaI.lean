/-
  AluMay, joined with the runs of shape.Check.
-/
import Derived.Test.YtchodalkdejiiaaMaH
import Derived.Test.YtchodalkdejiiaaMaD0
import Derived.Test.YtchodalkdejiiaaMaD1
import Derived.Test.YtchodalkdejiiaaMaD2
namespace Go.Proofs.Ytchodalkdejiiaa.Ma
open Go Go.RowKit Go.Proofs.Ytchodalkdejiiaa.Sy Go.Proofs.Ytchodalkdejiiaa.Wa Go.Proofs.Ytchodalkdejiiaa.Tab Go.Proofs.Ytchodalkdejiiaa.La

theorem chk_at13 {l : List Fm} {n i k : Nat} {f : Fm} (h : (((l.drop n).take i).all checks) = true) (h1 : n ≤ k) (h2 : k < n + i) (hf : l[k]? = some f) : checks f = true := by
  refine List.all_eq_true.1 h f (List.mem_of_getElem? (i := k - n) ?_)
  rw [List.getElem?_take, if_pos (by omega), List.getElem?_drop, ← hf]
  congr 1
  omega
theorem alu_checks {k : Nat} {f : Fm} (hk : k < 207) (hf : aluTab[k]? = some f) : checks f = true := by
  have h : k / 10 < 21 := by omega
  have hd : k = 10 * (k / 10) + k % 10 := by omega
  have hm : k % 10 < 10 := by omega
  generalize k / 10 = q at *
  match q, h with
  | 0, _ => exact chk_at13 aluTab_chk_0 (by omega) (by omega) hf
  | 1, _ => exact chk_at13 aluTab_chk_10 (by omega) (by omega) hf
  | 2, _ => exact chk_at13 aluTab_chk_20 (by omega) (by omega) hf
  | 3, _ => exact chk_at13 aluTab_chk_30 (by omega) (by omega) hf
  | 4, _ => exact chk_at13 aluTab_chk_40 (by omega) (by omega) hf
  | 5, _ => exact chk_at13 aluTab_chk_50 (by omega) (by omega) hf
  | 6, _ => exact chk_at13 aluTab_chk_60 (by omega) (by omega) hf
  | 7, _ => exact chk_at13 aluTab_chk_70 (by omega) (by omega) hf
  | 8, _ => exact chk_at13 aluTab_chk_80 (by omega) (by omega) hf
  | 9, _ => exact chk_at13 aluTab_chk_90 (by omega) (by omega) hf
  | 10, _ => exact chk_at13 aluTab_chk_100 (by omega) (by omega) hf
  | 11, _ => exact chk_at13 aluTab_chk_110 (by omega) (by omega) hf
  | 12, _ => exact chk_at13 aluTab_chk_120 (by omega) (by omega) hf
  | 13, _ => exact chk_at13 aluTab_chk_130 (by omega) (by omega) hf
  | 14, _ => exact chk_at13 aluTab_chk_140 (by omega) (by omega) hf
  | 15, _ => exact chk_at13 aluTab_chk_150 (by omega) (by omega) hf
  | 16, _ => exact chk_at13 aluTab_chk_160 (by omega) (by omega) hf
  | 17, _ => exact chk_at13 aluTab_chk_170 (by omega) (by omega) hf
  | 18, _ => exact chk_at13 aluTab_chk_180 (by omega) (by omega) hf
  | 19, _ => exact chk_at13 aluTab_chk_190 (by omega) (by omega) hf
  | 20, _ => exact chk_at13 aluTab_chk_200 (by omega) (by omega) hf
  | q + 21, h => exact absurd h (by omega)
theorem alu_may_law (w : World) (x : Int) : Calls Try.prog 14 #[.int .i64 x] w (FormP w true) := alu_may_of (fun _ _ hk hf => alu_checks hk hf) w x
end Go.Proofs.Ytchodalkdejiiaa.Ma
