/-
  FlowMay, joined with the runs of shape.Check.
-/
import Derived.Test.YtchodalkdejiiaaMaF
import Derived.Test.YtchodalkdejiiaaMaC0
import Derived.Test.YtchodalkdejiiaaMaC1
import Derived.Test.YtchodalkdejiiaaMaC2
import Derived.Test.YtchodalkdejiiaaMaC3
namespace Go.Proofs.Ytchodalkdejiiaa.Ma
open Go Go.RowKit Go.Proofs.Ytchodalkdejiiaa.Sy Go.Proofs.Ytchodalkdejiiaa.Wa Go.Proofs.Ytchodalkdejiiaa.Tab Go.Proofs.Ytchodalkdejiiaa.La

theorem chk_at {l : List Fm} {n i k : Nat} {f : Fm} (h : (((l.drop n).take i).all checks) = true) (h1 : n ≤ k) (h2 : k < n + i) (hf : l[k]? = some f) : checks f = true := by
  refine List.all_eq_true.1 h f (List.mem_of_getElem? (i := k - n) ?_)
  rw [List.getElem?_take, if_pos (by omega), List.getElem?_drop, ← hf]
  congr 1
  omega
theorem flow_checks {k : Nat} {f : Fm} (hk : k < 130) (hf : flowTab[k]? = some f) : checks f = true := by
  have h : k / 10 < 13 := by omega
  have hd : k = 10 * (k / 10) + k % 10 := by omega
  have hm : k % 10 < 10 := by omega
  generalize k / 10 = q at *
  match q, h with
  | 0, _ => exact chk_at flowTab_chk_0 (by omega) (by omega) hf
  | 1, _ => exact chk_at flowTab_chk_10 (by omega) (by omega) hf
  | 2, _ => exact chk_at flowTab_chk_20 (by omega) (by omega) hf
  | 3, _ => exact chk_at flowTab_chk_30 (by omega) (by omega) hf
  | 4, _ => exact chk_at flowTab_chk_40 (by omega) (by omega) hf
  | 5, _ => exact chk_at flowTab_chk_50 (by omega) (by omega) hf
  | 6, _ => exact chk_at flowTab_chk_60 (by omega) (by omega) hf
  | 7, _ => exact chk_at flowTab_chk_70 (by omega) (by omega) hf
  | 8, _ => exact chk_at flowTab_chk_80 (by omega) (by omega) hf
  | 9, _ => exact chk_at flowTab_chk_90 (by omega) (by omega) hf
  | 10, _ => exact chk_at flowTab_chk_100 (by omega) (by omega) hf
  | 11, _ => exact chk_at flowTab_chk_110 (by omega) (by omega) hf
  | 12, _ => exact chk_at flowTab_chk_120 (by omega) (by omega) hf
  | q + 13, h => exact absurd h (by omega)

theorem flow_may_law (w : World) (x : Int) : Calls Try.prog 13 #[.int .i64 x] w (FormP w true) := flow_may_of (fun _ _ hk hf => flow_checks hk hf) w x
end Go.Proofs.Ytchodalkdejiiaa.Ma
