/-
  Walks: SameForm, joined; SameForms.
-/
import Derived.Test.YtchodalkdejiiaaWaB0
import Derived.Test.YtchodalkdejiiaaWaB1
import Derived.Test.YtchodalkdejiiaaWaB2
import Derived.Test.YtchodalkdejiiaaWaB3
import Derived.Test.YtchodalkdejiiaaWaB4
import Derived.Test.YtchodalkdejiiaaWaB5
import Derived.Test.YtchodalkdejiiaaWaB6
import Derived.Test.YtchodalkdejiiaaWaB7
import Derived.Test.YtchodalkdejiiaaWaB8
import Derived.Test.YtchodalkdejiiaaWaB9
import Derived.Test.YtchodalkdejiiaaWaB10
namespace Go.Proofs.Ytchodalkdejiiaa.Wa
open Go Go.RowKit

/-- A form's cells. -/
def Fm.cells (f : Fm) (s t : Value) : List Value := [.int .i64 f.op, s, t, .int .i64 f.pre, .int .i64 f.map, .int .i64 f.code, .int .i64 f.digit, .int .i64 f.w, .bool f.vex, .int .i64 f.l]

theorem same_form (w : World) (f g : Fm) (s t s1 t1 : Value) (hs : IntsAt w s f.sh) (ht : IntsAt w t f.sl) (hs1 : IntsAt w s1 g.sh) (ht1 : IntsAt w t1 g.sl) :
    Calls Try.prog 23 #[.agg (f.cells s t).toArray, .agg (g.cells s1 t1).toArray] w (FormP w (decide (f = g))) := by
  obtain ⟨a0, xs, xt, a3, a4, a5, a6, a7, a8, a9⟩ := f
  obtain ⟨b0, ys, yt, b3, b4, b5, b6, b7, b8, b9⟩ := g
  simp only [Fm.cells]
  by_cases h0 : a0 = b0
  case neg => exact (decide_eq_false (p := (⟨a0, xs, xt, a3, a4, a5, a6, a7, a8, a9⟩ : Fm) = ⟨b0, ys, yt, b3, b4, b5, b6, b7, b8, b9⟩) (by simp [h0])) ▸ same_form_0 w a0 a3 a4 a5 a6 a7 a9 b0 b3 b4 b5 b6 b7 b9 a8 b8 s t s1 t1 xs xt ys yt hs ht hs1 ht1 h0
  subst h0
  by_cases h1 : xs = ys
  case neg => exact (decide_eq_false (p := (⟨a0, xs, xt, a3, a4, a5, a6, a7, a8, a9⟩ : Fm) = ⟨a0, ys, yt, b3, b4, b5, b6, b7, b8, b9⟩) (by simp [h1])) ▸ same_form_1 w a0 a3 a4 a5 a6 a7 a9 b3 b4 b5 b6 b7 b9 a8 b8 s t s1 t1 xs xt ys yt hs ht hs1 ht1 h1
  subst h1
  by_cases h2 : xt = yt
  case neg => exact (decide_eq_false (p := (⟨a0, xs, xt, a3, a4, a5, a6, a7, a8, a9⟩ : Fm) = ⟨a0, xs, yt, b3, b4, b5, b6, b7, b8, b9⟩) (by simp [h2])) ▸ same_form_2 w a0 a3 a4 a5 a6 a7 a9 b3 b4 b5 b6 b7 b9 a8 b8 s t s1 t1 xs xt yt hs ht hs1 ht1 h2
  subst h2
  by_cases h3 : a3 = b3
  case neg => exact (decide_eq_false (p := (⟨a0, xs, xt, a3, a4, a5, a6, a7, a8, a9⟩ : Fm) = ⟨a0, xs, xt, b3, b4, b5, b6, b7, b8, b9⟩) (by simp [h3])) ▸ same_form_3 w a0 a3 a4 a5 a6 a7 a9 b3 b4 b5 b6 b7 b9 a8 b8 s t s1 t1 xs xt hs ht hs1 ht1 h3
  subst h3
  by_cases h4 : a4 = b4
  case neg => exact (decide_eq_false (p := (⟨a0, xs, xt, a3, a4, a5, a6, a7, a8, a9⟩ : Fm) = ⟨a0, xs, xt, a3, b4, b5, b6, b7, b8, b9⟩) (by simp [h4])) ▸ same_form_4 w a0 a3 a4 a5 a6 a7 a9 b4 b5 b6 b7 b9 a8 b8 s t s1 t1 xs xt hs ht hs1 ht1 h4
  subst h4
  by_cases h5 : a5 = b5
  case neg => exact (decide_eq_false (p := (⟨a0, xs, xt, a3, a4, a5, a6, a7, a8, a9⟩ : Fm) = ⟨a0, xs, xt, a3, a4, b5, b6, b7, b8, b9⟩) (by simp [h5])) ▸ same_form_5 w a0 a3 a4 a5 a6 a7 a9 b5 b6 b7 b9 a8 b8 s t s1 t1 xs xt hs ht hs1 ht1 h5
  subst h5
  by_cases h6 : a6 = b6
  case neg => exact (decide_eq_false (p := (⟨a0, xs, xt, a3, a4, a5, a6, a7, a8, a9⟩ : Fm) = ⟨a0, xs, xt, a3, a4, a5, b6, b7, b8, b9⟩) (by simp [h6])) ▸ same_form_6 w a0 a3 a4 a5 a6 a7 a9 b6 b7 b9 a8 b8 s t s1 t1 xs xt hs ht hs1 ht1 h6
  subst h6
  by_cases h7 : a7 = b7
  case neg => exact (decide_eq_false (p := (⟨a0, xs, xt, a3, a4, a5, a6, a7, a8, a9⟩ : Fm) = ⟨a0, xs, xt, a3, a4, a5, a6, b7, b8, b9⟩) (by simp [h7])) ▸ same_form_7 w a0 a3 a4 a5 a6 a7 a9 b7 b9 a8 b8 s t s1 t1 xs xt hs ht hs1 ht1 h7
  subst h7
  by_cases h8 : a8 = b8
  case neg => exact (decide_eq_false (p := (⟨a0, xs, xt, a3, a4, a5, a6, a7, a8, a9⟩ : Fm) = ⟨a0, xs, xt, a3, a4, a5, a6, a7, b8, b9⟩) (by simp [h8])) ▸ same_form_8 w a0 a3 a4 a5 a6 a7 a9 b9 a8 b8 s t s1 t1 xs xt hs ht hs1 ht1 h8
  subst h8
  by_cases h9 : a9 = b9
  case neg => exact (decide_eq_false (p := (⟨a0, xs, xt, a3, a4, a5, a6, a7, a8, a9⟩ : Fm) = ⟨a0, xs, xt, a3, a4, a5, a6, a7, a8, b9⟩) (by simp [h9])) ▸ same_form_9 w a0 a3 a4 a5 a6 a7 a9 b9 a8 s t s1 t1 xs xt hs ht hs1 ht1 h9
  subst h9
  exact (decide_eq_true (p := (⟨a0, xs, xt, a3, a4, a5, a6, a7, a8, a9⟩ : Fm) = ⟨a0, xs, xt, a3, a4, a5, a6, a7, a8, a9⟩) rfl) ▸ same_form_10 w a0 a3 a4 a5 a6 a7 a9 a8 s t s1 t1 xs xt hs ht hs1 ht1
end Go.Proofs.Ytchodalkdejiiaa.Wa
