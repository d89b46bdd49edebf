/-
  A struct of five booleans by value: opened, and shut again.
-/
import Derived.Test.YtnkdpcalgllnbaaPoA
import Derived.Lib.SmallJoins
namespace Go.Proofs.Ytnkdpcalgllnbaa
open Go.Joins Go.ChangeShapes Go.WideShapes Go.RowKit Go.Deep

section
variable {H : Type} {enc : TypeId × Value → H} {P : Program} {w : World} {base : Nat} {spare : Nat → Bool} {held : Bool}

theorem bool_field {t n : Nat} {u : Value} {y : DataW H × List MemPlace} (ht : P.underlying t = some .bool) (h : DataW.trod enc P w base spare held n t [u] = some y) : ∃ b : Bool, u = .bool b ∧ y = (.lit (.bool b), []) := by
  obtain ⟨b, h1, h2⟩ := DataW.trod_bool ht h
  exact ⟨b, by simpa using h1, h2⟩

theorem flags_open {r : Reach} {b0 : Nat} {t e : TypeId} {f0 f1 f2 f3 f4 : Field} {v : Value} {d : DataW H} {p : List MemPlace} (hs : P.underlying t = some (.struct #[f0, f1, f2, f3, f4])) (hone : oneCellFields P #[f0, f1, f2, f3, f4] = true) (hC : P.cellsOf t = 5)
    (he : P.underlying e = some .bool) (e0 : f0.type = e) (e1 : f1.type = e) (e2 : f2.type = e) (e3 : f3.type = e) (e4 : f4.type = e)
    (hv : Value.okWide P w r b0 t v) (h : DataW.Trod enc P w base spare held t v d p) :
    ∃ a0 a1 a2 a3 a4 : Bool, v = .agg #[.bool a0, .bool a1, .bool a2, .bool a3, .bool a4] ∧ d = .agg [.lit (.bool a0), .lit (.bool a1), .lit (.bool a2), .lit (.bool a3), .lit (.bool a4)] ∧ p = [] := by
  obtain ⟨cs, rfl, hsz⟩ := okWide_struct hs hv
  obtain ⟨l⟩ := cs
  have hl : l.length = 5 := by simpa using hsz.trans hC
  obtain ⟨u0, u1, u2, u3, u4, rfl⟩ : ∃ u0 u1 u2 u3 u4, l = [u0, u1, u2, u3, u4] := by
    match l, hl with
    | [u0, u1, u2, u3, u4], _ => exact ⟨u0, u1, u2, u3, u4, rfl⟩
  obtain ⟨fuel, hf⟩ := h
  obtain ⟨xs, n, _, hx, _, hlen, hg⟩ := DataW.trod_struct hs hf
  have hlen' : xs.length = 5 := by simpa using hlen
  obtain ⟨y0, y1, y2, y3, y4, rfl⟩ : ∃ y0 y1 y2 y3 y4, xs = [y0, y1, y2, y3, y4] := by
    match xs, hlen' with
    | [y0, y1, y2, y3, y4], _ => exact ⟨y0, y1, y2, y3, y4, rfl⟩
  obtain ⟨o0, k0⟩ := hone_of hone 0 f0 rfl
  obtain ⟨o1, _⟩ := hone_of hone 1 f1 rfl
  obtain ⟨o2, _⟩ := hone_of hone 2 f2 rfl
  obtain ⟨o3, _⟩ := hone_of hone 3 f3 rfl
  obtain ⟨o4, _⟩ := hone_of hone 4 f4 rfl
  have g0 := hg 0 f0 rfl
  have g1 := hg 1 f1 rfl
  have g2 := hg 2 f2 rfl
  have g3 := hg 3 f3 rfl
  have g4 := hg 4 f4 rfl
  have ke : P.cellsOf e = 1 := by rw [← e0]; exact k0
  simp only [Value.cells, o0, e0, ke] at g0
  simp only [Value.cells, o1, e1, ke] at g1
  simp only [Value.cells, o2, e2, ke] at g2
  simp only [Value.cells, o3, e3, ke] at g3
  simp only [Value.cells, o4, e4, ke] at g4
  obtain ⟨a0, rfl, rfl⟩ := bool_field (u := u0) (y := y0) he (by simpa using g0)
  obtain ⟨a1, rfl, rfl⟩ := bool_field (u := u1) (y := y1) he (by simpa using g1)
  obtain ⟨a2, rfl, rfl⟩ := bool_field (u := u2) (y := y2) he (by simpa using g2)
  obtain ⟨a3, rfl, rfl⟩ := bool_field (u := u3) (y := y3) he (by simpa using g3)
  obtain ⟨a4, rfl, rfl⟩ := bool_field (u := u4) (y := y4) he (by simpa using g4)
  simp only [Prod.mk.injEq] at hx
  exact ⟨a0, a1, a2, a3, a4, rfl, by simpa using hx.1, by simpa using hx.2⟩

theorem flags_shut {t e : TypeId} {f0 f1 f2 f3 f4 : Field} (hs : P.underlying t = some (.struct #[f0, f1, f2, f3, f4])) (hone : oneCellFields P #[f0, f1, f2, f3, f4] = true) (hC : P.cellsOf t = 5)
    (he : P.underlying e = some .bool) (e0 : f0.type = e) (e1 : f1.type = e) (e2 : f2.type = e) (e3 : f3.type = e) (e4 : f4.type = e) (a0 a1 a2 a3 a4 : Bool) :
    DataW.Trod enc P w base spare held t (.agg #[.bool a0, .bool a1, .bool a2, .bool a3, .bool a4]) (.agg [.lit (.bool a0), .lit (.bool a1), .lit (.bool a2), .lit (.bool a3), .lit (.bool a4)]) [] := by
  obtain ⟨o0, k0⟩ := hone_of hone 0 f0 rfl
  obtain ⟨o1, k1⟩ := hone_of hone 1 f1 rfl
  obtain ⟨o2, k2⟩ := hone_of hone 2 f2 rfl
  obtain ⟨o3, k3⟩ := hone_of hone 3 f3 rfl
  obtain ⟨o4, k4⟩ := hone_of hone 4 f4 rfl
  have tb : ∀ b : Bool, DataW.trod enc P w base spare held 1 e [.bool b] = some (.lit (.bool b), []) := fun b => by simp [DataW.trod, he]
  have ts := trod_struct_mk (enc := enc) (w := w) (base := base) (spare := spare) (held := held) (n := 1) (cs := [.bool a0, .bool a1, .bool a2, .bool a3, .bool a4])
    (xs := [(.lit (.bool a0), []), (.lit (.bool a1), []), (.lit (.bool a2), []), (.lit (.bool a3), []), (.lit (.bool a4), [])]) hs (by simp [hC])
    (by
      rw [e0] at k0; rw [e1] at k1; rw [e2] at k2; rw [e3] at k3; rw [e4] at k4
      simp [o0, o1, o2, o3, o4, k0, e0, e1, e2, e3, e4, tb])
  exact ⟨_, by simpa [Value.cells] using ts⟩
end
end Go.Proofs.Ytnkdpcalgllnbaa
