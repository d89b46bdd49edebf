/-
  Small words for the laws on two forms.
-/
import Derived.Test.YtchodalkdejiiaaLaZ
namespace Go.Proofs.Ytchodalkdejiiaa.La
open Go Go.RowKit Go.Proofs.Ytchodalkdejiiaa.Wa

/-- Two forms may be told from each other. -/
def apartB (f g : Fm) : Bool := !(f.pre == g.pre && f.w == g.w && f.map == g.map && f.code == g.code) || (decide (0 ≤ f.digit) && decide (0 ≤ g.digit) && !(f.digit == g.digit))
def apartAll : List Fm → Bool
  | [] => true
  | f :: l => l.all (fun g => apartB f g && apartB g f) && apartAll l
theorem apart_at : ∀ {l : List Fm}, apartAll l = true → ∀ {i k : Nat} {f g : Fm}, i ≠ k → l[i]? = some f → l[k]? = some g → apartB f g = true
  | [], _, i, k, f, g, _, h, _ => by simp at h
  | a :: l, ha, i, k, f, g, hne, hi, hk => by
    simp only [apartAll, Bool.and_eq_true, List.all_eq_true] at ha
    cases i with
    | zero =>
      cases k with
      | zero => exact absurd rfl hne
      | succ k =>
        simp only [List.getElem?_cons_zero, Option.some.injEq] at hi
        rw [List.getElem?_cons_succ] at hk
        subst hi
        exact (ha.1 g (List.mem_of_getElem? hk)).1
    | succ i =>
      rw [List.getElem?_cons_succ] at hi
      cases k with
      | zero =>
        simp only [List.getElem?_cons_zero, Option.some.injEq] at hk
        subst hk
        exact (ha.1 f (List.mem_of_getElem? hi)).2
      | succ k =>
        rw [List.getElem?_cons_succ] at hk
        exact apart_at ha.2 (fun e => hne (by rw [e])) hi hk
/-- The ways in which the tests go. -/
inductive Ways (i k : Nat) (f g : Fm) : Prop where
  | same (h : i = k) (e : f = g)
  | pre (h : ¬ i = k) (e : ¬ f.pre = g.pre)
  | w (h : ¬ i = k) (e : f.pre = g.pre) (e1 : ¬ f.w = g.w)
  | map (h : ¬ i = k) (e : f.pre = g.pre) (e1 : f.w = g.w) (e2 : ¬ f.map = g.map)
  | code (h : ¬ i = k) (e : f.pre = g.pre) (e1 : f.w = g.w) (e2 : f.map = g.map) (e3 : ¬ f.code = g.code)
  | digit (h : ¬ i = k) (e : f.pre = g.pre) (e1 : f.w = g.w) (e2 : f.map = g.map) (e3 : f.code = g.code) (d1 : 0 ≤ f.digit) (d2 : 0 ≤ g.digit) (d3 : ¬ f.digit = g.digit)
theorem ways_of {l : List Fm} (ha : apartAll l = true) {i k : Nat} {f g : Fm} (hi : l[i]? = some f) (hk : l[k]? = some g) : Ways i k f g := by
  by_cases h : i = k
  · subst h
    exact .same rfl (Option.some.inj (hi.symm.trans hk))
  have hb := apart_at ha h hi hk
  by_cases e : f.pre = g.pre
  case neg => exact .pre h e
  by_cases e1 : f.w = g.w
  case neg => exact .w h e e1
  by_cases e2 : f.map = g.map
  case neg => exact .map h e e1 e2
  by_cases e3 : f.code = g.code
  case neg => exact .code h e e1 e2 e3
  simp [apartB, e, e1, e2, e3] at hb
  exact .digit h e e1 e2 e3 hb.1.1 hb.1.2 hb.2

theorem pick_nat (w : World) (x : Int) (m i : Nat) (h1 : 1 ≤ m) (h2 : m ≤ 1000000) (h : x % (m : Int) = (i : Int)) : Calls Try.prog 21 #[.int .i64 x, .int .i64 m] w (PickP w (i : Int)) := by
  rw [← h]
  exact pick w x m h1 h2
theorem pick_lt (x : Int) (m : Nat) (h1 : 1 ≤ m) : ∃ i : Nat, x % (m : Int) = (i : Int) ∧ i < m := by
  have b1 : 0 ≤ x % (m : Int) := Int.emod_nonneg x (by omega)
  have b2 : x % (m : Int) < m := Int.emod_lt_of_pos x (by omega)
  exact ⟨(x % (m : Int)).toNat, by omega, by omega⟩

theorem apart_below {w w2 : World} (h : Below w.heap.size w w2) (o o1 : Obj) : Below w.heap.size w ((w2.alloc o).alloc o1).drew :=
  ((h.alloc h.size o).alloc (by have := h.size; simp; omega) o1).drew

end Go.Proofs.Ytchodalkdejiiaa.La
