/-
  AluEight: any two of the eight, as the table has them.
-/
import Derived.Test.YtchodalkdejiiaaLbA
import Derived.Test.YtchodalkdejiiaaLaY
namespace Go.Proofs.Ytchodalkdejiiaa.Ld
open Go Go.RowKit Go.Proofs.Ytchodalkdejiiaa.La Go.Proofs.Ytchodalkdejiiaa.Lb Go.Proofs.Ytchodalkdejiiaa.Sy Go.Proofs.Ytchodalkdejiiaa.Wa Go.Proofs.Ytchodalkdejiiaa.Tab

def intsB : List Int → List Int → Bool
  | [], [] => true
  | a :: l, b :: k => a == b && intsB l k
  | _, _ => false
theorem intsB_eq : ∀ {l k : List Int}, intsB l k = true → l = k
  | [], [], _ => rfl
  | a :: l, b :: k, h => by
    simp only [intsB, Bool.and_eq_true, beq_iff_eq] at h
    rw [h.1, intsB_eq h.2]
  | [], _ :: _, h => by cases h
  | _ :: _, [], h => by cases h
def fmB (f g : Fm) : Bool := f.op == g.op && intsB f.sh g.sh && intsB f.sl g.sl && f.pre == g.pre && f.map == g.map && f.code == g.code && f.digit == g.digit && f.w == g.w && f.vex == g.vex && f.l == g.l
theorem fmB_eq {f g : Fm} (h : fmB f g = true) : f = g := by
  cases f
  cases g
  simp only [fmB, Bool.and_eq_true, beq_iff_eq] at h
  obtain ⟨⟨⟨⟨⟨⟨⟨⟨⟨h1, h2⟩, h3⟩, h4⟩, h5⟩, h6⟩, h7⟩, h8⟩, h9⟩, h10⟩ := h
  rw [h1, intsB_eq h2, intsB_eq h3, h4, h5, h6, h7, h8, h9, h10]

/-- A row of one of the eight, turned to another one. -/
def turned (d : Int) (op : Int) (f : Fm) : Fm := if 0 ≤ f.digit then { f with op := op, digit := f.digit + d } else { f with op := op, code := f.code + 8 * d }
def rowB (d : Int) (f g : Fm) : Bool := fmB (turned d g.op f) g && decide (-1 ≤ f.digit) && decide (f.digit ≤ 7) && decide (0 ≤ f.code) && decide (f.code ≤ 1000)
def rowsB (d : Int) : List Fm → List Fm → Bool
  | [], [] => true
  | f :: l, g :: k => rowB d f g && rowsB d l k
  | _, _ => false
theorem rowsB_at {d : Int} : ∀ {l k : List Fm} {n : Nat} {f g : Fm}, rowsB d l k = true → l[n]? = some f → k[n]? = some g → rowB d f g = true
  | [], [], n, f, g, _, h, _ => by simp at h
  | a :: l, b :: k, n, f, g, h, h1, h2 => by
    simp only [rowsB, Bool.and_eq_true] at h
    cases n with
    | zero =>
      simp only [List.getElem?_cons_zero, Option.some.injEq] at h1 h2
      rw [← h1, ← h2]
      exact h.1
    | succ n => exact rowsB_at h.2 (by simpa using h1) (by simpa using h2)
  | [], _ :: _, n, f, g, h, _, _ => by cases h
  | _ :: _, [], n, f, g, h, _, _ => by cases h
noncomputable def eightB (i k : Nat) : Bool := Nat.beq (ofOp aluTab (1 + i)).length 19 && rowsB ((k : Int) - i) (ofOp aluTab (1 + i)) (ofOp aluTab (1 + k))
theorem eight_all : ((List.range 8).all fun i => (List.range 8).all fun k => eightB i k) = true := by kernel_rfl
theorem eight_of {i k : Nat} (hi : i < 8) (hk : k < 8) : eightB i k = true :=
  List.all_eq_true.1 (List.all_eq_true.1 eight_all i (List.mem_range.2 hi)) k (List.mem_range.2 hk)
theorem eight_len {i : Nat} (hi : i < 8) : (ofOp aluTab (1 + i)).length = 19 := by
  have h := eight_of hi hi
  unfold eightB at h
  rw [Bool.and_eq_true] at h
  exact Nat.eq_of_beq_eq_true h.1
/-- What the loop wants of a row. -/
theorem eight_row {i k n : Nat} (hi : i < 8) (hk : k < 8) {f g : Fm} (hf : (ofOp aluTab (1 + i))[n]? = some f) (hg : (ofOp aluTab (1 + k))[n]? = some g) :
    turned ((k : Int) - i) g.op f = g ∧ -1 ≤ f.digit ∧ f.digit ≤ 7 ∧ 0 ≤ f.code ∧ f.code ≤ 1000 := by
  have h := eight_of hi hk
  unfold eightB at h
  rw [Bool.and_eq_true] at h
  have h2 := rowsB_at h.2 hf hg
  simp only [rowB, Bool.and_eq_true, decide_eq_true_eq] at h2
  exact ⟨fmB_eq h2.1.1.1.1, h2.1.1.1.2, h2.1.1.2, h2.1.2, h2.2⟩
end Go.Proofs.Ytchodalkdejiiaa.Ld
