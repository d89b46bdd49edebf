/-
  A text's words, split; the parts of a function that ranges over them.
-/
import Derived.Test.YtnkdpcalgllnbaaDoorSyZ3
namespace Go.Proofs.YtnkdpcalgllnbaaDoor.Na
open Go Go.RowKit Go.Shelf Go.Proofs.YtnkdpcalgllnbaaDoor Go.Proofs.YtnkdpcalgllnbaaDoor.Sy

def splitL : List UInt8 → List (List UInt8)
  | [] => [[]]
  | c :: t => if c.toNat == 32 then [] :: splitL t else match splitL t with
    | w :: ws => (c :: w) :: ws
    | [] => [[c]]
theorem Sp_ne {t : List UInt8} {ws : List (List UInt8)} (h : Sp t ws) : ws ≠ [] := by cases h <;> simp
theorem u32 {c : UInt8} (h : ¬ c.toNat == 32) : (c == 32) = false := by
  have h' : ¬ c.toNat = 32 := by simpa using h
  simp only [beq_eq_false_iff_ne]
  intro e
  exact h' (by rw [e]; rfl)
theorem split_sp : ∀ t : List UInt8, Sp t (splitL t)
  | [] => .last rfl
  | c :: t => by
    have ih := split_sp t
    unfold splitL
    by_cases hc : (c.toNat == 32) = true
    · rw [if_pos hc]
      have e : c = 32 := by
        have h' : c.toNat = 32 := by simpa using hc
        exact UInt8.toNat_inj.1 h'
      subst e
      exact .more (u := []) (r := t) rfl ih
    · rw [if_neg hc]
      have hb := u32 hc
      generalize splitL t = q at ih
      cases ih with
      | last h =>
        refine .last ?_
        rw [Lib.indexByte, hb]
        simp [h]
      | more h hr =>
        rename_i u r ws
        have h' : Lib.indexByte ((c :: u) ++ 32 :: r) 32 = (c :: u).length := by
          rw [List.cons_append, Lib.indexByte, hb, h]
          simp only [Bool.false_eq_true, if_false, List.length_cons]
          have : ¬ ((u.length : Int) == -1) = true := by simp
          rw [if_neg this]
          omega
        exact .more h' hr

/-! ### The parts of a body -/
noncomputable def bodyOf (k : Nat) : Code := ((Tryd.prog.funcs[k]?).bind (·.body)).getD .skip
noncomputable def c1 : Code → Code
  | .seq a _ => a
  | _ => .skip
noncomputable def c2 : Code → Code
  | .seq _ b => b
  | _ => .skip
noncomputable def rfA : Code → Code
  | .block _ (.rangeFunc _ _ a _) => a
  | _ => .skip
noncomputable def rfB : Code → Code
  | .block _ (.rangeFunc _ _ _ b) => b
  | _ => .skip
noncomputable def pA (k : Nat) : Code := c1 (bodyOf k)
noncomputable def pB (k : Nat) : Code := c1 (c2 (bodyOf k))
noncomputable def pE (k : Nat) : Code := c1 (c1 (c2 (c2 (bodyOf k))))
noncomputable def pL (k : Nat) : Code := c2 (c1 (c2 (c2 (bodyOf k))))
noncomputable def pRest (k : Nat) : Code := c2 (c2 (c2 (bodyOf k)))
noncomputable def fmFr : Option (Frm × Mem) → Frm
  | some (fr, _) => fr
  | none => { N := 0, tr := .nil }
noncomputable def fmMem : Option (Frm × Mem) → Mem
  | some (_, m) => m
  | none => Mem.empty
noncomputable def strAt (m : Mem) (i : Nat) : ByteArray := match m.H.get i with
  | some o => match o.cs with
    | [.lit (.string s)] => s
    | _ => ⟨#[]⟩
  | none => ⟨#[]⟩

/-- The iterator, whoever ranges over it. -/
theorem iter_all (s0 : ByteArray) (hlen : s0.data.toList.length ≤ 1000000) : ∀ (l Bs Bp Bv : Nat) (J : Nat → World → Prop) (Jx : World → Prop), (∀ k W v, J k W → J k (W.setCell ⟨Bs, 0, none⟩ v)) →
    (∀ k (x : List UInt8) W, (splitL s0.data.toList)[k]? = some x → J k W → YieldAt (Fw none) 0 Tryd.prog l #[.string ⟨x.toArray⟩] W fun e W' => (e = .returned (.bool true) ∧ J (k + 1) W' ∧ KB Bs Bp Bv W W') ∨ (e = .returned (.bool false) ∧ Jx W')) →
    ∀ W, Boxes Bs Bp Bv s0 W → Bs ≠ Bp → Bs ≠ Bv → J 0 W → Calls Tryd.prog 35 #[.func (.yield l) #[] #[], .pointer (some ⟨Bp, 0, none⟩), .pointer (some ⟨Bs, 0, none⟩), .pointer (some ⟨Bv, 0, none⟩)] W fun e W' => (∃ v, e = .returned v) ∧ (J (splitL s0.data.toList).length W' ∨ Jx W') := by
  intro l Bs Bp Bv J Jx hJ hY W hB h1 h2 h0
  have e0 : (⟨s0.data.toList.toArray⟩ : ByteArray) = s0 := by cases s0; simp
  refine callsIn_fw (ro := none) (n := 1) |>.1 (iter35 (Fw none) 1 trivial trivial rfl (Nat.le_refl _) (fun s c w => callsIn_fw.2 (sh_strings_Index_one s c w)) l Bs Bp Bv J Jx (splitL s0.data.toList) hJ hY s0.data.toList hlen (split_sp _) W ?_ h1 h2 h0)
  rw [e0]
  exact hB
end Go.Proofs.YtnkdpcalgllnbaaDoor.Na
