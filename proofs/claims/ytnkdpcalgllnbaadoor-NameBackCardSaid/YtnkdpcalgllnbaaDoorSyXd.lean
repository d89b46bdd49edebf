/-
  The symbolic run over this seat's program: its functions; the calls that the run enters (laid by gen_cfg.py).
-/
import Derived.Test.YtnkdpcalgllnbaaDoorSyN
import Derived.Test.YtnkdpcalgllnbaaDoorRows
import Derived.KernelRfl
namespace Go.Proofs.YtnkdpcalgllnbaaDoor.Sy
open Go Go.RowKit
noncomputable def ftl : List Nat := [3, 4, 5, 6, 7, 8, 9, 10, 11, 12, 13, 14, 15, 16, 17, 18, 19, 20, 21, 22, 23, 24, 25, 26, 27, 28, 29, 30, 31, 32, 33, 34, 35, 37, 38, 39, 41, 42]
noncomputable def ftOf (f : Nat) : Option Func := if ftl.any (fun g => Nat.beq g f) then Tryd.prog.funcs[f]? else none
theorem enters_all : ∀ f ∈ ftl, ∀ xs w, (callFunc f xs).run Tryd.prog w = .ok (.enter f xs) w := by
  unfold ftl
  simp only [List.forall_mem_cons]
  exact ⟨Tryd.call3, Tryd.call4, Tryd.call5, Tryd.call6, Tryd.call7, Tryd.call8, Tryd.call9, Tryd.call10, Tryd.call11, Tryd.call12, Tryd.call13, Tryd.call14, Tryd.call15, Tryd.call16, Tryd.call17, Tryd.call18, Tryd.call19, Tryd.call20, Tryd.call21, Tryd.call22, Tryd.call23, Tryd.call24, Tryd.call25, Tryd.call26, Tryd.call27, Tryd.call28, Tryd.call29, Tryd.call30, Tryd.call31, Tryd.call32, Tryd.call33, Tryd.call34, Tryd.call35, Tryd.call37, Tryd.call38, Tryd.call39, Tryd.call41, Tryd.call42, fun _ h => by cases h⟩
theorem ftOf_ok : ∀ f fn, ftOf f = some fn → Tryd.prog.funcs[f]? = some fn ∧ ∀ xs w, (callFunc f xs).run Tryd.prog w = .ok (.enter f xs) w := by
  intro f fn h
  unfold ftOf at h
  split at h
  · rename_i hc
    refine ⟨h, ?_⟩
    rw [List.any_eq_true] at hc
    obtain ⟨g, hg, e⟩ := hc
    rw [← Nat.eq_of_beq_eq_true e]
    exact enters_all g hg
  · cases h
theorem follows_mixed : Tryd.prog.follows .mixedOrders = true := by kernel_rfl
noncomputable def C0 : Cfg := { P := Tryd.prog, FT := ftOf, neq := fun _ _ => false }
noncomputable def noSum : CallT := fun _ _ _ => none
noncomputable def noYld : YieldT := fun _ _ => none
theorem noSum_ok (X : Ctx) : CallOK X noSum := fun f args m r m' h => by cases h
theorem noYld_ok (X : Ctx) : YieldOK X noYld := fun args m r m' h => by cases h
/-- The run with some calls told outright. -/
noncomputable def callS (sum : CallT) : CallT := callF C0 sum noYld (fun call => drawRun C0 call noYld) 12
noncomputable def call0 : CallT := callS noSum
/-- A context over this program. -/
noncomputable def ctx (S : Nat → Value) (lp : Nat) (LI : (Nat → Prop) → Va → World → Prop) : Ctx := { C := C0, S := S, lp := lp, LI := LI }
structure LIok (LI : (Nat → Prop) → Va → World → Prop) : Prop where
  keep : ∀ (D D' : Nat → Prop) V V' w w', V.agree D V' → (∀ i, D i → D' i) → KeepsOthers w w' → LI D V w → LI D' V' w'
theorem li_true : LIok fun _ _ _ => True := ⟨fun _ _ _ _ _ _ _ _ _ _ => trivial⟩
theorem ctx_ok {S : Nat → Value} {lp : Nat} {LI : (Nat → Prop) → Va → World → Prop} (hS : ∀ k, (S k).oneCell' = true) (hL : LIok LI) : XOK (ctx S lp LI) := ⟨hS, (fun k a h => by cases h), (fun _ _ _ h => by cases h), hL.keep⟩
theorem callS_ok {S : Nat → Value} {lp : Nat} {LI : (Nat → Prop) → Va → World → Prop} (hS : ∀ k, (S k).oneCell' = true) (hL : LIok LI) {sum : CallT} (hsum : CallOK (ctx S lp LI) sum) : CallOK (ctx S lp LI) (callS sum) :=
  callF_sound (X := ctx S lp LI) (ctx_ok hS hL) hsum (noYld_ok _) (drawRun_ok (X := ctx S lp LI) (ctx_ok hS hL) (noYld_ok _) follows_mixed) ftOf_ok 12
theorem call0_ok {S : Nat → Value} {lp : Nat} {LI : (Nat → Prop) → Va → World → Prop} (hS : ∀ k, (S k).oneCell' = true) (hL : LIok LI) : CallOK (ctx S lp LI) call0 := callS_ok hS hL (noSum_ok _)
end Go.Proofs.YtnkdpcalgllnbaaDoor.Sy
