/-
  The symbolic run over this seat's program: its functions; the calls that the run enters (laid by gen_cfg.py).
-/
import Derived.Test.YtchodalkdejiiaaSyN
import Derived.Test.YtchodalkdejiiaaRows
import Derived.KernelRfl
namespace Go.Proofs.Ytchodalkdejiiaa.Sy
open Go Go.RowKit
noncomputable def ftl : List Nat := [3, 4, 5, 6, 7, 8, 9, 10, 11, 12, 13, 14, 15, 16, 17, 18, 19, 20, 21, 22, 23, 24, 25, 26, 27, 28, 29, 30, 31, 32, 33, 34, 35, 36, 37, 38, 39, 40, 41, 42, 43, 44, 45, 46, 47, 48, 49, 50, 51, 52, 53, 54, 55, 56, 57, 58, 59, 60, 61, 62, 63, 64, 65, 66, 67, 68, 69, 70, 71, 72, 73, 74, 75, 76, 77, 78, 79, 80, 81, 82, 83, 84, 85, 86, 87, 88, 89, 90, 91, 92, 93, 94, 95, 96, 97, 98, 115, 116, 117, 118, 119, 120]
noncomputable def ftOf (f : Nat) : Option Func := if ftl.any (fun g => Nat.beq g f) then Try.prog.funcs[f]? else none
theorem enters_all : ∀ f ∈ ftl, ∀ xs w, (callFunc f xs).run Try.prog w = .ok (.enter f xs) w := by
  unfold ftl
  simp only [List.forall_mem_cons]
  exact ⟨Try.call3, Try.call4, Try.call5, Try.call6, Try.call7, Try.call8, Try.call9, Try.call10, Try.call11, Try.call12, Try.call13, Try.call14, Try.call15, Try.call16, Try.call17, Try.call18, Try.call19, Try.call20, Try.call21, Try.call22, Try.call23, Try.call24, Try.call25, Try.call26, Try.call27, Try.call28, Try.call29, Try.call30, Try.call31, Try.call32, Try.call33, Try.call34, Try.call35, Try.call36, Try.call37, Try.call38, Try.call39, Try.call40, Try.call41, Try.call42, Try.call43, Try.call44, Try.call45, Try.call46, Try.call47, Try.call48, Try.call49, Try.call50, Try.call51, Try.call52, Try.call53, Try.call54, Try.call55, Try.call56, Try.call57, Try.call58, Try.call59, Try.call60, Try.call61, Try.call62, Try.call63, Try.call64, Try.call65, Try.call66, Try.call67, Try.call68, Try.call69, Try.call70, Try.call71, Try.call72, Try.call73, Try.call74, Try.call75, Try.call76, Try.call77, Try.call78, Try.call79, Try.call80, Try.call81, Try.call82, Try.call83, Try.call84, Try.call85, Try.call86, Try.call87, Try.call88, Try.call89, Try.call90, Try.call91, Try.call92, Try.call93, Try.call94, Try.call95, Try.call96, Try.call97, Try.call98, Try.call115, Try.call116, Try.call117, Try.call118, Try.call119, Try.call120, fun _ h => by cases h⟩
theorem ftOf_ok : ∀ f fn, ftOf f = some fn → Try.prog.funcs[f]? = some fn ∧ ∀ xs w, (callFunc f xs).run Try.prog w = .ok (.enter f xs) w := by
  intro f fn h
  unfold ftOf at h
  split at h
  · rename_i hc
    refine ⟨h, ?_⟩
    rw [List.any_eq_true] at hc
    obtain ⟨g, hg, e⟩ := hc
    rw [← Nat.eq_of_beq_eq_true e]
    exact enters_all g hg
  · cases h
theorem follows_mixed : Try.prog.follows .mixedOrders = true := by kernel_rfl
noncomputable def C0 : Cfg := { P := Try.prog, FT := ftOf, neq := fun _ _ => false }
noncomputable def noSum : CallT := fun _ _ _ => none
noncomputable def noYld : YieldT := fun _ _ => none
theorem noSum_ok (X : Ctx) : CallOK X noSum := fun f args m r m' h => by cases h
theorem noYld_ok (X : Ctx) : YieldOK X noYld := fun args m r m' h => by cases h
/-- The run with some calls told outright. -/
noncomputable def callS (sum : CallT) : CallT := callF C0 sum noYld (fun call => drawRun C0 call noYld) 12
noncomputable def call0 : CallT := callS noSum
/-- A context over this program. -/
noncomputable def ctx (S : Nat → Value) (lp : Nat) (LI : (Nat → Prop) → Va → World → Prop) : Ctx := { C := C0, S := S, lp := lp, LI := LI }
structure LIok (LI : (Nat → Prop) → Va → World → Prop) : Prop where
  keep : ∀ (D D' : Nat → Prop) V V' w w', V.agree D V' → (∀ i, D i → D' i) → KeepsOthers w w' → LI D V w → LI D' V' w'
theorem li_true : LIok fun _ _ _ => True := ⟨fun _ _ _ _ _ _ _ _ _ _ => trivial⟩
theorem ctx_ok {S : Nat → Value} {lp : Nat} {LI : (Nat → Prop) → Va → World → Prop} (hS : ∀ k, (S k).oneCell' = true) (hL : LIok LI) : XOK (ctx S lp LI) := ⟨hS, (fun k a h => by cases h), (fun _ _ _ h => by cases h), hL.keep⟩
theorem callS_ok {S : Nat → Value} {lp : Nat} {LI : (Nat → Prop) → Va → World → Prop} (hS : ∀ k, (S k).oneCell' = true) (hL : LIok LI) {sum : CallT} (hsum : CallOK (ctx S lp LI) sum) : CallOK (ctx S lp LI) (callS sum) :=
  callF_sound (X := ctx S lp LI) (ctx_ok hS hL) hsum (noYld_ok _) (drawRun_ok (X := ctx S lp LI) (ctx_ok hS hL) (noYld_ok _) follows_mixed) ftOf_ok 12
theorem call0_ok {S : Nat → Value} {lp : Nat} {LI : (Nat → Prop) → Va → World → Prop} (hS : ∀ k, (S k).oneCell' = true) (hL : LIok LI) : CallOK (ctx S lp LI) call0 := callS_ok hS hL (noSum_ok _)
end Go.Proofs.Ytchodalkdejiiaa.Sy
