/-
  The symbolic run over this seat's program: functions that range over a function, told by their run.
-/
import Derived.Test.YtchodalkdejiiaaSyU
import Derived.Test.YtchodalkdejiiaaSyW
namespace Go.Proofs.Ytchodalkdejiiaa.Sy
open Go Go.RowKit

noncomputable def mkY (yld : YieldT) : CallT := callF C0 sumT yld (fun call => drawRun C0 call yld) 12

noncomputable def rfBody (fn : Func) (args : List SV) (m : Mem) : Option Code → Option (SV × Mem)
  | some c => rfCode C0 callT mkY fn.results.toList { N := args.length + (fn.ntmps - args.length), tr := putArgs args 0 .nil } m c
  | none => none
noncomputable def rfFn (args : List SV) (m : Mem) : Option Func → Option (SV × Mem)
  | some fn => rfBody fn args m fn.body
  | none => none
/-- a call of a function that ranges over a function. -/
noncomputable def callRf : CallT := fun f args m => rfFn args m (ftOf f)

theorem mkY_ok {S : Nat → Value} {lp : Nat} {LI : (Nat → Prop) → Va → World → Prop} (hX : XOK (ctx S lp LI)) {yld : YieldT} (hY : YieldOK (ctx S lp LI) yld) : CallOK (ctx S lp LI) (mkY yld) :=
  callF_sound (X := ctx S lp LI) hX (sumT_ok hX.sym ⟨hX.li⟩) hY (drawRun_ok (X := ctx S lp LI) hX hY follows_mixed) ftOf_ok 12

theorem callRf_ok {S : Nat → Value} {lp : Nat} {LI : (Nat → Prop) → Va → World → Prop} (hS : ∀ k, (S k).oneCell' = true) (hL : LIok LI) : CallOK (ctx S lp LI) callRf := by
  intro f args m r m' h
  unfold callRf rfFn at h
  split at h
  case h_2 => cases h
  rename_i fn hfn
  obtain ⟨h1, h2⟩ := ftOf_ok f fn hfn
  refine ⟨h2, fun D V w hg hm hl hargs => ?_⟩
  unfold rfBody at h
  split at h
  case h_2 => cases h
  rename_i c hc
  exact rf_ok (C := C0) (S := S) (lp := lp) (LI := LI) (call := callT) (mk := mkY) (fun lp' LI' h => ctx_ok (S := S) (lp := lp') (LI := LI') hS ⟨h⟩) hL.keep
    (fun lp' LI' hX => callT_ok (S := S) (lp := lp') (LI := LI') hS ⟨hX.li⟩) (fun lp' LI' yld hX hY => mkY_ok (S := S) (lp := lp') (LI := LI') hX hY) h1 hc h hg hm hl hargs
end Go.Proofs.Ytchodalkdejiiaa.Sy
