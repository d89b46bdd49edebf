/-
  shape.Check of a form, by runs: the form's small memory.
-/
import Derived.Test.YtchodalkdejiiaaTaG
namespace Go.Proofs.Ytchodalkdejiiaa.Ma
open Go Go.RowKit Go.Proofs.Ytchodalkdejiiaa.Sy Go.Proofs.Ytchodalkdejiiaa.Wa Go.Proofs.Ytchodalkdejiiaa.Tab

noncomputable def obOf : List Int → Option Ob
  | [] => none
  | n :: l => some { t := 3, sz := 1, cs := (n :: l).map fun k => .lit (.int .i64 k) }
noncomputable def slOf (id : Nat) : List Int → At
  | [] => .lit (.slice none 0 0)
  | n :: l => .sl id (n :: l).length
noncomputable def memOf (f : Fm) : Mem := { H := (Tr.put (Tr.put .nil 0 (obOf f.sh)) 1 (obOf f.sl)), nxt := 2, mods := [] }
noncomputable def li (n : Int) : At := .lit (.int .i64 n)
noncomputable def argOf (f : Fm) : SV := .agg [li f.op, slOf 0 f.sh, slOf 1 f.sl, li f.pre, li f.map, li f.code, li f.digit, li f.w, .lit (.bool f.vex), li f.l]
noncomputable def isZero : Option (SV × Mem) → Bool
  | some (.one (.lit (.int .i64 (.ofNat 0))), m) => m.mods.all fun i => Nat.ble 2 i
  | _ => false
noncomputable def checks (f : Fm) : Bool := isZero (call0 27 [argOf f] (memOf f))
end Go.Proofs.Ytchodalkdejiiaa.Ma
