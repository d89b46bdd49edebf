/-
  No cell of these rows narrows 'for every input' (looked for: loops, veiled, ifaces, maps, wideKeys, modest, calm, conditions, laid).
  DERIVED. THE GIVEN ROWS OF THIS SEAT. 12 by the template 'for every input the law returns true; each argument reads behind the call as it read before'; 0 by the template 'total and deterministic' (their statements: YtchodalkdejiiaaTotals.lean).
  GIVEN WITH THE SEED: the statements are not yours to turn. If you find one false, say at which input.
  Laid BY PROGRAM, IN A SANDBOX (cutbox-rows.mjs): the forced cells as the released guide's own fill.sh prints them over the translation 775f8997b81e4009… (all of the seat's roots in one cut). By AI agents, Wed Nov 11 2026. No macro, syntax, notation, axiom, sorry.
-/
import Derived.Test.YtchodalkdejiiaaChecked
import GoSem.Claim
import GoSem.ClaimJoined
import GoSem.ClaimMapViews
import Derived.JoinedTies
import Derived.KernelRfl
namespace Go.Proofs.Ytchodalkdejiiaa
/- THE CELL 'sum', in the pinned program and in every row, IS THE sha256 OF THE DUMP (.gsa) THAT YtchodalkdejiiaaProg.lean LOADS. Nothing in Lean hashes anything: it is a label: what it is worth is what the hold of that sum in a sandbox is worth. -/
noncomputable def Try.pinned : Pinned := { name := "ytchodalkdejiiaa", sum := "775f8997b81e40097b604f3b8963b13eddbfb2d1f216b1583286348cf42dad15", checked := Try.checked }
namespace Rows
def none {H : Type} : Left H := { results := [], args := [] }

/-- 'linotypelaw15.FlowRows': WHATEVER THE INPUT: true; the input reads as it did. -/
def flowRowsSpec : ChangeSpec := { name := "flowRows", fn := fun _ => fun
  | [] => { results := [.lit (.bool true)], args := [] }
  | _ => none }
def flowRowsRow : OpenClaim := { program := "ytchodalkdejiiaa", sum := "775f8997b81e40097b604f3b8963b13eddbfb2d1f216b1583286348cf42dad15", func := "linotype/linotypelaw15.FlowRows", spec := "flowRows", unfollowed := true, recurses := true, apart := false }
def FlowRowsSaid : Prop := flowRowsRow.holds Try.pinned (OpenSpec.ofChange flowRowsSpec)

/-- ITS FALSE NEIGHBOUR: 'it returns false'. Refute it at one input. -/
def flowRowsWrong : ChangeSpec := { name := "flowRows", fn := fun _ => fun
  | [] => { results := [.lit (.bool false)], args := [] }
  | _ => none }
def FlowRowsWrongFalsely : Prop := flowRowsRow.holds Try.pinned (OpenSpec.ofChange flowRowsWrong)

/-- 'linotypelaw15.FlowOf': WHATEVER THE INPUT: true; the input reads as it did. -/
def flowOfSpec : ChangeSpec := { name := "flowOf", fn := fun _ => fun
  | [d] => { results := [.lit (.bool true)], args := [d] }
  | _ => none }
def flowOfRow : OpenClaim := { program := "ytchodalkdejiiaa", sum := "775f8997b81e40097b604f3b8963b13eddbfb2d1f216b1583286348cf42dad15", func := "linotype/linotypelaw15.FlowOf", spec := "flowOf", unfollowed := true, recurses := true, apart := false }
def FlowOfSaid : Prop := flowOfRow.holds Try.pinned (OpenSpec.ofChange flowOfSpec)

/-- ITS FALSE NEIGHBOUR: 'it returns false'. Refute it at one input. -/
def flowOfWrong : ChangeSpec := { name := "flowOf", fn := fun _ => fun
  | [d] => { results := [.lit (.bool false)], args := [d] }
  | _ => none }
def FlowOfWrongFalsely : Prop := flowOfRow.holds Try.pinned (OpenSpec.ofChange flowOfWrong)

/-- 'linotypelaw15.FlowApart': WHATEVER THE INPUT: true; the input reads as it did. -/
def flowApartSpec : ChangeSpec := { name := "flowApart", fn := fun _ => fun
  | [d1, d2] => { results := [.lit (.bool true)], args := [d1, d2] }
  | _ => none }
def flowApartRow : OpenClaim := { program := "ytchodalkdejiiaa", sum := "775f8997b81e40097b604f3b8963b13eddbfb2d1f216b1583286348cf42dad15", func := "linotype/linotypelaw15.FlowApart", spec := "flowApart", unfollowed := true, recurses := true, apart := false }
def FlowApartSaid : Prop := flowApartRow.holds Try.pinned (OpenSpec.ofChange flowApartSpec)

/-- ITS FALSE NEIGHBOUR: 'it returns false'. Refute it at one input. -/
def flowApartWrong : ChangeSpec := { name := "flowApart", fn := fun _ => fun
  | [d1, d2] => { results := [.lit (.bool false)], args := [d1, d2] }
  | _ => none }
def FlowApartWrongFalsely : Prop := flowApartRow.holds Try.pinned (OpenSpec.ofChange flowApartWrong)

/-- 'linotypelaw15.FlowKnown': WHATEVER THE INPUT: true; the input reads as it did. -/
def flowKnownSpec : ChangeSpec := { name := "flowKnown", fn := fun _ => fun
  | [] => { results := [.lit (.bool true)], args := [] }
  | _ => none }
def flowKnownRow : OpenClaim := { program := "ytchodalkdejiiaa", sum := "775f8997b81e40097b604f3b8963b13eddbfb2d1f216b1583286348cf42dad15", func := "linotype/linotypelaw15.FlowKnown", spec := "flowKnown", unfollowed := true, recurses := true, apart := false }
def FlowKnownSaid : Prop := flowKnownRow.holds Try.pinned (OpenSpec.ofChange flowKnownSpec)

/-- ITS FALSE NEIGHBOUR: 'it returns false'. Refute it at one input. -/
def flowKnownWrong : ChangeSpec := { name := "flowKnown", fn := fun _ => fun
  | [] => { results := [.lit (.bool false)], args := [] }
  | _ => none }
def FlowKnownWrongFalsely : Prop := flowKnownRow.holds Try.pinned (OpenSpec.ofChange flowKnownWrong)

/-- 'linotypelaw15.FlowConds': WHATEVER THE INPUT: true; the input reads as it did. -/
def flowCondsSpec : ChangeSpec := { name := "flowConds", fn := fun _ => fun
  | [d] => { results := [.lit (.bool true)], args := [d] }
  | _ => none }
def flowCondsRow : OpenClaim := { program := "ytchodalkdejiiaa", sum := "775f8997b81e40097b604f3b8963b13eddbfb2d1f216b1583286348cf42dad15", func := "linotype/linotypelaw15.FlowConds", spec := "flowConds", unfollowed := true, recurses := true, apart := false }
def FlowCondsSaid : Prop := flowCondsRow.holds Try.pinned (OpenSpec.ofChange flowCondsSpec)

/-- ITS FALSE NEIGHBOUR: 'it returns false'. Refute it at one input. -/
def flowCondsWrong : ChangeSpec := { name := "flowConds", fn := fun _ => fun
  | [d] => { results := [.lit (.bool false)], args := [d] }
  | _ => none }
def FlowCondsWrongFalsely : Prop := flowCondsRow.holds Try.pinned (OpenSpec.ofChange flowCondsWrong)

/-- 'linotypelaw13.AluRows': WHATEVER THE INPUT: true; the input reads as it did. -/
def aluRowsSpec : ChangeSpec := { name := "aluRows", fn := fun _ => fun
  | [] => { results := [.lit (.bool true)], args := [] }
  | _ => none }
def aluRowsRow : OpenClaim := { program := "ytchodalkdejiiaa", sum := "775f8997b81e40097b604f3b8963b13eddbfb2d1f216b1583286348cf42dad15", func := "linotype/linotypelaw13.AluRows", spec := "aluRows", unfollowed := true, recurses := true, apart := false }
def AluRowsSaid : Prop := aluRowsRow.holds Try.pinned (OpenSpec.ofChange aluRowsSpec)

/-- ITS FALSE NEIGHBOUR: 'it returns false'. Refute it at one input. -/
def aluRowsWrong : ChangeSpec := { name := "aluRows", fn := fun _ => fun
  | [] => { results := [.lit (.bool false)], args := [] }
  | _ => none }
def AluRowsWrongFalsely : Prop := aluRowsRow.holds Try.pinned (OpenSpec.ofChange aluRowsWrong)

/-- 'linotypelaw13.AluOf': WHATEVER THE INPUT: true; the input reads as it did. -/
def aluOfSpec : ChangeSpec := { name := "aluOf", fn := fun _ => fun
  | [d] => { results := [.lit (.bool true)], args := [d] }
  | _ => none }
def aluOfRow : OpenClaim := { program := "ytchodalkdejiiaa", sum := "775f8997b81e40097b604f3b8963b13eddbfb2d1f216b1583286348cf42dad15", func := "linotype/linotypelaw13.AluOf", spec := "aluOf", unfollowed := true, recurses := true, apart := false }
def AluOfSaid : Prop := aluOfRow.holds Try.pinned (OpenSpec.ofChange aluOfSpec)

/-- ITS FALSE NEIGHBOUR: 'it returns false'. Refute it at one input. -/
def aluOfWrong : ChangeSpec := { name := "aluOf", fn := fun _ => fun
  | [d] => { results := [.lit (.bool false)], args := [d] }
  | _ => none }
def AluOfWrongFalsely : Prop := aluOfRow.holds Try.pinned (OpenSpec.ofChange aluOfWrong)

/-- 'linotypelaw13.AluEight': WHATEVER THE INPUT: true; the input reads as it did. -/
def aluEightSpec : ChangeSpec := { name := "aluEight", fn := fun _ => fun
  | [d1, d2] => { results := [.lit (.bool true)], args := [d1, d2] }
  | _ => none }
def aluEightRow : OpenClaim := { program := "ytchodalkdejiiaa", sum := "775f8997b81e40097b604f3b8963b13eddbfb2d1f216b1583286348cf42dad15", func := "linotype/linotypelaw13.AluEight", spec := "aluEight", unfollowed := true, recurses := true, apart := false }
def AluEightSaid : Prop := aluEightRow.holds Try.pinned (OpenSpec.ofChange aluEightSpec)

/-- ITS FALSE NEIGHBOUR: 'it returns false'. Refute it at one input. -/
def aluEightWrong : ChangeSpec := { name := "aluEight", fn := fun _ => fun
  | [d1, d2] => { results := [.lit (.bool false)], args := [d1, d2] }
  | _ => none }
def AluEightWrongFalsely : Prop := aluEightRow.holds Try.pinned (OpenSpec.ofChange aluEightWrong)

/-- 'linotypelaw13.AluApart': WHATEVER THE INPUT: true; the input reads as it did. -/
def aluApartSpec : ChangeSpec := { name := "aluApart", fn := fun _ => fun
  | [d1, d2] => { results := [.lit (.bool true)], args := [d1, d2] }
  | _ => none }
def aluApartRow : OpenClaim := { program := "ytchodalkdejiiaa", sum := "775f8997b81e40097b604f3b8963b13eddbfb2d1f216b1583286348cf42dad15", func := "linotype/linotypelaw13.AluApart", spec := "aluApart", unfollowed := true, recurses := true, apart := false }
def AluApartSaid : Prop := aluApartRow.holds Try.pinned (OpenSpec.ofChange aluApartSpec)

/-- ITS FALSE NEIGHBOUR: 'it returns false'. Refute it at one input. -/
def aluApartWrong : ChangeSpec := { name := "aluApart", fn := fun _ => fun
  | [d1, d2] => { results := [.lit (.bool false)], args := [d1, d2] }
  | _ => none }
def AluApartWrongFalsely : Prop := aluApartRow.holds Try.pinned (OpenSpec.ofChange aluApartWrong)

/-- 'linotypelaw13.AluKnown': WHATEVER THE INPUT: true; the input reads as it did. -/
def aluKnownSpec : ChangeSpec := { name := "aluKnown", fn := fun _ => fun
  | [] => { results := [.lit (.bool true)], args := [] }
  | _ => none }
def aluKnownRow : OpenClaim := { program := "ytchodalkdejiiaa", sum := "775f8997b81e40097b604f3b8963b13eddbfb2d1f216b1583286348cf42dad15", func := "linotype/linotypelaw13.AluKnown", spec := "aluKnown", unfollowed := true, recurses := true, apart := false }
def AluKnownSaid : Prop := aluKnownRow.holds Try.pinned (OpenSpec.ofChange aluKnownSpec)

/-- ITS FALSE NEIGHBOUR: 'it returns false'. Refute it at one input. -/
def aluKnownWrong : ChangeSpec := { name := "aluKnown", fn := fun _ => fun
  | [] => { results := [.lit (.bool false)], args := [] }
  | _ => none }
def AluKnownWrongFalsely : Prop := aluKnownRow.holds Try.pinned (OpenSpec.ofChange aluKnownWrong)

/-- 'linotypelaw15.FlowMay': WHATEVER THE INPUT: true; the input reads as it did. -/
def flowMaySpec : ChangeSpec := { name := "flowMay", fn := fun _ => fun
  | [d] => { results := [.lit (.bool true)], args := [d] }
  | _ => none }
def flowMayRow : OpenClaim := { program := "ytchodalkdejiiaa", sum := "775f8997b81e40097b604f3b8963b13eddbfb2d1f216b1583286348cf42dad15", func := "linotype/linotypelaw15.FlowMay", spec := "flowMay", unfollowed := true, recurses := true, apart := false }
def FlowMaySaid : Prop := flowMayRow.holds Try.pinned (OpenSpec.ofChange flowMaySpec)

/-- ITS FALSE NEIGHBOUR: 'it returns false'. Refute it at one input. -/
def flowMayWrong : ChangeSpec := { name := "flowMay", fn := fun _ => fun
  | [d] => { results := [.lit (.bool false)], args := [d] }
  | _ => none }
def FlowMayWrongFalsely : Prop := flowMayRow.holds Try.pinned (OpenSpec.ofChange flowMayWrong)

/-- 'linotypelaw13.AluMay': WHATEVER THE INPUT: true; the input reads as it did. -/
def aluMaySpec : ChangeSpec := { name := "aluMay", fn := fun _ => fun
  | [d] => { results := [.lit (.bool true)], args := [d] }
  | _ => none }
def aluMayRow : OpenClaim := { program := "ytchodalkdejiiaa", sum := "775f8997b81e40097b604f3b8963b13eddbfb2d1f216b1583286348cf42dad15", func := "linotype/linotypelaw13.AluMay", spec := "aluMay", unfollowed := true, recurses := true, apart := false }
def AluMaySaid : Prop := aluMayRow.holds Try.pinned (OpenSpec.ofChange aluMaySpec)

/-- ITS FALSE NEIGHBOUR: 'it returns false'. Refute it at one input. -/
def aluMayWrong : ChangeSpec := { name := "aluMay", fn := fun _ => fun
  | [d] => { results := [.lit (.bool false)], args := [d] }
  | _ => none }
def AluMayWrongFalsely : Prop := aluMayRow.holds Try.pinned (OpenSpec.ofChange aluMayWrong)

/- THE SECOND FORM. 'bulk': how many values and letters a reading holds, each counted each time it is reached (what is shared counts as often as it is met; a slice's spare places count too). A statement '..UptoSaid' is the law's where the arguments, and the package variables that the reading takes, are together of bulk at most 1048576: NARROWER than '..Said'. Prove '..Said' where nothing that the law and all that it calls make is longer than what came in: it says more and counts as full. Else prove '..UptoSaid'. A law counts once. -/
mutual
def uptoBulk {H : Type} : DataW H → Nat
  | .lit (.string bytes) => bytes.length + 1
  | .lit _ => 1
  | .nil => 1
  | .ptr d => uptoBulk d + 1
  | .slice elems spare => uptoBulkAll elems + uptoBulkAll spare + 1
  | .agg parts => uptoBulkAll parts + 1
  | .iface _ d => uptoBulk d + 1
  | .map entries => uptoBulkEntries entries + 1
  | .held _ => 1
def uptoBulkAll {H : Type} : List (DataW H) → Nat
  | [] => 0
  | d :: r => uptoBulk d + uptoBulkAll r
def uptoBulkEntries {H : Type} : List (Lit × DataW H) → Nat
  | [] => 0
  | x :: r => uptoBulkEntry x + uptoBulkEntries r
def uptoBulkEntry {H : Type} : Lit × DataW H → Nat
  | (.string bytes, d) => bytes.length + uptoBulk d + 1
  | (_, d) => uptoBulk d + 1
 end
def uptoSmall : (H : Type) → List (DataW H) → Bool := fun _ ds => decide (uptoBulkAll ds ≤ 1048576)
def OpenSpec.upto (s : _root_.Go.ChangeSpec) : _root_.Go.OpenSpec := { _root_.Go.OpenSpec.ofChange s with cond := some uptoSmall }

/-- 'linotypelaw15.FlowRows', WHERE WHAT IT READS IS OF BULK AT MOST 1048576: true; the input reads as it did. -/
def flowRowsUptoRow : OpenClaim := { program := "ytchodalkdejiiaa", sum := "775f8997b81e40097b604f3b8963b13eddbfb2d1f216b1583286348cf42dad15", func := "linotype/linotypelaw15.FlowRows", spec := "flowRows", unfollowed := true, recurses := true, apart := false, narrowed := true }
def FlowRowsUptoSaid : Prop := flowRowsUptoRow.holds Try.pinned (OpenSpec.upto flowRowsSpec)

/-- 'linotypelaw15.FlowOf', WHERE WHAT IT READS IS OF BULK AT MOST 1048576: true; the input reads as it did. -/
def flowOfUptoRow : OpenClaim := { program := "ytchodalkdejiiaa", sum := "775f8997b81e40097b604f3b8963b13eddbfb2d1f216b1583286348cf42dad15", func := "linotype/linotypelaw15.FlowOf", spec := "flowOf", unfollowed := true, recurses := true, apart := false, narrowed := true }
def FlowOfUptoSaid : Prop := flowOfUptoRow.holds Try.pinned (OpenSpec.upto flowOfSpec)

/-- 'linotypelaw15.FlowApart', WHERE WHAT IT READS IS OF BULK AT MOST 1048576: true; the input reads as it did. -/
def flowApartUptoRow : OpenClaim := { program := "ytchodalkdejiiaa", sum := "775f8997b81e40097b604f3b8963b13eddbfb2d1f216b1583286348cf42dad15", func := "linotype/linotypelaw15.FlowApart", spec := "flowApart", unfollowed := true, recurses := true, apart := false, narrowed := true }
def FlowApartUptoSaid : Prop := flowApartUptoRow.holds Try.pinned (OpenSpec.upto flowApartSpec)

/-- 'linotypelaw15.FlowKnown', WHERE WHAT IT READS IS OF BULK AT MOST 1048576: true; the input reads as it did. -/
def flowKnownUptoRow : OpenClaim := { program := "ytchodalkdejiiaa", sum := "775f8997b81e40097b604f3b8963b13eddbfb2d1f216b1583286348cf42dad15", func := "linotype/linotypelaw15.FlowKnown", spec := "flowKnown", unfollowed := true, recurses := true, apart := false, narrowed := true }
def FlowKnownUptoSaid : Prop := flowKnownUptoRow.holds Try.pinned (OpenSpec.upto flowKnownSpec)

/-- 'linotypelaw15.FlowConds', WHERE WHAT IT READS IS OF BULK AT MOST 1048576: true; the input reads as it did. -/
def flowCondsUptoRow : OpenClaim := { program := "ytchodalkdejiiaa", sum := "775f8997b81e40097b604f3b8963b13eddbfb2d1f216b1583286348cf42dad15", func := "linotype/linotypelaw15.FlowConds", spec := "flowConds", unfollowed := true, recurses := true, apart := false, narrowed := true }
def FlowCondsUptoSaid : Prop := flowCondsUptoRow.holds Try.pinned (OpenSpec.upto flowCondsSpec)

/-- 'linotypelaw13.AluRows', WHERE WHAT IT READS IS OF BULK AT MOST 1048576: true; the input reads as it did. -/
def aluRowsUptoRow : OpenClaim := { program := "ytchodalkdejiiaa", sum := "775f8997b81e40097b604f3b8963b13eddbfb2d1f216b1583286348cf42dad15", func := "linotype/linotypelaw13.AluRows", spec := "aluRows", unfollowed := true, recurses := true, apart := false, narrowed := true }
def AluRowsUptoSaid : Prop := aluRowsUptoRow.holds Try.pinned (OpenSpec.upto aluRowsSpec)

/-- 'linotypelaw13.AluOf', WHERE WHAT IT READS IS OF BULK AT MOST 1048576: true; the input reads as it did. -/
def aluOfUptoRow : OpenClaim := { program := "ytchodalkdejiiaa", sum := "775f8997b81e40097b604f3b8963b13eddbfb2d1f216b1583286348cf42dad15", func := "linotype/linotypelaw13.AluOf", spec := "aluOf", unfollowed := true, recurses := true, apart := false, narrowed := true }
def AluOfUptoSaid : Prop := aluOfUptoRow.holds Try.pinned (OpenSpec.upto aluOfSpec)

/-- 'linotypelaw13.AluEight', WHERE WHAT IT READS IS OF BULK AT MOST 1048576: true; the input reads as it did. -/
def aluEightUptoRow : OpenClaim := { program := "ytchodalkdejiiaa", sum := "775f8997b81e40097b604f3b8963b13eddbfb2d1f216b1583286348cf42dad15", func := "linotype/linotypelaw13.AluEight", spec := "aluEight", unfollowed := true, recurses := true, apart := false, narrowed := true }
def AluEightUptoSaid : Prop := aluEightUptoRow.holds Try.pinned (OpenSpec.upto aluEightSpec)

/-- 'linotypelaw13.AluApart', WHERE WHAT IT READS IS OF BULK AT MOST 1048576: true; the input reads as it did. -/
def aluApartUptoRow : OpenClaim := { program := "ytchodalkdejiiaa", sum := "775f8997b81e40097b604f3b8963b13eddbfb2d1f216b1583286348cf42dad15", func := "linotype/linotypelaw13.AluApart", spec := "aluApart", unfollowed := true, recurses := true, apart := false, narrowed := true }
def AluApartUptoSaid : Prop := aluApartUptoRow.holds Try.pinned (OpenSpec.upto aluApartSpec)

/-- 'linotypelaw13.AluKnown', WHERE WHAT IT READS IS OF BULK AT MOST 1048576: true; the input reads as it did. -/
def aluKnownUptoRow : OpenClaim := { program := "ytchodalkdejiiaa", sum := "775f8997b81e40097b604f3b8963b13eddbfb2d1f216b1583286348cf42dad15", func := "linotype/linotypelaw13.AluKnown", spec := "aluKnown", unfollowed := true, recurses := true, apart := false, narrowed := true }
def AluKnownUptoSaid : Prop := aluKnownUptoRow.holds Try.pinned (OpenSpec.upto aluKnownSpec)

/-- 'linotypelaw15.FlowMay', WHERE WHAT IT READS IS OF BULK AT MOST 1048576: true; the input reads as it did. -/
def flowMayUptoRow : OpenClaim := { program := "ytchodalkdejiiaa", sum := "775f8997b81e40097b604f3b8963b13eddbfb2d1f216b1583286348cf42dad15", func := "linotype/linotypelaw15.FlowMay", spec := "flowMay", unfollowed := true, recurses := true, apart := false, narrowed := true }
def FlowMayUptoSaid : Prop := flowMayUptoRow.holds Try.pinned (OpenSpec.upto flowMaySpec)

/-- 'linotypelaw13.AluMay', WHERE WHAT IT READS IS OF BULK AT MOST 1048576: true; the input reads as it did. -/
def aluMayUptoRow : OpenClaim := { program := "ytchodalkdejiiaa", sum := "775f8997b81e40097b604f3b8963b13eddbfb2d1f216b1583286348cf42dad15", func := "linotype/linotypelaw13.AluMay", spec := "aluMay", unfollowed := true, recurses := true, apart := false, narrowed := true }
def AluMayUptoSaid : Prop := aluMayUptoRow.holds Try.pinned (OpenSpec.upto aluMaySpec)

end Rows
end Go.Proofs.Ytchodalkdejiiaa
