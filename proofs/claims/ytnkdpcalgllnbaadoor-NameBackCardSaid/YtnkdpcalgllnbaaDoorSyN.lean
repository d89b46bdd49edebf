/-
  The symbolic run: tables of forms: how they are read off a memory, and laid into one.
-/
import Derived.Test.YtnkdpcalgllnbaaDoorSyK
namespace Go.Proofs.YtnkdpcalgllnbaaDoor.Sy
open Go Go.RowKit

/-- A form, as data. -/
structure Fo where
  op : Int
  sh : List Int
  sl : List Int
  pre : Int
  map : Int
  code : Int
  digit : Int
  w : Int
  vex : Bool
  l : Int

noncomputable def intOfAt : At → Option Int
  | .lit (.int .i64 n) => some n
  | _ => none

noncomputable def intsOf : List At → Option (List Int)
  | [] => some []
  | a :: l => match intOfAt a, intsOf l with
    | some n, some r => some (n :: r)
    | _, _ => none

noncomputable def readInts (m : Mem) : At → Option (List Int)
  | .lit (.slice none 0 0) => some []
  | .sl i n => match m.H.get i with
    | some o => intsOf (o.cs.take n)
    | none => none
  | _ => none

noncomputable def readForm (m : Mem) : List At → Option Fo
  | [a0, a1, a2, a3, a4, a5, a6, a7, .lit (.bool v), a9] =>
    match intOfAt a0, readInts m a1, readInts m a2, intOfAt a3, intOfAt a4, intOfAt a5, intOfAt a6, intOfAt a7, intOfAt a9 with
    | some op, some sh, some sl, some pre, some map, some code, some digit, some w, some l => some ⟨op, sh, sl, pre, map, code, digit, w, v, l⟩
    | _, _, _, _, _, _, _, _, _ => none
  | _ => none

noncomputable def readForms (m : Mem) : Nat → List At → Option (List Fo)
  | 0, _ => some []
  | n + 1, cs => match readForm m (cs.take 10), readForms m n (cs.drop 10) with
    | some f, some r => some (f :: r)
    | _, _ => none

noncomputable def readRes : Option (SV × Mem) → Option (List Fo)
  | some (.one (.sl id n), m) => match m.H.get id with
    | some o => readForms m n o.cs
    | none => none
  | _ => none
end Go.Proofs.YtnkdpcalgllnbaaDoor.Sy
