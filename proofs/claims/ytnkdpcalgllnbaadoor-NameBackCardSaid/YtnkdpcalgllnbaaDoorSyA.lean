/-
  A symbolic run of the program's code, for the kernel to reckon: the definitions. Objects are numbered; a valuation tells their blocks; what is made by append is a new object, the elder one is dead.
-/
import Derived.CallsIn
import Derived.RangeFuncOwn
import Derived.RangeFuncSeq
import Derived.LoopNIn
import Derived.TacticsIn
import Derived.Laws.AppendOwn
import Derived.Great.BuildSlice
import Derived.Orders
namespace Go.Proofs.YtnkdpcalgllnbaaDoor.Sy
open Go

/-- A computation that asks nothing but the program's tables. -/
noncomputable def pureVal {α : Type} (P : Program) : Sem α → Option α
  | .pure a => some a
  | .program k => pureVal P (k P)
  | _ => none

inductive Tr (α : Type) where
  | nil
  | node (v : Option α) (l r : Tr α)

noncomputable def Tr.get {α : Type} (t : Tr α) : Nat → Option α :=
  Tr.rec (motive := fun _ => Nat → Option α) (fun _ => none)
    (fun v _ _ gl gr k => Bool.rec (motive := fun _ => Option α)
      (Bool.rec (motive := fun _ => Option α) (gr (Nat.div (Nat.sub k (nat_lit 1)) (nat_lit 2))) (gl (Nat.div (Nat.sub k (nat_lit 1)) (nat_lit 2))) (Nat.beq (Nat.mod (Nat.sub k (nat_lit 1)) (nat_lit 2)) (nat_lit 0)))
      v (Nat.beq k (nat_lit 0))) t

noncomputable def Tr.one {α : Type} (x : Option α) (f : Nat) : Nat → Tr α :=
  Nat.rec (motive := fun _ => Nat → Tr α) (fun _ => .nil)
    (fun _ g k => Bool.rec (motive := fun _ => Tr α)
      (Bool.rec (motive := fun _ => Tr α) (.node none .nil (g (Nat.div (Nat.sub k (nat_lit 1)) (nat_lit 2)))) (.node none (g (Nat.div (Nat.sub k (nat_lit 1)) (nat_lit 2))) .nil) (Nat.beq (Nat.mod (Nat.sub k (nat_lit 1)) (nat_lit 2)) (nat_lit 0)))
      (.node x .nil .nil) (Nat.beq k (nat_lit 0))) f

noncomputable def Tr.put {α : Type} (t : Tr α) : Nat → Option α → Tr α :=
  Tr.rec (motive := fun _ => Nat → Option α → Tr α) (fun k x => Tr.one x 24 k)
    (fun v l r pl pr k x => Bool.rec (motive := fun _ => Tr α)
      (Bool.rec (motive := fun _ => Tr α) (.node v l (pr (Nat.div (Nat.sub k (nat_lit 1)) (nat_lit 2)) x)) (.node v (pl (Nat.div (Nat.sub k (nat_lit 1)) (nat_lit 2)) x) r) (Nat.beq (Nat.mod (Nat.sub k (nat_lit 1)) (nat_lit 2)) (nat_lit 0)))
      (.node x l r) (Nat.beq k (nat_lit 0))) t

/-- One cell's worth of a value. -/
inductive At where
  | lit (v : Value)
  | sym (k : Nat)
  | ptr (id off : Nat)
  | sl (id len : Nat)
  | clo (f : Nat) (caps : List (Nat × Nat))
  | yld

inductive SV where
  | one (a : At)
  | agg (l : List At)
  | tup (l : List At)

/-- What the numbers stand for: an object's block, its capacity in elements; a letter's value; the loop's record. -/
structure Va where
  blk : Nat → Nat
  cap : Nat → Nat
  sym : Nat → Value
  lp : Nat

noncomputable def At.val (V : Va) : At → Value
  | .lit v => v
  | .sym k => V.sym k
  | .ptr id off => .pointer (some ⟨V.blk id, off, none⟩)
  | .sl id len => .slice (some ⟨V.blk id, 0, none⟩) len (V.cap id)
  | .clo f caps => .func (.func f) #[] (caps.map fun p => Value.pointer (some ⟨V.blk p.1, p.2, none⟩)).toArray
  | .yld => .func (.yield V.lp) #[] #[]

noncomputable def SV.val (V : Va) : SV → Value
  | .one a => a.val V
  | .agg l => .agg (l.map (At.val V)).toArray
  | .tup l => .tuple (l.map (At.val V)).toArray

noncomputable def ofVal : Value → SV
  | .agg cs => .agg (cs.toList.map .lit)
  | .tuple cs => .tup (cs.toList.map .lit)
  | v => .one (.lit v)

noncomputable def At.lit? : At → Option Value
  | .lit v => some v
  | _ => none

noncomputable def lits : List At → Option (List Value)
  | [] => some []
  | .lit v :: l => (lits l).map (v :: ·)
  | _ => none

noncomputable def SV.lit? : SV → Option Value
  | .one a => a.lit?
  | .agg l => (lits l).map fun vs => .agg vs.toArray
  | .tup l => (lits l).map fun vs => .tuple vs.toArray

noncomputable def At.oneC : At → Bool
  | .lit v => v.oneCell'
  | _ => true

noncomputable def SV.cells : SV → Option (List At)
  | .one a => if a.oneC then some [a] else none
  | .agg l => if l.all At.oneC then some l else none
  | .tup _ => none

/-- An object: its elements' type, the cells of one element, the cells that are known; full: these are all. -/
structure Ob where
  t : Nat
  sz : Nat
  cs : List At
  full : Bool := false

structure Mem where
  H : Tr Ob
  nxt : Nat
  mods : List Nat

structure Frm where
  N : Nat
  tr : Tr SV

noncomputable def Frm.put (fr : Frm) (d : Option Nat) (s : SV) : Option Frm :=
  match d with
  | none => some fr
  | some d => if Nat.blt d fr.N then some { fr with tr := fr.tr.put d (some s) } else none

noncomputable def Frm.ev (fr : Frm) : Operand → Option SV
  | .tmp t => fr.tr.get t
  | .const v => some (ofVal v)
  | .func f => some (.one (.lit (.func (.func f) #[] #[])))
  | .global _ => none

noncomputable def Frm.evL (fr : Frm) (x : Operand) : Option Value := (fr.ev x).bind SV.lit?

noncomputable def Frm.evs (fr : Frm) : List Operand → Option (List SV)
  | [] => some []
  | x :: l => match fr.ev x with
    | some s => (fr.evs l).map (s :: ·)
    | none => none

/-- All operands are known outright. -/
noncomputable def allLit (fr : Frm) (o : Op) : Bool := o.operands.toList.all fun x => (fr.evL x).isSome

noncomputable def rho (fr : Frm) (x : Operand) : Value := (fr.evL x).getD undef

noncomputable def isSel : Op → Bool
  | .select .. => true
  | _ => false

/-- Cells laid into cells. -/
noncomputable def setAt (cs : List At) (off : Nat) : List At → List At
  | [] => cs
  | a :: l => setAt (cs.set off a) (off + 1) l

noncomputable def fillS (place : Nat → Option (Nat × Nat)) (cells : List At) : List (Nat × SV) → Option (List At)
  | [] => some cells
  | (i, s) :: rest =>
    match place i, s.cells with
    | some (off, size), some l => if Nat.beq l.length size && Nat.ble (off + l.length) cells.length then fillS place (setAt cells off l) rest else none
    | _, _ => none

noncomputable def parts (fr : Frm) : List (Nat × Operand) → Option (List (Nat × SV))
  | [] => some []
  | (i, x) :: l => match fr.ev x with
    | some s => (parts fr l).map ((i, s) :: ·)
    | none => none

abbrev CallT := Nat → List SV → Mem → Option (SV × Mem)
abbrev YieldT := List SV → Mem → Option (SV × Mem)

/-- Lists by the bare recursor: what the kernel reckons fast. -/
noncomputable def lenR (l : List At) : Nat := List.rec (motive := fun _ => Nat) (nat_lit 0) (fun _ _ ih => Nat.succ ih) l
noncomputable def appR (a b : List At) : List At := List.rec (motive := fun _ => List At) b (fun x _ ih => x :: ih) a
noncomputable def dropR (l : List At) : Nat → List At :=
  List.rec (motive := fun _ => Nat → List At) (fun _ => []) (fun x xs ih n => Bool.rec (motive := fun _ => List At) (ih (Nat.sub n (nat_lit 1))) (x :: xs) (Nat.beq n (nat_lit 0))) l
noncomputable def takeR (l : List At) : Nat → List At :=
  List.rec (motive := fun _ => Nat → List At) (fun _ => []) (fun x _ ih n => Bool.rec (motive := fun _ => List At) (x :: ih (Nat.sub n (nat_lit 1))) [] (Nat.beq n (nat_lit 0))) l
theorem lenR_eq (l : List At) : lenR l = l.length := by
  induction l with
  | nil => rfl
  | cons x l ih => exact congrArg Nat.succ ih
theorem appR_eq (a b : List At) : appR a b = a ++ b := by
  induction a with
  | nil => rfl
  | cons x l ih => exact congrArg (x :: ·) ih
theorem dropR_eq (l : List At) : ∀ n, dropR l n = l.drop n := by
  induction l with
  | nil => intro n; simp [dropR]
  | cons x l ih =>
    intro n
    cases n with
    | zero => rfl
    | succ n => exact ih n
theorem takeR_eq (l : List At) : ∀ n, takeR l n = l.take n := by
  induction l with
  | nil => intro n; simp [takeR]
  | cons x l ih =>
    intro n
    cases n with
    | zero => rfl
    | succ n => exact congrArg (x :: ·) (ih n)

noncomputable def intLit : SV → Option Nat
  | .one (.lit (.int _ (.ofNat n))) => some n
  | _ => none

/-- a new object. -/
noncomputable def Mem.new (m : Mem) (o : Ob) : Mem := { m with H := m.H.put m.nxt (some o), nxt := m.nxt + 1 }
noncomputable def Mem.set (m : Mem) (id : Nat) (o : Ob) : Mem := { m with H := m.H.put id (some o), mods := id :: m.mods }
noncomputable def Mem.die (m : Mem) (id : Nat) : Mem := { m with H := m.H.put id none, mods := id :: m.mods }

structure Cfg where
  P : Program
  FT : Nat → Option Func
  neq : Nat → Int → Bool
  ora : Op → (Operand → Option SV) → Option SV := fun _ _ => none

/-- of a slice's type: its element's type, cells, bytes, zero. -/
noncomputable def elemOf (P : Program) (t : Nat) : Option (Nat × TypeInfo × List At) :=
  match P.underlying t with
  | some (.slice e) => match P.info? e with
    | some i => match i.zero with
      | some z => some (e, i, z.cells.toList.map .lit)
      | none => none
    | none => none
  | _ => none

noncomputable def zerosS (z : List At) : Nat → List At
  | 0 => []
  | n + 1 => z ++ zerosS z n

noncomputable def oraOp (C : Cfg) (fr : Frm) (m : Mem) (o : Oper) : Option (SV × Mem) := (C.ora o.op fr.ev).map (·, m)

noncomputable def pureOp (C : Cfg) (fr : Frm) (m : Mem) (o : Oper) : Option (SV × Mem) :=
  if allLit fr o.op && !isSel o.op then
    match pureVal C.P (execOp (rho fr) o) with
    | some (.value v) => some (ofVal v, m)
    | _ => none
  else oraOp C fr m o

/-- append on the call's own. -/
noncomputable def appendNil (m : Mem) (e : Nat) (i : TypeInfo) (lx : Nat) (news : List At) : Option (SV × Mem) :=
  if Nat.ble (lx * i.bytes) 140737488355328 && Nat.ble lx 9223372036854775807 then
    some (.one (.sl m.nxt lx), m.new { t := e, sz := i.size, cs := news })
  else none

noncomputable def appendSl (m : Mem) (e : Nat) (i : TypeInfo) (idx lx : Nat) (news : List At) (ids ls : Nat) : Option (SV × Mem) :=
  match m.H.get ids with
  | some os =>
    if Nat.beq os.t e && Nat.beq os.sz i.size && Nat.beq (lenR os.cs) (ls * i.size) && !(Nat.beq ids idx) && Nat.ble ((ls + lx) * i.bytes) 140737488355328 && Nat.ble (ls + lx) 9223372036854775807 then
      some (.one (.sl m.nxt (ls + lx)), (m.die ids).new { t := e, sz := i.size, cs := appR os.cs news })
    else none
  | none => none

noncomputable def appendTo (m : Mem) (e : Nat) (i : TypeInfo) (idx lx : Nat) (news : List At) : SV → Option (SV × Mem)
  | .one (.lit (.slice none 0 0)) => appendNil m e i lx news
  | .one (.sl ids ls) => appendSl m e i idx lx news ids ls
  | _ => none

noncomputable def appendFrom (m : Mem) (e : Nat) (i : TypeInfo) (z : List At) (s : SV) (idx lx : Nat) : Option (SV × Mem) :=
  match m.H.get idx with
  | some ox =>
    if Nat.blt 0 i.size && Nat.beq z.length i.size && Nat.blt 0 lx && Nat.beq (lenR (takeR ox.cs (lx * i.size))) (lx * i.size) && (takeR ox.cs (lx * i.size)).all At.oneC then
      appendTo m e i idx lx (takeR ox.cs (lx * i.size)) s
    else none
  | none => none

noncomputable def appendOp (C : Cfg) (m : Mem) (t t' : Nat) (s x : SV) : Option (SV × Mem) :=
  if Nat.beq t t' then
    match elemOf C.P t, x with
    | some (e, i, z), .one (.sl idx lx) => appendFrom m e i z s idx lx
    | _, _ => none
  else none

noncomputable def callFn (call : CallT) (yld : YieldT) (m : Mem) (args : List SV) : Option SV → Option (SV × Mem)
  | some (.one (.lit (.func (.func f) first captured))) => if first.isEmpty && captured.isEmpty then call f args m else none
  | some (.one (.clo f caps)) => call f (args ++ caps.map fun p => .one (.ptr p.1 p.2)) m
  | some (.one .yld) => yld args m
  | _ => none

noncomputable def callVal (call : CallT) (yld : YieldT) (fr : Frm) (m : Mem) (g : Operand) (args : Array Operand) : Option (SV × Mem) :=
  match fr.evs args.toList with
  | some args => callFn call yld m args (fr.ev g)
  | none => none

noncomputable def callInv (C : Cfg) (call : CallT) (fr : Frm) (m : Mem) (r : Operand) (name : String) (args : Array Operand) : Option (SV × Mem) :=
  match fr.evL r, fr.evs args.toList with
  | some (.iface t v), some args =>
    match pureVal C.P (method (C.P.types.size + Made.depth) t v name) with
    | some (f, rv) => call f (ofVal rv :: args) m
    | none => none
  | _, _ => none

noncomputable def callAppend (C : Cfg) (fr : Frm) (m : Mem) (args : Array Operand) (ts : Array TypeId) : Option (SV × Mem) :=
  match args.toList, ts.toList with
  | [s, x], [t, t'] => match fr.ev s, fr.ev x with
    | some s, some x => appendOp C m t t' s x
    | _, _ => none
  | _, _ => none

noncomputable def callLen (C : Cfg) (fr : Frm) (m : Mem) (o : Oper) (args : Array Operand) (ts : Array TypeId) : Option (SV × Mem) :=
  match args.toList, ts.toList with
  | [x], [t] => match fr.ev x, C.P.underlying t with
    | some (.one (.sl _ n)), some (.slice _) => some (.one (.lit (.int .i64 (Int.ofNat n))), m)
    | _, _ => pureOp C fr m o
  | _, _ => none

noncomputable def callCap (C : Cfg) (fr : Frm) (m : Mem) (o : Oper) (args : Array Operand) (ts : Array TypeId) : Option (SV × Mem) :=
  match args.toList, ts.toList with
  | [x], [t] => match fr.ev x, C.P.underlying t with
    | some (.one (.sl id _)), some (.slice _) => match m.H.get id with
      | some ob => if ob.full && Nat.beq ob.sz 1 then some (.one (.lit (.int .i64 (Int.ofNat (lenR ob.cs)))), m) else none
      | none => none
    | _, _ => pureOp C fr m o
  | _, _ => none

noncomputable def callBuiltin (C : Cfg) (fr : Frm) (m : Mem) (o : Oper) (args : Array Operand) (ts : Array TypeId) : Builtin → Option (SV × Mem)
  | .append => callAppend C fr m args ts
  | .len => callLen C fr m o args ts
  | .cap => callCap C fr m o args ts
  | _ => pureOp C fr m o

noncomputable def callOp (C : Cfg) (call : CallT) (yld : YieldT) (fr : Frm) (m : Mem) (o : Oper) (c : Call) : Option (SV × Mem) :=
  match c.callee with
  | .value g => callVal call yld fr m g c.args
  | .invoke r name => callInv C call fr m r name c.args
  | .builtin b => callBuiltin C fr m o c.args c.argTypes b

noncomputable def aggD : TypeDesc → Bool
  | .struct _ | .array _ _ => true
  | _ => false

noncomputable def loadAtS (C : Cfg) (m : Mem) (t : Nat) (id off : Nat) : Option SV :=
  match m.H.get id with
  | none => none
  | some o =>
    match C.P.underlying t, C.P.info? t with
    | some d, some i =>
      if aggD d then
        if Nat.beq (lenR (takeR (dropR o.cs off) i.size)) i.size then some (.agg (takeR (dropR o.cs off) i.size)) else none
      else match dropR o.cs off with
      | a :: _ => some (.one a)
      | [] => none
    | _, _ => none

noncomputable def stMove (fr : Frm) (m : Mem) (x : Operand) : Option (SV × Mem) := (fr.ev x).map (·, m)

noncomputable def stPick (fr : Frm) (m : Mem) (c a b : Operand) : Option (SV × Mem) :=
  match fr.evL c with
  | some (.bool true) => stMove fr m a
  | some (.bool false) => stMove fr m b
  | _ => none

noncomputable def stAlloc (C : Cfg) (m : Mem) (t : Nat) : Option (SV × Mem) :=
  match C.P.info? t with
  | some i => match i.zero with
    | some z => some (.one (.ptr m.nxt 0), m.new { t := t, sz := (z.cells.toList.map At.lit).length, cs := z.cells.toList.map At.lit })
    | none => none
  | none => none

noncomputable def stBox (fr : Frm) (m : Mem) (t : Nat) (x : Operand) : Option (SV × Mem) :=
  match (fr.ev x).bind SV.cells with
  | some l => some (.one (.ptr m.nxt 0), m.new { t := t, sz := l.length, cs := l, full := true })
  | none => none

noncomputable def stBuildS (C : Cfg) (m : Mem) (fields : Array Field) (i : TypeInfo) (ps : List (Nat × SV)) : Option (SV × Mem) :=
  match i.zero with
  | some (.agg z) =>
    match fields.toList.mapM (fun f => (C.P.info? f.type).map fun j => (f.offset, j.size)) with
    | some places => (fillS (fun k => places[k]?) (z.toList.map .lit) ps).map fun l => (.agg l, m)
    | none => none
  | _ => none

noncomputable def stBuildA (C : Cfg) (m : Mem) (e : Nat) (i : TypeInfo) (ps : List (Nat × SV)) : Option (SV × Mem) :=
  match i.zero, C.P.info? e with
  | some (.agg z), some j => (fillS (fun k => some (k * j.size, j.size)) (z.toList.map .lit) ps).map fun l => (.agg l, m)
  | _, _ => none

noncomputable def stBuild (C : Cfg) (fr : Frm) (m : Mem) (t : Nat) (ps : Array (Nat × Operand)) : Option (SV × Mem) :=
  match C.P.underlying t, C.P.info? t, parts fr ps.toList with
  | some (.struct fields), some i, some ps => stBuildS C m fields i ps
  | some (.array _ e), some i, some ps => stBuildA C m e i ps
  | _, _, _ => none

noncomputable def stBuildSlice (C : Cfg) (fr : Frm) (m : Mem) (t n : Nat) (ps : Array (Nat × Operand)) : Option (SV × Mem) :=
  match elemOf C.P t, parts fr ps.toList with
  | some (e, i, z), some ps =>
    if Nat.blt 0 (n * i.size) && Nat.ble (n * i.size) 16777216 && Nat.beq z.length i.size then
      match fillS (fun k => some (k * i.size, i.size)) (zerosS z n) ps with
      | some l => if l.all At.oneC then some (.one (.sl m.nxt n), m.new { t := e, sz := i.size, cs := l, full := true }) else none
      | none => none
    else none
  | _, _ => none

noncomputable def stLoad (C : Cfg) (fr : Frm) (m : Mem) (t : Nat) (x : Operand) : Option (SV × Mem) :=
  match fr.ev x with
  | some (.one (.ptr id off)) => (loadAtS C m t id off).map (·, m)
  | _ => none

noncomputable def stStore (C : Cfg) (fr : Frm) (m : Mem) (t : Nat) (x y : Operand) : Option (SV × Mem) :=
  match fr.ev x, (fr.ev y).bind SV.cells, C.P.info? t with
  | some (.one (.ptr id off)), some l, some i =>
    match m.H.get id with
    | some ob => if Nat.beq l.length i.size && Nat.ble (off + l.length) (lenR ob.cs) then some (.tup [], m.set id { ob with cs := appR (takeR ob.cs off) (appR l (dropR ob.cs (off + l.length))) }) else none
    | none => none
  | _, _, _ => none

noncomputable def stFieldAddr (C : Cfg) (fr : Frm) (m : Mem) (s : Nat) (x : Operand) (f : Nat) : Option (SV × Mem) :=
  match fr.ev x, C.P.underlying s with
  | some (.one (.ptr id off)), some (.struct fields) =>
    match fields[f]? with
    | some fd => match C.P.info? fd.type with
      | some i => if Nat.beq i.size 0 then none else some (.one (.ptr id (off + fd.offset)), m)
      | none => none
    | none => none
  | _, _ => none

noncomputable def stIndexAddr (C : Cfg) (fr : Frm) (m : Mem) (t : Nat) (x ix : Operand) : Option (SV × Mem) :=
  match fr.ev x, fr.evL ix, C.P.underlying t with
  | some (.one (.sl id n)), some (.int _ (.ofNat k)), some (.slice e) =>
    match C.P.info? e with
    | some i => if Nat.blt k n then some (.one (.ptr id (k * i.size)), m) else none
    | none => none
  | some (.one (.ptr id off)), some (.int _ (.ofNat k)), some (.array n e) =>
    match C.P.info? e with
    | some i => if Nat.blt k n then some (.one (.ptr id (off + k * i.size)), m) else none
    | none => none
  | _, _, _ => none

noncomputable def stField (C : Cfg) (fr : Frm) (m : Mem) (t : Nat) (x : Operand) (f : Nat) : Option (SV × Mem) :=
  match fr.ev x, C.P.underlying t with
  | some (.agg l), some (.struct fields) =>
    match fields[f]? with
    | some fd => match C.P.underlying fd.type, C.P.info? fd.type with
      | some d, some i => if aggD d then some (.agg ((l.drop fd.offset).take i.size), m) else (l[fd.offset]?).map fun a => (.one a, m)
      | _, _ => none
    | none => none
  | _, _ => none

noncomputable def stIndex (C : Cfg) (fr : Frm) (m : Mem) (o : Oper) (t : Nat) (x ix : Operand) : Option (SV × Mem) :=
  match fr.ev x, fr.evL ix, C.P.underlying t with
  | some (.agg l), some (.int _ (.ofNat k)), some (.array n e) =>
    if Nat.blt k n then
      match C.P.underlying e, C.P.info? e with
      | some d, some i => if aggD d then none else (l[k * i.size]?).map fun a => (.one a, m)
      | _, _ => none
    else none
  | _, _, _ => pureOp C fr m o

noncomputable def stSlice (C : Cfg) (fr : Frm) (m : Mem) (o : Oper) (t : Nat) (x : Operand) (lo hi mx : Option Operand) : Option (SV × Mem) :=
  match fr.ev x, lo, hi, mx, C.P.underlying t with
  | some (.one (.sl id _)), none, some h, none, some (.slice e) =>
    match fr.evL h, m.H.get id, C.P.info? e with
    | some (.int _ (.ofNat k)), some ob, some _ => if Nat.blt 0 ob.sz && Nat.ble (k * ob.sz) (lenR ob.cs) then some (.one (.sl id k), m) else none
    | _, _, _ => none
  | _, _, _, _, _ => pureOp C fr m o

noncomputable def stExtract (fr : Frm) (m : Mem) (t : Operand) (i : Nat) : Option (SV × Mem) :=
  match fr.ev t with
  | some (.tup l) => (l[i]?).map fun a => (.one a, m)
  | _ => none

noncomputable def stMakeFunc (fr : Frm) (m : Mem) (f : Nat) (first caps : Array Operand) : Option (SV × Mem) :=
  if first.isEmpty then
    match fr.evs caps.toList with
    | some l => (l.mapM fun s => match s with | SV.one (At.ptr i k) => some (i, k) | _ => none).map fun q => (.one (.clo f q), m)
    | none => none
  else none

/-- small numbers, outright. -/
noncomputable def natBin (b : BinOp) (x y : Nat) : Option Value :=
  match b with
  | .add => if Nat.ble (x + y) 9223372036854775807 then some (.int .i64 (Int.ofNat (x + y))) else none
  | .lss => some (.bool (Nat.blt x y))
  | .geq => some (.bool (Nat.ble y x))
  | .leq => some (.bool (Nat.ble x y))
  | .eql => some (.bool (Nat.beq x y))
  | .neq => some (.bool (!(Nat.beq x y)))
  | _ => none

noncomputable def stEqSym (C : Cfg) (fr : Frm) (m : Mem) (o : Oper) (b : BinOp) (k : Nat) (a : Int) : Option (SV × Mem) :=
  match b with
  | .eql => if C.neq k a then some (.one (.lit (.bool false)), m) else none
  | _ => pureOp C fr m o

noncomputable def stBin (C : Cfg) (fr : Frm) (m : Mem) (o : Oper) (b : BinOp) (x y : Operand) : Option (SV × Mem) :=
  match fr.ev x, fr.ev y with
  | some (.one (.lit (.int .i64 (.ofNat p)))), some (.one (.lit (.int .i64 (.ofNat q)))) =>
    match natBin b p q with
    | some v => some (.one (.lit v), m)
    | none => pureOp C fr m o
  | some (.one (.lit (.int .i64 a))), some (.one (.sym k)) => stEqSym C fr m o b k a
  | some (.one (.sym k)), some (.one (.lit (.int .i64 a))) => stEqSym C fr m o b k a
  | _, _ => pureOp C fr m o

noncomputable def stUn (C : Cfg) (fr : Frm) (m : Mem) (o : Oper) (u : UnOp) (x : Operand) : Option (SV × Mem) :=
  match u, fr.ev x with
  | .not, some (.one (.lit (.bool b))) => some (.one (.lit (.bool (!b))), m)
  | _, _ => pureOp C fr m o

/-- One operation. -/
noncomputable def stepOp (C : Cfg) (call : CallT) (yld : YieldT) (fr : Frm) (m : Mem) (o : Oper) : Option (SV × Mem) :=
  match o.op with
  | .move x => stMove fr m x
  | .assign x => stMove fr m x
  | .pick c a b => stPick fr m c a b
  | .alloc t => stAlloc C m t
  | .box t x => stBox fr m t x
  | .build t ps => stBuild C fr m t ps
  | .buildSlice t n ps => stBuildSlice C fr m t n ps
  | .load t x => stLoad C fr m t x
  | .store t x y => stStore C fr m t x y
  | .fieldAddr s x f => stFieldAddr C fr m s x f
  | .indexAddr t x ix => stIndexAddr C fr m t x ix
  | .field t x f => stField C fr m t x f
  | .index t x ix => stIndex C fr m o t x ix
  | .slice t x lo hi mx => stSlice C fr m o t x lo hi mx
  | .extract t i => stExtract fr m t i
  | .makeFunc (.func f) first caps => stMakeFunc fr m f first caps
  | .binOp b _ x y _ => stBin C fr m o b x y
  | .unOp u _ x => stUn C fr m o u x
  | .call c => callOp C call yld fr m o c
  | _ => pureOp C fr m o

/-- Is an operation wanted? -/
noncomputable def wantedS (ops : List Oper) (fr : Frm) (o : Oper) : Option Bool :=
  match o.guard with
  | none => some true
  | some (j, want) =>
    match (ops[j]?).bind (·.dst) with
    | none => none
    | some d => match fr.tr.get d with
      | some (.one (.lit (.bool b))) => some (b == want)
      | some (.tup []) => some false
      | _ => none

noncomputable def putN (d : Option Nat) (fr : Frm) : Option (SV × Mem) → Option (Frm × Mem)
  | some (s, m') => match fr.put d s with
    | some fr' => some (fr', m')
    | none => none
  | none => none

noncomputable def opN (C : Cfg) (call : CallT) (yld : YieldT) (fr : Frm) (m : Mem) (o : Oper) : Option Bool → Option (Frm × Mem)
  | some true => putN o.dst fr (stepOp C call yld fr m o)
  | some false => putN o.dst fr (some (.tup [], m))
  | none => none

noncomputable def contN (k : Frm → Mem → Option (Frm × Mem)) : Option (Frm × Mem) → Option (Frm × Mem)
  | some (fr, m) => k fr m
  | none => none

noncomputable def runOps (C : Cfg) (call : CallT) (yld : YieldT) (ops : List Oper) (l : List Oper) : Frm → Mem → Option (Frm × Mem) :=
  List.rec (motive := fun _ => Frm → Mem → Option (Frm × Mem)) (fun fr m => some (fr, m)) (fun o _ ih fr m => contN ih (opN C call yld fr m o (wantedS ops fr o))) l

inductive Out where
  | nrm | ret | ext (id : Nat)

abbrev DrawT := List Oper → Frm → Mem → Option (Frm × Mem)

abbrev RunT := Code → Frm → Mem → Option (Out × Frm × Mem)

noncomputable def outN : Option (Frm × Mem) → Option (Out × Frm × Mem)
  | some (fr, m) => some (.nrm, fr, m)
  | none => none

noncomputable def thenN (rc : RunT) (b : Code) : Option (Out × Frm × Mem) → Option (Out × Frm × Mem)
  | some (.nrm, fr, m) => rc b fr m
  | r => r

noncomputable def blockN (id : Nat) : Option (Out × Frm × Mem) → Option (Out × Frm × Mem)
  | some (.ext i, fr, m) => if Nat.beq i id then some (.nrm, fr, m) else some (.ext i, fr, m)
  | r => r

noncomputable def condN (rc : RunT) (a b : Code) (fr : Frm) (m : Mem) : Option Value → Option (Out × Frm × Mem)
  | some (.bool true) => rc a fr m
  | some (.bool false) => rc b fr m
  | _ => none

noncomputable def regionN (C : Cfg) (call : CallT) (yld : YieldT) (drw : DrawT) (ops : List Oper) (draw : Bool) (fr : Frm) (m : Mem) : Option (Out × Frm × Mem) :=
  if draw then outN (drw ops fr m) else outN (runOps C call yld ops ops fr m)

noncomputable def runStep (C : Cfg) (call : CallT) (yld : YieldT) (drw : DrawT) (rc : RunT) (fr : Frm) (m : Mem) (c : Code) : Option (Out × Frm × Mem) :=
  match c with
  | .skip => some (.nrm, fr, m)
  | .label _ => some (.nrm, fr, m)
  | .region _ ops draw => regionN C call yld drw ops.toList draw fr m
  | .seq a b => thenN rc b (rc a fr m)
  | .cond x a b => condN rc a b fr m (fr.evL x)
  | .block id a => blockN id (rc a fr m)
  | .loop a => thenN rc (.loop a) (rc a fr m)
  | .exit id => some (.ext id, fr, m)
  | .ret => some (.ret, fr, m)
  | _ => none

noncomputable def run (C : Cfg) (call : CallT) (yld : YieldT) (drw : DrawT) (n : Nat) : RunT :=
  Nat.rec (motive := fun _ => RunT) (fun _ _ _ => none) (fun _ ih c fr m => runStep C call yld drw ih fr m c) n

noncomputable def putArgs : List SV → Nat → Tr SV → Tr SV
  | [], _, t => t
  | s :: l, k, t => putArgs l (k + 1) (t.put k (some s))

noncomputable def resOne (C : Cfg) (fr : Frm) (m : Mem) : ResultVar → Option SV
  | .tmp t => fr.tr.get t
  | .cell a t => match fr.tr.get a with
    | some (.one (.ptr id off)) => loadAtS C m t id off
    | _ => none

noncomputable def resultsS (C : Cfg) (fr : Frm) (m : Mem) : List ResultVar → Option SV
  | [] => some (.tup [])
  | [r] => resOne C fr m r
  | [r, q] => match resOne C fr m r, resOne C fr m q with
    | some (.one a), some (.one b) => some (.tup [a, b])
    | _, _ => none
  | _ => none

noncomputable def maxFuel : Nat := 100000

noncomputable def endF (C : Cfg) (rs : List ResultVar) : Option (Out × Frm × Mem) → Option (SV × Mem)
  | some (.nrm, fr, m') => (resultsS C fr m' rs).map (·, m')
  | some (.ret, fr, m') => (resultsS C fr m' rs).map (·, m')
  | _ => none

noncomputable def bodyF (C : Cfg) (call : CallT) (yld : YieldT) (drw : DrawT) (fn : Func) (args : List SV) (m : Mem) : Option Code → Option (SV × Mem)
  | none => none
  | some c => endF C fn.results.toList (run C call yld drw maxFuel c { N := args.length + (fn.ntmps - args.length), tr := putArgs args 0 .nil } m)

noncomputable def funF (C : Cfg) (call : CallT) (yld : YieldT) (drw : DrawT) (args : List SV) (m : Mem) : Option Func → Option (SV × Mem)
  | none => none
  | some fn => bodyF C call yld drw fn args m fn.body

noncomputable def orF (b : Unit → Option (SV × Mem)) : Option (SV × Mem) → Option (SV × Mem)
  | some r => some r
  | none => b ()

/-- A call of a function with a body, d calls deep; what 'sum' tells is taken as it tells it. -/
noncomputable def callF (C : Cfg) (sum : CallT) (yld : YieldT) (drw : CallT → DrawT) (d : Nat) : CallT :=
  Nat.rec (motive := fun _ => CallT) (fun _ _ _ => none) (fun _ ih f args m => orF (fun _ => funF C ih yld (drw ih) args m (C.FT f)) (sum f args m)) d

end Go.Proofs.YtnkdpcalgllnbaaDoor.Sy
