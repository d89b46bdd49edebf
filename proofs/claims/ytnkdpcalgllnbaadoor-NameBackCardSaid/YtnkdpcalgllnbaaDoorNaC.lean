/-
  cond.Parse, and the document's, of any text, in this seat's program. (A text that is no name is a letter.)
-/
import Derived.Test.YtnkdpcalgllnbaaDoorNaN
namespace Go.Proofs.YtnkdpcalgllnbaaDoor.Nc
open Go Go.RowKit Go.Proofs.YtnkdpcalgllnbaaDoor.Sy Go.Proofs.YtnkdpcalgllnbaaDoor.Na

/-- What a call that touches no elder block is good for in the run. -/
theorem gives_of_below {D : Nat → Prop} {V : Va} {w w' : World} {m : Mem} (hm : RelM D V m w) (hb : Below w.heap.size w w') : StepM D V w m V w' m ∧ RelM (Dn D m.nxt m.nxt) V m w' := by
  refine ⟨⟨Nat.le_refl _, .refl _ _, fun _ h => h, hb.os, hb.tape, hb.output, ⟨hb.size, fun k o hk _ => ?_⟩, fun b hlt _ => hb.block b hlt, fun i h1 h2 => absurd h2 (by omega)⟩, ?_⟩
  · rw [hb.block k (Array.getElem?_eq_some_iff.1 hk).1]
    exact hk
  · rw [Dn_self]
    refine ⟨hm.dom, fun i o hi => ?_, hm.inj, hm.mlt⟩
    obtain ⟨h1, h2, h3⟩ := hm.ob i o hi
    exact ⟨h1, h2, h3.kept h1 h2 (.refl _ _) (hb.block _ h3.lt)⟩

noncomputable def S0 : Nat → Value := fun _ => .bool false
/-- A closed run's answer. -/
theorem val_of_run {X : Ctx} {call : CallT} (hC : CallOK X call) {f : FuncId} {args : List SV} {r : SV} {m' : Mem} {v : Value} (h : call f args Mem.empty = some (r, m')) (hv : r.lit? = some v) (hl : ∀ D V w, X.LI D V w) (hargs : ∀ s ∈ args, s.on fun _ => False) (w : World) {vs : Array Value}
    (hvs : ∀ V : Va, V.sym = X.S → (args.map (SV.val V)).toArray = vs) : Calls X.C.P f vs w (ValP w v) := by
  obtain ⟨_, h2⟩ := hC f args Mem.empty r m' h
  have h3 := h2 (fun _ => False) { blk := fun _ => 0, cap := fun _ => 0, sym := X.S, lp := X.lp } w ⟨rfl, rfl⟩ (relM_empty _ _) (hl _ _ w) hargs
  rw [hvs _ rfl] at h3
  refine h3.mono ?_
  rintro e w' ⟨V', rfl, h4, h5, _⟩
  exact ⟨by rw [lit?_val V' r v hv], below_of_step h4 h5⟩

/-- Two texts. -/
noncomputable def sameL : List UInt8 → List UInt8 → Bool
  | [], [] => true
  | a :: l, b :: k => Nat.beq a.toNat b.toNat && sameL l k
  | _, _ => false
theorem sameL_eq : ∀ {l k : List UInt8}, sameL l k = true → l = k
  | [], [], _ => rfl
  | a :: l, b :: k, h => by
    simp only [sameL, Bool.and_eq_true] at h
    rw [UInt8.toNat_inj.1 (Nat.eq_of_beq_eq_true h.1), sameL_eq h.2]
  | [], _ :: _, h => by cases h
  | _ :: _, [], h => by cases h
noncomputable def sameT (s t : ByteArray) : Bool := sameL s.data.toList t.data.toList
theorem sameT_eq {s t : ByteArray} (h : sameT s t = true) : s = t := by
  cases s
  cases t
  have := sameL_eq h
  simp at this
  rw [this]

/-- The names, with their numbers. -/
noncomputable def wordsL : List (ByteArray × Nat) := [(⟨#[111]⟩, 0), (⟨#[110, 111]⟩, 1), (⟨#[98]⟩, 2), (⟨#[99]⟩, 2), (⟨#[110, 97, 101]⟩, 2), (⟨#[97, 101]⟩, 3), (⟨#[110, 98]⟩, 3), (⟨#[110, 99]⟩, 3), (⟨#[101]⟩, 4), (⟨#[122]⟩, 4), (⟨#[110, 101]⟩, 5), (⟨#[110, 122]⟩, 5),
  (⟨#[98, 101]⟩, 6), (⟨#[110, 97]⟩, 6), (⟨#[97]⟩, 7), (⟨#[110, 98, 101]⟩, 7), (⟨#[115]⟩, 8), (⟨#[110, 115]⟩, 9), (⟨#[112]⟩, 10), (⟨#[112, 101]⟩, 10), (⟨#[110, 112]⟩, 11), (⟨#[112, 111]⟩, 11), (⟨#[108]⟩, 12), (⟨#[110, 103, 101]⟩, 12), (⟨#[103, 101]⟩, 13), (⟨#[110, 108]⟩, 13),
  (⟨#[108, 101]⟩, 14), (⟨#[110, 103]⟩, 14), (⟨#[103]⟩, 15), (⟨#[110, 108, 101]⟩, 15)]

noncomputable def isPair (k : Nat) : Option (SV × Mem) → Bool
  | some (.tup [.lit (.int .i64 (.ofNat p)), .lit (.bool true)], _) => Nat.beq p k
  | _ => false
noncomputable def txt (s : ByteArray) : SV := .one (.lit (.string s))
theorem words_run : (wordsL.all fun p => isPair p.2 (call0 24 [txt p.1] Mem.empty)) = true := by kernel_rfl

theorem pair_of_run {call : CallT} {X : Ctx} (hC : CallOK X call) {f : FuncId} {args : List SV} {k : Nat} (h : isPair k (call f args Mem.empty) = true) (hl : ∀ D V w, X.LI D V w) (hargs : ∀ s ∈ args, s.on fun _ => False) (w : World) {vs : Array Value}
    (hvs : ∀ V : Va, V.sym = X.S → (args.map (SV.val V)).toArray = vs) : Calls X.C.P f vs w (ValP w (.tuple #[.int .i64 (k : Int), .bool true])) := by
  unfold isPair at h
  split at h
  case h_2 => cases h
  rename_i p m' hr
  obtain rfl := Nat.eq_of_beq_eq_true h
  exact val_of_run hC hr rfl hl hargs w hvs

noncomputable def findT (s : ByteArray) : List (ByteArray × Nat) → Option Nat
  | [] => none
  | p :: l => if sameT s p.1 then some p.2 else findT s l
theorem findT_some {s : ByteArray} : ∀ {l : List (ByteArray × Nat)} {k : Nat}, findT s l = some k → (s, k) ∈ l
  | [], k, h => by cases h
  | p :: l, k, h => by
    unfold findT at h
    split at h
    · rename_i hs
      cases h
      rw [sameT_eq hs]
      exact List.mem_cons_self ..
    · exact List.mem_cons_of_mem _ (findT_some h)

noncomputable def isWord (t : ByteArray) : Bool := (findT t wordsL).isSome
noncomputable def noWord (t : ByteArray) : Option SV := if isWord t then some (.one (.lit (.bool false))) else none
noncomputable def oraS (op : Op) (ev : Operand → Option SV) : Option SV :=
  match op with
  | .binOp .eql _ x y _ => match ev x, ev y with
    | some (.one (.sym 7)), some (.one (.lit (.string t))) => noWord t
    | some (.one (.lit (.string t))), some (.one (.sym 7)) => noWord t
    | _, _ => none
  | _ => none

theorem noWord_some {t s : ByteArray} {r : SV} (h : noWord t = some r) (hs : findT s wordsL = none) : r = .one (.lit (.bool false)) ∧ ¬ s = t := by
  unfold noWord at h
  split at h
  case isFalse => cases h
  rename_i hw
  cases h
  refine ⟨rfl, ?_⟩
  rintro rfl
  simp [isWord, hs] at hw

theorem list_inj {a b : ByteArray} (h : a.toList = b.toList) : a = b := by
  rw [ByteArray.toList_eq, ByteArray.toList_eq] at h
  cases a
  cases b
  simpa using h

theorem oraS_ok {P : Program} {S : Nat → Value} {s0 : ByteArray} (hS : S 7 = .string s0) (hn : findT s0 wordsL = none) : ∀ op ev s, oraS op ev = some s → ∀ o : Oper, o.op = op → ∀ V : Va, V.sym = S → ∀ ρ : Operand → Value, (∀ x t, ev x = some t → ρ x = t.val V) → (∀ w, (execOp ρ o).run P w = .ok (.value (s.val V)) w) ∧ s.on fun _ => False := by
  intro op ev s h o ho V hV ρ hρ
  unfold oraS at h
  split at h
  case h_2 => cases h
  rename_i t x y t'
  split at h
  case h_3 => cases h
  · rename_i u hx hy
    obtain ⟨rfl, hne⟩ := noWord_some h hn
    have h1 : ρ x = .string s0 := by rw [hρ x _ hx, SV.val, At.val, hV, hS]
    have h2 : ρ y = .string u := hρ y _ hy
    refine ⟨fun w => ?_, trivial⟩
    have hb : ¬ s0.toList = u.toList := fun e => hne (list_inj e)
    unfold execOp
    simp only [ho, h1, h2]
    simp [eqGuard, binOp, Op.stringOp, SV.val, At.val, hb]
  · rename_i u hx hy
    obtain ⟨rfl, hne⟩ := noWord_some h hn
    have h1 : ρ y = .string s0 := by rw [hρ y _ hy, SV.val, At.val, hV, hS]
    have h2 : ρ x = .string u := hρ x _ hx
    refine ⟨fun w => ?_, trivial⟩
    have hne' : ¬ u = s0 := fun e => hne e.symm
    have hb : ¬ u.toList = s0.toList := fun e => hne' (list_inj e)
    unfold execOp
    simp only [ho, h1, h2]
    simp [eqGuard, binOp, Op.stringOp, SV.val, At.val, hb]

noncomputable def Cs : Cfg := { P := Tryd.prog, FT := ftOf, neq := fun _ _ => false, ora := oraS }
noncomputable def callP : CallT := callF Cs noSum noYld (fun call => drawRun Cs call noYld) 12
noncomputable def ctxP (S : Nat → Value) : Ctx := { C := Cs, S := S, lp := 0, LI := fun _ _ _ => True }
noncomputable def Ss (s : ByteArray) : Nat → Value := fun k => if Nat.beq k 7 then .string s else .bool false
theorem Ss_one (s : ByteArray) : ∀ k, (Ss s k).oneCell' = true := fun k => by unfold Ss; split <;> rfl
theorem ctxP_ok {s : ByteArray} (hn : findT s wordsL = none) : XOK (ctxP (Ss s)) :=
  ⟨Ss_one s, (fun k a h => by cases h), oraS_ok rfl hn, fun _ _ _ _ _ _ _ _ _ _ => trivial⟩
theorem callP_ok {s : ByteArray} (hn : findT s wordsL = none) : CallOK (ctxP (Ss s)) callP :=
  callF_sound (X := ctxP (Ss s)) (ctxP_ok hn) (noSum_ok _) (noYld_ok _) (drawRun_ok (X := ctxP (Ss s)) (ctxP_ok hn) (noYld_ok _) follows_mixed) ftOf_ok 12

noncomputable def isNone : Option (SV × Mem) → Bool
  | some (.tup [.lit (.int .i64 (.ofNat p)), .lit (.bool false)], _) => Nat.beq p 0
  | _ => false
theorem none24 : isNone (callP 24 [.one (.sym 7)] Mem.empty) = true := by kernel_rfl
theorem none28 : isNone (callP 28 [.one (.sym 7)] Mem.empty) = true := by kernel_rfl
theorem words_ref : (wordsL.all fun p => isPair p.2 (call0 28 [txt p.1] Mem.empty)) = true := by kernel_rfl

theorem none_use {f : FuncId} (h : isNone (callP f [.one (.sym 7)] Mem.empty) = true) {s : ByteArray} (hn : findT s wordsL = none) (w : World) : Calls Tryd.prog f #[.string s] w (ValP w (.tuple #[.int .i64 0, .bool false])) := by
  unfold isNone at h
  split at h
  case h_2 => cases h
  rename_i p m' hr
  obtain rfl := Nat.eq_of_beq_eq_true h
  refine val_of_run (X := ctxP (Ss s)) (callP_ok hn) hr rfl (fun _ _ _ => trivial) ?_ w ?_
  · intro t ht
    rw [List.mem_singleton] at ht
    subst ht
    trivial
  · intro V hV
    simp only [List.map_cons, List.map_nil, SV.val, At.val, hV]
    rfl

noncomputable def paN (s : ByteArray) : Nat := (findT s wordsL).getD 0
noncomputable def paB (s : ByteArray) : Bool := (findT s wordsL).isSome

theorem parse_some {f : FuncId} (h : (wordsL.all fun p => isPair p.2 (call0 f [txt p.1] Mem.empty)) = true) {p : ByteArray × Nat} (hp : p ∈ wordsL) (w : World) : Calls Tryd.prog f #[.string p.1] w (ValP w (.tuple #[.int .i64 (p.2 : Int), .bool true])) := by
  refine pair_of_run (X := ctx S0 0 fun _ _ _ => True) (call := call0) (f := f) (args := [txt p.1]) (k := p.2) (call0_ok (fun _ => rfl) li_true) (List.all_eq_true.1 h p hp) (fun _ _ _ => trivial) ?_ w ?_
  · intro s hs
    rw [List.mem_singleton] at hs
    subst hs
    trivial
  · intro V _
    rfl
theorem parse_any {f : FuncId} (h : (wordsL.all fun p => isPair p.2 (call0 f [txt p.1] Mem.empty)) = true) (h0 : isNone (callP f [.one (.sym 7)] Mem.empty) = true) (s : ByteArray) (w : World) :
    Calls Tryd.prog f #[.string s] w (ValP w (.tuple #[.int .i64 (paN s : Int), .bool (paB s)])) := by
  cases hf : findT s wordsL with
  | none =>
    have := none_use h0 hf w
    rw [show paN s = 0 by rw [paN, hf]; rfl, show paB s = false by rw [paB, hf]; rfl]
    exact this
  | some k =>
    have := parse_some h (findT_some hf) w
    rw [show paN s = k by rw [paN, hf]; rfl, show paB s = true by rw [paB, hf]; rfl]
    exact this
theorem parse24 (s : ByteArray) (w : World) : Calls Tryd.prog 24 #[.string s] w (ValP w (.tuple #[.int .i64 (paN s : Int), .bool (paB s)])) := parse_any words_run none24 s w
theorem parse28 (s : ByteArray) (w : World) : Calls Tryd.prog 28 #[.string s] w (ValP w (.tuple #[.int .i64 (paN s : Int), .bool (paB s)])) := parse_any words_ref none28 s w
end Go.Proofs.YtnkdpcalgllnbaaDoor.Nc
