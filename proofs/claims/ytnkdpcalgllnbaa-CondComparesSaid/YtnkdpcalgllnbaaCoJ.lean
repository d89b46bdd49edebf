/-
  Any text, parsed: by the program and by the document's answer. (A text that is no name is a letter.)
-/
import Derived.Test.YtnkdpcalgllnbaaCoF
namespace Go.Proofs.Ytnkdpcalgllnbaa.Co
open Go Go.RowKit Go.Proofs.Ytnkdpcalgllnbaa.Sy

noncomputable def isWord (t : ByteArray) : Bool := (findT t wordsL).isSome
noncomputable def noWord (t : ByteArray) : Option SV := if isWord t then some (.one (.lit (.bool false))) else none
noncomputable def oraS (op : Op) (ev : Operand → Option SV) : Option SV :=
  match op with
  | .binOp .eql _ x y _ => match ev x, ev y with
    | some (.one (.sym 7)), some (.one (.lit (.string t))) => noWord t
    | some (.one (.lit (.string t))), some (.one (.sym 7)) => noWord t
    | _, _ => none
  | _ => none

theorem noWord_some {t s : ByteArray} {r : SV} (h : noWord t = some r) (hs : findT s wordsL = none) : r = .one (.lit (.bool false)) ∧ ¬ s = t := by
  unfold noWord at h
  split at h
  case isFalse => cases h
  rename_i hw
  cases h
  refine ⟨rfl, ?_⟩
  rintro rfl
  simp [isWord, hs] at hw

theorem list_inj {a b : ByteArray} (h : a.toList = b.toList) : a = b := by
  rw [ByteArray.toList_eq, ByteArray.toList_eq] at h
  cases a
  cases b
  simpa using h

theorem oraS_ok {P : Program} {S : Nat → Value} {s0 : ByteArray} (hS : S 7 = .string s0) (hn : findT s0 wordsL = none) : ∀ op ev s, oraS op ev = some s → ∀ o : Oper, o.op = op → ∀ V : Va, V.sym = S → ∀ ρ : Operand → Value, (∀ x t, ev x = some t → ρ x = t.val V) → (∀ w, (execOp ρ o).run P w = .ok (.value (s.val V)) w) ∧ s.on fun _ => False := by
  intro op ev s h o ho V hV ρ hρ
  unfold oraS at h
  split at h
  case h_2 => cases h
  rename_i t x y t'
  split at h
  case h_3 => cases h
  · rename_i u hx hy
    obtain ⟨rfl, hne⟩ := noWord_some h hn
    have h1 : ρ x = .string s0 := by rw [hρ x _ hx, SV.val, At.val, hV, hS]
    have h2 : ρ y = .string u := hρ y _ hy
    refine ⟨fun w => ?_, trivial⟩
    have hb : ¬ s0.toList = u.toList := fun e => hne (list_inj e)
    unfold execOp
    simp only [ho, h1, h2]
    simp [eqGuard, binOp, Op.stringOp, SV.val, At.val, hb]
  · rename_i u hx hy
    obtain ⟨rfl, hne⟩ := noWord_some h hn
    have h1 : ρ y = .string s0 := by rw [hρ y _ hy, SV.val, At.val, hV, hS]
    have h2 : ρ x = .string u := hρ x _ hx
    refine ⟨fun w => ?_, trivial⟩
    have hne' : ¬ u = s0 := fun e => hne e.symm
    have hb : ¬ u.toList = s0.toList := fun e => hne' (list_inj e)
    unfold execOp
    simp only [ho, h1, h2]
    simp [eqGuard, binOp, Op.stringOp, SV.val, At.val, hb]

noncomputable def Cs : Cfg := { P := Try.prog, FT := ftOf, neq := fun _ _ => false, ora := oraS }
noncomputable def callP : CallT := callF Cs noSum noYld (fun call => drawRun Cs call noYld) 12
noncomputable def ctxP (S : Nat → Value) : Ctx := { C := Cs, S := S, lp := 0, LI := fun _ _ _ => True }
noncomputable def Ss (s : ByteArray) : Nat → Value := fun k => if Nat.beq k 7 then .string s else .bool false
theorem Ss_one (s : ByteArray) : ∀ k, (Ss s k).oneCell' = true := fun k => by unfold Ss; split <;> rfl
theorem ctxP_ok {s : ByteArray} (hn : findT s wordsL = none) : XOK (ctxP (Ss s)) :=
  ⟨Ss_one s, (fun k a h => by cases h), oraS_ok rfl hn, fun _ _ _ _ _ _ _ _ _ _ => trivial⟩
theorem callP_ok {s : ByteArray} (hn : findT s wordsL = none) : CallOK (ctxP (Ss s)) callP :=
  callF_sound (X := ctxP (Ss s)) (ctxP_ok hn) (noSum_ok _) (noYld_ok _) (drawRun_ok (X := ctxP (Ss s)) (ctxP_ok hn) (noYld_ok _) follows_mixed) ftOf_ok 12

noncomputable def isNone : Option (SV × Mem) → Bool
  | some (.tup [.lit (.int .i64 (.ofNat p)), .lit (.bool false)], _) => Nat.beq p 0
  | _ => false
theorem none15 : isNone (callP 15 [.one (.sym 7)] Mem.empty) = true := by kernel_rfl
theorem none16 : isNone (callP 16 [.one (.sym 7)] Mem.empty) = true := by kernel_rfl
theorem words_ref : (wordsL.all fun p => isPair p.2 (call0 16 [txt p.1] Mem.empty)) = true := by kernel_rfl

theorem none_use {f : FuncId} (h : isNone (callP f [.one (.sym 7)] Mem.empty) = true) {s : ByteArray} (hn : findT s wordsL = none) (w : World) : Calls Try.prog f #[.string s] w (ValP w (.tuple #[.int .i64 0, .bool false])) := by
  unfold isNone at h
  split at h
  case h_2 => cases h
  rename_i p m' hr
  obtain rfl := Nat.eq_of_beq_eq_true h
  refine val_of_run (X := ctxP (Ss s)) (callP_ok hn) hr rfl (fun _ _ _ => trivial) ?_ w ?_
  · intro t ht
    rw [List.mem_singleton] at ht
    subst ht
    trivial
  · intro V hV
    simp only [List.map_cons, List.map_nil, SV.val, At.val, hV]
    rfl

noncomputable def paN (s : ByteArray) : Nat := (findT s wordsL).getD 0
noncomputable def paB (s : ByteArray) : Bool := (findT s wordsL).isSome

theorem parse_some {f : FuncId} (h : (wordsL.all fun p => isPair p.2 (call0 f [txt p.1] Mem.empty)) = true) {p : ByteArray × Nat} (hp : p ∈ wordsL) (w : World) : Calls Try.prog f #[.string p.1] w (ValP w (.tuple #[.int .i64 (p.2 : Int), .bool true])) := by
  refine pair_of_run (X := ctx S0 0 fun _ _ _ => True) (call := call0) (f := f) (args := [txt p.1]) (k := p.2) (call0_ok (fun _ => rfl) li_true) (List.all_eq_true.1 h p hp) (fun _ _ _ => trivial) ?_ w ?_
  · intro s hs
    rw [List.mem_singleton] at hs
    subst hs
    trivial
  · intro V _
    rfl
theorem parse_any {f : FuncId} (h : (wordsL.all fun p => isPair p.2 (call0 f [txt p.1] Mem.empty)) = true) (h0 : isNone (callP f [.one (.sym 7)] Mem.empty) = true) (s : ByteArray) (w : World) :
    Calls Try.prog f #[.string s] w (ValP w (.tuple #[.int .i64 (paN s : Int), .bool (paB s)])) := by
  cases hf : findT s wordsL with
  | none =>
    have := none_use h0 hf w
    rw [show paN s = 0 by rw [paN, hf]; rfl, show paB s = false by rw [paB, hf]; rfl]
    exact this
  | some k =>
    have := parse_some h (findT_some hf) w
    rw [show paN s = k by rw [paN, hf]; rfl, show paB s = true by rw [paB, hf]; rfl]
    exact this
theorem parse15 (s : ByteArray) (w : World) : Calls Try.prog 15 #[.string s] w (ValP w (.tuple #[.int .i64 (paN s : Int), .bool (paB s)])) := parse_any words_run none15 s w
theorem parse16 (s : ByteArray) (w : World) : Calls Try.prog 16 #[.string s] w (ValP w (.tuple #[.int .i64 (paN s : Int), .bool (paB s)])) := parse_any words_ref none16 s w
end Go.Proofs.Ytnkdpcalgllnbaa.Co
