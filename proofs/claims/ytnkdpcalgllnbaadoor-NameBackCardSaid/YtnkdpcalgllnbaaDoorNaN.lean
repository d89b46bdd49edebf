/-
  name.Name: what it tells of any number.
-/
import Derived.Test.YtnkdpcalgllnbaaDoorNaS
namespace Go.Proofs.YtnkdpcalgllnbaaDoor.Na
open Go Go.RowKit Go.Shelf Go.Proofs.YtnkdpcalgllnbaaDoor Go.Proofs.YtnkdpcalgllnbaaDoor.Sy

noncomputable def S15 (op : Int) : Nat → Value := fun j => if Nat.beq j 0 then .int .i64 op else .bool false
theorem S15_one (op : Int) : ∀ k, (S15 op k).oneCell' = true := fun k => by unfold S15; split <;> rfl
noncomputable def pre15 : Option (Frm × Mem) := preRun C0 call0 (pA 15) (pB 15) (pE 15) { N := 1 + (Tryd.f15.ntmps - 1), tr := putArgs [.one (.sym 0)] 0 .nil } Mem.empty
noncomputable def fr15 : Frm := fmFr pre15
noncomputable def m15 : Mem := fmMem pre15
noncomputable def allB : ByteArray := strAt m15 3
noncomputable def wordsA : List (List UInt8) := splitL allB.data.toList

/-- The letters' oracle in a round. -/
noncomputable def nBin (b : Bool) : BinOp → Option SV → Option SV → Option SV
  | .add, some (.one (.sym 20)), some (.one (.lit (.int .i64 (.ofNat d)))) => if Nat.beq d 1 then some (.one (.sym 21)) else none
  | .eql, some (.one (.sym 21)), some (.one (.sym 0)) => some (.one (.lit (.bool b)))
  | _, _, _ => none
noncomputable def oraR (b : Bool) (op : Op) (ev : Operand → Option SV) : Option SV :=
  match op with
  | .binOp bo _ x y _ => nBin b bo (ev x) (ev y)
  | _ => none
noncomputable def Cr (b : Bool) : Cfg := { P := Tryd.prog, FT := ftOf, neq := fun _ _ => false, ora := oraR b }

theorem code15 : Tryd.f15.body = some (.seq (pA 15) (.seq (pB 15) (.seq (.seq (pE 15) (.block 0 (.rangeFunc (.tmp 5) #[6] (rfA (pL 15)) (rfB (pL 15))))) (pRest 15)))) := by kernel_rfl
theorem hpre15 : pre15 = some (fr15, m15) := by kernel_rfl
theorem len15 : Nat.ble allB.data.toList.length 1000000 = true := by kernel_rfl
theorem wlen : wordsA.length = 322 := by kernel_rfl

noncomputable def memOf : Option Mem → Mem
  | some m => m
  | none => Mem.empty
noncomputable def svOf : Option SV → SV
  | some s => s
  | none => .tup []
noncomputable def rd15 (b : Bool) : Option (Out × Frm × Mem) := roundR (Cr b) fr15 [6] (rfA (pL 15)) (rfB (pL 15)) [.one (.sym 7)] (loopMem m15 3 2)
noncomputable def MN15 : Mem := memOf (nrmMem (rd15 false))
noncomputable def MR15 : Mem := memOf (retMem (rd15 true))
theorem hN15 : nrmMem (rd15 false) = some MN15 := by kernel_rfl
theorem hR15 : retMem (rd15 true) = some MR15 := by kernel_rfl
theorem hNa15 : MN15.H = (loopMem m15 3 2).H.put 2 (some (bx 3 (.sym 21))) := by kernel_rfl
theorem hNg15 : MN15.H.get 2 = some (bx 3 (.sym 21)) := by kernel_rfl
theorem hNm15 : modsOk m15 MN15.mods 3 4 5 = true := by kernel_rfl
theorem hRm15 : modsOk m15 MR15.mods 3 4 5 = true := by kernel_rfl
theorem hRs15 : resultsS (Cr true) fr15 MR15 Tryd.f15.results.toList = some (.one (.sym 7)) := by kernel_rfl
noncomputable def end15 : Option (SV × Mem) := endF C0 Tryd.f15.results.toList (run C0 noC noY noD maxFuel (pRest 15) fr15 (loopMem m15 3 2))
noncomputable def sMem : Option (SV × Mem) → Mem
  | some (_, m) => m
  | none => Mem.empty
theorem hE15 : end15 = some (.one (.lit (.string ⟨#[]⟩)), sMem end15) := by kernel_rfl

theorem oraR_ok {S0 : Nat → Value} {ws : List (List UInt8)} {k : Nat} {b : Bool} {op : Int} (hk : k ≤ 1000) (h0 : S0 0 = .int .i64 op) (hb : b = (((k + 1 : Nat) : Int) == op)) :
    ∀ o ev s, oraR b o ev = some s → ∀ o' : Oper, o'.op = o → ∀ V : Va, V.sym = Sw S0 ws k → ∀ ρ : Operand → Value, (∀ x t, ev x = some t → ρ x = t.val V) → (∀ w, (execOp ρ o').run Tryd.prog w = .ok (.value (s.val V)) w) ∧ s.on fun _ => False := by
  intro o ev s h o' ho V hV ρ hρ
  unfold oraR at h
  split at h
  case h_2 => cases h
  rename_i bo t x y t'
  unfold nBin at h
  split at h
  case h_3 => cases h
  · rename_i d hx hy
    split at h
    case isFalse => cases h
    rename_i hd
    have ed := Nat.eq_of_beq_eq_true hd
    subst ed
    cases h
    have g1 : ρ x = .int .i64 (k : Int) := by rw [hρ x _ hx, SV.val, At.val, hV]; rfl
    have g2 : ρ y = .int .i64 1 := hρ y _ hy
    refine ⟨fun w => ?_, trivial⟩
    have e2 : SV.val V (.one (.sym 21)) = .int .i64 ((k + 1 : Nat) : Int) := by simp only [SV.val, At.val, hV]; rfl
    unfold execOp
    simp only [ho, g1, g2, e2]
    simp [eqGuard, binOp, Op.intArith, IntKind.wrap, IntKind.signed, IntKind.bits]
    omega
  · rename_i hx hy
    cases h
    have g1 : ρ x = .int .i64 ((k + 1 : Nat) : Int) := by rw [hρ x _ hx, SV.val, At.val, hV]; rfl
    have g2 : ρ y = .int .i64 op := by rw [hρ y _ hy, SV.val, At.val, hV]; exact h0
    refine ⟨fun w => ?_, trivial⟩
    unfold execOp
    simp only [ho, g1, g2]
    simp [eqGuard, binOp, Op.intCmp, SV.val, At.val, hb]

theorem xokR {S0 : Nat → Value} (hS : ∀ k, (S0 k).oneCell' = true) {ws : List (List UInt8)} {k : Nat} {b : Bool} {op : Int} (hk : k ≤ 1000) (h0 : S0 0 = .int .i64 op) (hb : b = (((k + 1 : Nat) : Int) == op)) : XOK (cx (Cr b) (Sw S0 ws k)) :=
  ⟨Sw_one hS ws k, (fun k a h => by cases h), oraR_ok hk h0 hb, fun _ _ _ _ _ _ _ _ _ _ => trivial⟩
theorem liT : LIok T3 := ⟨fun _ _ _ _ _ _ _ _ _ _ => trivial⟩

def ValP (w : World) (v : Value) (e : Ending) (w' : World) : Prop := e = .returned v ∧ Below w.heap.size w w'
/-- A number's name. -/
noncomputable def nameOf (op : Int) : ByteArray := if 1 ≤ op ∧ op ≤ 322 then ⟨(wordsA.getD (op.toNat - 1) []).toArray⟩ else ⟨#[]⟩

set_option maxRecDepth 100000 in
theorem name15 (op : Int) (w : World) : Calls Tryd.prog 15 #[.int .i64 op] w (ValP w (.string (nameOf op))) := by
  have h := words_range (P := Tryd.prog) (f := 15) (fn := Tryd.f15) (gf := 35) Tryd.func15 code15 (S := S15 op) (Cp := C0) (Ce := C0) (Cb := Cr) rfl rfl (fun _ => rfl) (callp := call0) (calle := noC) (ws := wordsA) (hit := fun k => (((k + 1 : Nat) : Int) == op))
    (ctx_ok (S15_one op) liT) (call0_ok (S15_one op) liT) (fun k hk => xokR (S15_one op) (by rw [wlen] at hk; omega) rfl rfl) (ctx_ok (Sw_one (S15_one op) _ _) liT) (fun _ _ _ _ _ h => by cases h)
    (args := [.one (.sym 0)]) (fr3 := fr15) (m3 := m15) (by intro s hs; rw [List.mem_singleton.1 hs]; trivial) hpre15 (sid := 3) (pid := 4) (vid := 5) (aid := 2) (s0 := allB) (by kernel_rfl) (by kernel_rfl) (by kernel_rfl) (by kernel_rfl) (by kernel_rfl) (by decide) (by kernel_rfl) (by kernel_rfl)
    hN15 hNa15 hNg15 hNm15 hR15 hRm15 hRs15 rfl hE15 rfl (iter_all allB (Nat.le_of_ble_eq_true len15)) Tryd.call35 w
  have ha : (([SV.one (At.sym 0)]).map (SV.val (V0 (S15 op)))).toArray = #[.int .i64 op] := rfl
  rw [ha] at h
  refine Calls.mono (h := h) ?_
  rintro e w' ⟨hB, ⟨k, k1, k2, k3, rfl⟩ | ⟨k3, rfl⟩⟩
  · refine ⟨?_, hB⟩
    have hk : ((k + 1 : Nat) : Int) = op := by simpa using k2
    rw [wlen] at k1
    have e1 : nameOf op = ⟨(wordsA.getD k []).toArray⟩ := by
      unfold nameOf
      rw [if_pos (by omega), show op.toNat - 1 = k by omega]
    rw [e1]
    rfl
  · refine ⟨?_, hB⟩
    have e1 : nameOf op = ⟨#[]⟩ := by
      unfold nameOf
      rw [if_neg]
      rintro ⟨h1, h2⟩
      have := k3 (op.toNat - 1) (by rw [wlen]; omega)
      simp at this
      omega
    rw [e1]
    rfl
end Go.Proofs.YtnkdpcalgllnbaaDoor.Na
