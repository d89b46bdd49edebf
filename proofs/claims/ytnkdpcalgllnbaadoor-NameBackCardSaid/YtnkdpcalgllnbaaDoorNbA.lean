/-
  Names and texts told outright in further runs; what the examples say; NameKnown.
-/
import Derived.Test.YtnkdpcalgllnbaaDoorNaY
namespace Go.Proofs.YtnkdpcalgllnbaaDoor.Nb
open Go Go.RowKit Go.Proofs.YtnkdpcalgllnbaaDoor Go.Proofs.YtnkdpcalgllnbaaDoor.Sy Go.Proofs.YtnkdpcalgllnbaaDoor.Na Go.Proofs.YtnkdpcalgllnbaaDoor.Nc Go.Proofs.YtnkdpcalgllnbaaDoor.Np Go.Proofs.YtnkdpcalgllnbaaDoor.Nr

noncomputable def litS (s : ByteArray) : SV := .one (.lit (.string s))
noncomputable def litI (n : Nat) : At := .lit (.int .i64 (Int.ofNat n))
noncomputable def pairS (s : ByteArray) : SV := .tup [litI (parN s), .lit (.bool (parB s))]
noncomputable def isName (f : Nat) : Bool := Nat.beq f 15 || Nat.beq f 16
noncomputable def isParse (f : Nat) : Bool := Nat.beq f 7 || Nat.beq f 8
/-- Names of numbers, texts parsed: both the program's and the document's. -/
noncomputable def sumL : CallT := fun f args m =>
  if isName f then (match args with
    | [.one (.lit (.int .i64 (.ofNat n)))] => some (litS (nameOf (Int.ofNat n)), m)
    | _ => none) else
  if isParse f then (match args with
    | [.one (.lit (.string s))] => some (pairS s, m)
    | _ => none) else none

theorem name_any {f : FuncId} (h : isName f = true) (op : Int) (w : World) : Calls Tryd.prog f #[.int .i64 op] w fun e w' => e = .returned (.string (nameOf op)) ∧ Below w.heap.size w w' := by
  unfold isName at h
  rw [Bool.or_eq_true] at h
  rcases h with h | h
  · have e := Nat.eq_of_beq_eq_true h
    subst e
    exact name15 op w
  · have e := Nat.eq_of_beq_eq_true h
    subst e
    exact ref16 op w
theorem parse_all {f : FuncId} (h : isParse f = true) (s : ByteArray) (w : World) : Calls Tryd.prog f #[.string s] w fun e w' => e = .returned (.tuple #[.int .i64 (parN s : Int), .bool (parB s)]) ∧ Below w.heap.size w w' := by
  unfold isParse at h
  rw [Bool.or_eq_true] at h
  rcases h with h | h
  · have e := Nat.eq_of_beq_eq_true h
    subst e
    exact parse7 s w
  · have e := Nat.eq_of_beq_eq_true h
    subst e
    exact ref8 s w
theorem enter_name {f : FuncId} (h : isName f = true) : ∀ xs w, (callFunc f xs).run Tryd.prog w = .ok (.enter f xs) w := by
  unfold isName at h
  rw [Bool.or_eq_true] at h
  rcases h with h | h
  · have e := Nat.eq_of_beq_eq_true h
    subst e
    exact Tryd.call15
  · have e := Nat.eq_of_beq_eq_true h
    subst e
    exact Tryd.call16
theorem enter_parse {f : FuncId} (h : isParse f = true) : ∀ xs w, (callFunc f xs).run Tryd.prog w = .ok (.enter f xs) w := by
  unfold isParse at h
  rw [Bool.or_eq_true] at h
  rcases h with h | h
  · have e := Nat.eq_of_beq_eq_true h
    subst e
    exact Tryd.call7
  · have e := Nat.eq_of_beq_eq_true h
    subst e
    exact Tryd.call8

theorem sumL_ok (X : Ctx) (hP : X.C.P = Tryd.prog) : CallOK X sumL := by
  intro f args m r m' h
  unfold sumL at h
  by_cases e : isName f = true
  · rw [if_pos e] at h
    split at h
    case h_2 => cases h
    rename_i n
    cases h
    refine ⟨by rw [hP]; exact enter_name e, fun D V w _ hm _ _ => ?_⟩
    rw [hP]
    exact give_val hm rfl trivial (name_any e (Int.ofNat n) w)
  · rw [if_neg e] at h
    by_cases e2 : isParse f = true
    · rw [if_pos e2] at h
      split at h
      case h_2 => cases h
      rename_i s
      cases h
      refine ⟨by rw [hP]; exact enter_parse e2, fun D V w _ hm _ _ => ?_⟩
      rw [hP]
      refine give_val hm rfl ?_ (parse_all e2 s w)
      intro a ha
      rw [List.mem_cons, List.mem_singleton] at ha
      rcases ha with rfl | rfl <;> trivial
    · rw [if_neg e2] at h
      cases h

noncomputable def isTrue : Option (SV × Mem) → Bool
  | some (.one (.lit (.bool true)), _) => true
  | _ => false
def BoolP (w : World) (r : Bool) (e : Ending) (w' : World) : Prop := e = .returned (.bool r) ∧ Below w.heap.size w w'
/-- A run that ends in true. -/
theorem true_of_run {X : Ctx} {call : CallT} (hC : CallOK X call) {f : FuncId} {args : List SV} (h : isTrue (call f args Mem.empty) = true) (hl : ∀ D V w, X.LI D V w) (hargs : ∀ s ∈ args, s.on fun _ => False) (w : World) {vs : Array Value}
    (hvs : ∀ V : Va, V.sym = X.S → (args.map (SV.val V)).toArray = vs) : Calls X.C.P f vs w (BoolP w true) := by
  unfold isTrue at h
  split at h
  case h_2 => cases h
  rename_i m' hr
  exact call_lit hC hr hl hargs w hvs rfl

noncomputable def callL : CallT := callS sumL
theorem callL_ok {S : Nat → Value} {lp : Nat} {LI : (Nat → Prop) → Va → World → Prop} (hS : ∀ k, (S k).oneCell' = true) (hL : LIok LI) : CallOK (ctx S lp LI) callL := callS_ok hS hL (sumL_ok _ rfl)
theorem awake_run : isTrue (callL 17 [] Mem.empty) = true := by kernel_rfl
theorem awake17 (w : World) : Calls Tryd.prog 17 #[] w (BoolP w true) :=
  true_of_run (X := ctx Nc.S0 0 T3) (callL_ok (fun _ => rfl) liT) awake_run (fun _ _ _ => trivial) (fun _ h => by cases h) w (fun _ _ => rfl)
theorem known_run : isTrue (callL 4 [] Mem.empty) = true := by kernel_rfl
theorem known_law (w : World) : Calls Tryd.prog 4 #[] w (BoolP w true) :=
  true_of_run (X := ctx Nc.S0 0 T3) (callL_ok (fun _ => rfl) liT) known_run (fun _ _ _ => trivial) (fun _ h => by cases h) w (fun _ _ => rfl)
end Go.Proofs.YtnkdpcalgllnbaaDoor.Nb
