/-
  cond.Parse of each name of a condition, by its runs; told outright in further runs.
-/
import Derived.Test.YtnkdpcalgllnbaaCoC
namespace Go.Proofs.Ytnkdpcalgllnbaa.Co
open Go Go.RowKit Go.Proofs.Ytnkdpcalgllnbaa.Sy

def ValP (w : World) (v : Value) (e : Ending) (w' : World) : Prop := e = .returned v ∧ Below w.heap.size w w'

/-- A closed run's answer. -/
theorem val_of_run {X : Ctx} {call : CallT} (hC : CallOK X call) {f : FuncId} {args : List SV} {r : SV} {m' : Mem} {v : Value} (h : call f args Mem.empty = some (r, m')) (hv : r.lit? = some v) (hl : ∀ D V w, X.LI D V w) (hargs : ∀ s ∈ args, s.on fun _ => False) (w : World) {vs : Array Value}
    (hvs : ∀ V : Va, V.sym = X.S → (args.map (SV.val V)).toArray = vs) : Calls X.C.P f vs w (ValP w v) := by
  obtain ⟨_, h2⟩ := hC f args Mem.empty r m' h
  have h3 := h2 (fun _ => False) { blk := fun _ => 0, cap := fun _ => 0, sym := X.S, lp := X.lp } w ⟨rfl, rfl⟩ (relM_empty _ _) (hl _ _ w) hargs
  rw [hvs _ rfl] at h3
  refine h3.mono ?_
  rintro e w' ⟨V', rfl, h4, h5, _⟩
  exact ⟨by rw [lit?_val V' r v hv], below_of_step h4 h5⟩

/-- Two texts. -/
noncomputable def sameL : List UInt8 → List UInt8 → Bool
  | [], [] => true
  | a :: l, b :: k => Nat.beq a.toNat b.toNat && sameL l k
  | _, _ => false
theorem sameL_eq : ∀ {l k : List UInt8}, sameL l k = true → l = k
  | [], [], _ => rfl
  | a :: l, b :: k, h => by
    simp only [sameL, Bool.and_eq_true] at h
    rw [UInt8.toNat_inj.1 (Nat.eq_of_beq_eq_true h.1), sameL_eq h.2]
  | [], _ :: _, h => by cases h
  | _ :: _, [], h => by cases h
noncomputable def sameT (s t : ByteArray) : Bool := sameL s.data.toList t.data.toList
theorem sameT_eq {s t : ByteArray} (h : sameT s t = true) : s = t := by
  cases s
  cases t
  have := sameL_eq h
  simp at this
  rw [this]

/-- The names, with their numbers. -/
noncomputable def wordsL : List (ByteArray × Nat) := [(⟨#[111]⟩, 0), (⟨#[110, 111]⟩, 1), (⟨#[98]⟩, 2), (⟨#[99]⟩, 2), (⟨#[110, 97, 101]⟩, 2), (⟨#[97, 101]⟩, 3), (⟨#[110, 98]⟩, 3), (⟨#[110, 99]⟩, 3), (⟨#[101]⟩, 4), (⟨#[122]⟩, 4), (⟨#[110, 101]⟩, 5), (⟨#[110, 122]⟩, 5),
  (⟨#[98, 101]⟩, 6), (⟨#[110, 97]⟩, 6), (⟨#[97]⟩, 7), (⟨#[110, 98, 101]⟩, 7), (⟨#[115]⟩, 8), (⟨#[110, 115]⟩, 9), (⟨#[112]⟩, 10), (⟨#[112, 101]⟩, 10), (⟨#[110, 112]⟩, 11), (⟨#[112, 111]⟩, 11), (⟨#[108]⟩, 12), (⟨#[110, 103, 101]⟩, 12), (⟨#[103, 101]⟩, 13), (⟨#[110, 108]⟩, 13),
  (⟨#[108, 101]⟩, 14), (⟨#[110, 103]⟩, 14), (⟨#[103]⟩, 15), (⟨#[110, 108, 101]⟩, 15)]

noncomputable def isPair (k : Nat) : Option (SV × Mem) → Bool
  | some (.tup [.lit (.int .i64 (.ofNat p)), .lit (.bool true)], _) => Nat.beq p k
  | _ => false
noncomputable def txt (s : ByteArray) : SV := .one (.lit (.string s))
theorem words_run : (wordsL.all fun p => isPair p.2 (call0 15 [txt p.1] Mem.empty)) = true := by kernel_rfl

theorem pair_of_run {call : CallT} {X : Ctx} (hC : CallOK X call) {f : FuncId} {args : List SV} {k : Nat} (h : isPair k (call f args Mem.empty) = true) (hl : ∀ D V w, X.LI D V w) (hargs : ∀ s ∈ args, s.on fun _ => False) (w : World) {vs : Array Value}
    (hvs : ∀ V : Va, V.sym = X.S → (args.map (SV.val V)).toArray = vs) : Calls X.C.P f vs w (ValP w (.tuple #[.int .i64 (k : Int), .bool true])) := by
  unfold isPair at h
  split at h
  case h_2 => cases h
  rename_i p m' hr
  obtain rfl := Nat.eq_of_beq_eq_true h
  exact val_of_run hC hr rfl hl hargs w hvs

theorem parse_word (w : World) {p : ByteArray × Nat} (hp : p ∈ wordsL) : Calls Try.prog 15 #[.string p.1] w (ValP w (.tuple #[.int .i64 (p.2 : Int), .bool true])) := by
  have h : isPair p.2 (call0 15 [txt p.1] Mem.empty) = true := List.all_eq_true.1 words_run p hp
  refine pair_of_run (X := ctx S0 0 fun _ _ _ => True) (call := call0) (f := 15) (args := [txt p.1]) (k := p.2) (call0_ok (fun _ => rfl) li_true) h (fun _ _ _ => trivial) ?_ w ?_
  · intro s hs
    rw [List.mem_singleton] at hs
    subst hs
    trivial
  · intro V _
    rfl

noncomputable def findT (s : ByteArray) : List (ByteArray × Nat) → Option Nat
  | [] => none
  | p :: l => if sameT s p.1 then some p.2 else findT s l
theorem findT_some {s : ByteArray} : ∀ {l : List (ByteArray × Nat)} {k : Nat}, findT s l = some k → (s, k) ∈ l
  | [], k, h => by cases h
  | p :: l, k, h => by
    unfold findT at h
    split at h
    · rename_i hs
      cases h
      rw [sameT_eq hs]
      exact List.mem_cons_self ..
    · exact List.mem_cons_of_mem _ (findT_some h)

noncomputable def parseS (args : List SV) (m : Mem) : Option (SV × Mem) :=
  match args with
  | [.one (.lit (.string s))] => (findT s wordsL).map fun k => (.tup [.lit (.int .i64 (.ofNat k)), .lit (.bool true)], m)
  | _ => none
noncomputable def sumP : CallT := fun f args m => if Nat.beq f 15 then parseS args m else sumAw f args m

theorem parseS_some {args : List SV} {m : Mem} {r : SV} {m' : Mem} (h : parseS args m = some (r, m')) : ∃ s k, args = [.one (.lit (.string s))] ∧ findT s wordsL = some k ∧ r = .tup [.lit (.int .i64 (.ofNat k)), .lit (.bool true)] ∧ m' = m := by
  unfold parseS at h
  split at h
  case h_2 => cases h
  rename_i s
  generalize hk : findT s wordsL = o at h
  cases o with
  | none => cases h
  | some k =>
    simp only [Option.map_some, Option.some.injEq, Prod.mk.injEq] at h
    exact ⟨s, k, rfl, hk, h.1.symm, h.2.symm⟩

theorem parse_ok (X : Ctx) (hP : X.C.P = Try.prog) (s : ByteArray) (k : Nat) (hp : (s, k) ∈ wordsL) (m : Mem) : (∀ xs w, (callFunc 15 xs).run X.C.P w = .ok (.enter 15 xs) w) ∧
    ∀ (D : Nat → Prop) (V : Va) (w : World), RelM D V m w → Calls X.C.P 15 #[.string s] w (Gives D V w m (.tup [.lit (.int .i64 (.ofNat k)), .lit (.bool true)]) m) := by
  rw [hP]
  refine ⟨fun xs w => Try.call15 xs w, fun D V w hm => ?_⟩
  have hw := parse_word w hp
  clear hp hP
  refine Calls.mono (h := hw) ?_
  rintro e w' ⟨rfl, hb⟩
  obtain ⟨h1, h2⟩ := gives_of_below hm hb
  refine ⟨V, rfl, h1, h2, fun a ha => ?_⟩
  rw [List.mem_cons, List.mem_singleton] at ha
  rcases ha with rfl | rfl <;> trivial
theorem sumP_ok (X : Ctx) (hP : X.C.P = Try.prog) : CallOK X sumP := by
  intro f args m r m' h
  unfold sumP at h
  by_cases e : Nat.beq f 15 = true
  · rw [if_pos e] at h
    have e' := Nat.eq_of_beq_eq_true e
    clear e
    subst e'
    obtain ⟨s, k, rfl, hk, rfl, rfl⟩ := parseS_some h
    have hp := parse_ok X hP s k (findT_some hk) m'
    clear h hk
    exact ⟨hp.1, fun D V w _ hm _ _ => hp.2 D V w hm⟩
  · rw [if_neg e] at h
    exact sumAw_ok X hP f args m r m' h
end Go.Proofs.Ytnkdpcalgllnbaa.Co
