/-
  CondOne's runs (laid by gen_one.py): for each condition and each value of the flags that it asks; the other flags are letters.
-/
import Derived.Test.YtnkdpcalgllnbaaCoA
namespace Go.Proofs.Ytnkdpcalgllnbaa.Co
open Go Go.RowKit Go.Proofs.Ytnkdpcalgllnbaa.Sy

noncomputable def call1 : CallT := callS sumAw
theorem call1_ok {S : Nat → Value} (hS : ∀ k, (S k).oneCell' = true) : CallOK (ctx S 0 fun _ _ _ => True) call1 := callS_ok hS li_true (sumAw_ok _ rfl)
noncomputable def flc (k : Nat) : Option Bool → At
  | some b => .lit (.bool b)
  | none => .sym k
noncomputable def fl (c z s o p : Option Bool) : List At := [flc 1 c, flc 2 z, flc 3 s, flc 4 o, flc 5 p]
noncomputable def lit (k : Nat) : SV := .one (.lit (.int .i64 (.ofNat k)))
theorem one_0_0 : isTrue (call1 3 [lit 0, .agg (fl none none none (some false) none)] Mem.empty) = true := by kernel_rfl
theorem one_0_1 : isTrue (call1 3 [lit 0, .agg (fl none none none (some true) none)] Mem.empty) = true := by kernel_rfl
theorem one_1_0 : isTrue (call1 3 [lit 1, .agg (fl none none none (some false) none)] Mem.empty) = true := by kernel_rfl
theorem one_1_1 : isTrue (call1 3 [lit 1, .agg (fl none none none (some true) none)] Mem.empty) = true := by kernel_rfl
theorem one_2_0 : isTrue (call1 3 [lit 2, .agg (fl (some false) none none none none)] Mem.empty) = true := by kernel_rfl
theorem one_2_1 : isTrue (call1 3 [lit 2, .agg (fl (some true) none none none none)] Mem.empty) = true := by kernel_rfl
theorem one_3_0 : isTrue (call1 3 [lit 3, .agg (fl (some false) none none none none)] Mem.empty) = true := by kernel_rfl
theorem one_3_1 : isTrue (call1 3 [lit 3, .agg (fl (some true) none none none none)] Mem.empty) = true := by kernel_rfl
theorem one_4_0 : isTrue (call1 3 [lit 4, .agg (fl none (some false) none none none)] Mem.empty) = true := by kernel_rfl
theorem one_4_1 : isTrue (call1 3 [lit 4, .agg (fl none (some true) none none none)] Mem.empty) = true := by kernel_rfl
theorem one_5_0 : isTrue (call1 3 [lit 5, .agg (fl none (some false) none none none)] Mem.empty) = true := by kernel_rfl
theorem one_5_1 : isTrue (call1 3 [lit 5, .agg (fl none (some true) none none none)] Mem.empty) = true := by kernel_rfl
theorem one_6_00 : isTrue (call1 3 [lit 6, .agg (fl (some false) (some false) none none none)] Mem.empty) = true := by kernel_rfl
theorem one_6_01 : isTrue (call1 3 [lit 6, .agg (fl (some true) (some false) none none none)] Mem.empty) = true := by kernel_rfl
theorem one_6_10 : isTrue (call1 3 [lit 6, .agg (fl (some false) (some true) none none none)] Mem.empty) = true := by kernel_rfl
theorem one_6_11 : isTrue (call1 3 [lit 6, .agg (fl (some true) (some true) none none none)] Mem.empty) = true := by kernel_rfl
theorem one_7_00 : isTrue (call1 3 [lit 7, .agg (fl (some false) (some false) none none none)] Mem.empty) = true := by kernel_rfl
theorem one_7_01 : isTrue (call1 3 [lit 7, .agg (fl (some true) (some false) none none none)] Mem.empty) = true := by kernel_rfl
theorem one_7_10 : isTrue (call1 3 [lit 7, .agg (fl (some false) (some true) none none none)] Mem.empty) = true := by kernel_rfl
theorem one_7_11 : isTrue (call1 3 [lit 7, .agg (fl (some true) (some true) none none none)] Mem.empty) = true := by kernel_rfl
theorem one_8_0 : isTrue (call1 3 [lit 8, .agg (fl none none (some false) none none)] Mem.empty) = true := by kernel_rfl
theorem one_8_1 : isTrue (call1 3 [lit 8, .agg (fl none none (some true) none none)] Mem.empty) = true := by kernel_rfl
theorem one_9_0 : isTrue (call1 3 [lit 9, .agg (fl none none (some false) none none)] Mem.empty) = true := by kernel_rfl
theorem one_9_1 : isTrue (call1 3 [lit 9, .agg (fl none none (some true) none none)] Mem.empty) = true := by kernel_rfl
theorem one_10_0 : isTrue (call1 3 [lit 10, .agg (fl none none none none (some false))] Mem.empty) = true := by kernel_rfl
theorem one_10_1 : isTrue (call1 3 [lit 10, .agg (fl none none none none (some true))] Mem.empty) = true := by kernel_rfl
theorem one_11_0 : isTrue (call1 3 [lit 11, .agg (fl none none none none (some false))] Mem.empty) = true := by kernel_rfl
theorem one_11_1 : isTrue (call1 3 [lit 11, .agg (fl none none none none (some true))] Mem.empty) = true := by kernel_rfl
theorem one_12_00 : isTrue (call1 3 [lit 12, .agg (fl none none (some false) (some false) none)] Mem.empty) = true := by kernel_rfl
theorem one_12_01 : isTrue (call1 3 [lit 12, .agg (fl none none (some false) (some true) none)] Mem.empty) = true := by kernel_rfl
theorem one_12_10 : isTrue (call1 3 [lit 12, .agg (fl none none (some true) (some false) none)] Mem.empty) = true := by kernel_rfl
theorem one_12_11 : isTrue (call1 3 [lit 12, .agg (fl none none (some true) (some true) none)] Mem.empty) = true := by kernel_rfl
theorem one_13_00 : isTrue (call1 3 [lit 13, .agg (fl none none (some false) (some false) none)] Mem.empty) = true := by kernel_rfl
theorem one_13_01 : isTrue (call1 3 [lit 13, .agg (fl none none (some false) (some true) none)] Mem.empty) = true := by kernel_rfl
theorem one_13_10 : isTrue (call1 3 [lit 13, .agg (fl none none (some true) (some false) none)] Mem.empty) = true := by kernel_rfl
theorem one_13_11 : isTrue (call1 3 [lit 13, .agg (fl none none (some true) (some true) none)] Mem.empty) = true := by kernel_rfl
theorem one_14_000 : isTrue (call1 3 [lit 14, .agg (fl none (some false) (some false) (some false) none)] Mem.empty) = true := by kernel_rfl
theorem one_14_001 : isTrue (call1 3 [lit 14, .agg (fl none (some false) (some false) (some true) none)] Mem.empty) = true := by kernel_rfl
theorem one_14_010 : isTrue (call1 3 [lit 14, .agg (fl none (some false) (some true) (some false) none)] Mem.empty) = true := by kernel_rfl
theorem one_14_011 : isTrue (call1 3 [lit 14, .agg (fl none (some false) (some true) (some true) none)] Mem.empty) = true := by kernel_rfl
theorem one_14_100 : isTrue (call1 3 [lit 14, .agg (fl none (some true) (some false) (some false) none)] Mem.empty) = true := by kernel_rfl
theorem one_14_101 : isTrue (call1 3 [lit 14, .agg (fl none (some true) (some false) (some true) none)] Mem.empty) = true := by kernel_rfl
theorem one_14_110 : isTrue (call1 3 [lit 14, .agg (fl none (some true) (some true) (some false) none)] Mem.empty) = true := by kernel_rfl
theorem one_14_111 : isTrue (call1 3 [lit 14, .agg (fl none (some true) (some true) (some true) none)] Mem.empty) = true := by kernel_rfl
theorem one_15_000 : isTrue (call1 3 [lit 15, .agg (fl none (some false) (some false) (some false) none)] Mem.empty) = true := by kernel_rfl
theorem one_15_001 : isTrue (call1 3 [lit 15, .agg (fl none (some false) (some false) (some true) none)] Mem.empty) = true := by kernel_rfl
theorem one_15_010 : isTrue (call1 3 [lit 15, .agg (fl none (some false) (some true) (some false) none)] Mem.empty) = true := by kernel_rfl
theorem one_15_011 : isTrue (call1 3 [lit 15, .agg (fl none (some false) (some true) (some true) none)] Mem.empty) = true := by kernel_rfl
theorem one_15_100 : isTrue (call1 3 [lit 15, .agg (fl none (some true) (some false) (some false) none)] Mem.empty) = true := by kernel_rfl
theorem one_15_101 : isTrue (call1 3 [lit 15, .agg (fl none (some true) (some false) (some true) none)] Mem.empty) = true := by kernel_rfl
theorem one_15_110 : isTrue (call1 3 [lit 15, .agg (fl none (some true) (some true) (some false) none)] Mem.empty) = true := by kernel_rfl
theorem one_15_111 : isTrue (call1 3 [lit 15, .agg (fl none (some true) (some true) (some true) none)] Mem.empty) = true := by kernel_rfl

/-- What the letters stand for. -/
noncomputable def Sf (n : Int) (c z s o p : Bool) : Nat → Value
  | 0 => .int .i64 n
  | 1 => .bool c
  | 2 => .bool z
  | 3 => .bool s
  | 4 => .bool o
  | _ => .bool p
theorem Sf_one (n : Int) (c z s o p : Bool) : ∀ k, (Sf n c z s o p k).oneCell' = true
  | 0 => rfl
  | 1 => rfl
  | 2 => rfl
  | 3 => rfl
  | 4 => rfl
  | _ + 5 => rfl
def okF (x : Option Bool) (b : Bool) : Prop := x = none ∨ x = some b
theorem flc_val {V : Va} {k : Nat} {x : Option Bool} {b : Bool} (h : okF x b) (hs : V.sym k = .bool b) : (flc k x).val V = .bool b := by
  rcases h with rfl | rfl
  · exact hs
  · rfl
theorem one_use (k : Nat) (c z s o p : Bool) {c' z' s' o' p' : Option Bool} (h : isTrue (call1 3 [lit k, .agg (fl c' z' s' o' p')] Mem.empty) = true) (h1 : okF c' c) (h2 : okF z' z) (h3 : okF s' s) (h4 : okF o' o) (h5 : okF p' p) (w : World) :
    Calls Try.prog 3 #[.int .i64 (k : Int), .agg #[.bool c, .bool z, .bool s, .bool o, .bool p]] w (BoolP w true) := by
  refine true_of_run (X := ctx (Sf 0 c z s o p) 0 fun _ _ _ => True) (call1_ok (Sf_one 0 c z s o p)) h (fun _ _ _ => trivial) ?_ w ?_
  · intro t ht
    simp only [List.mem_cons, List.not_mem_nil, or_false] at ht
    rcases ht with rfl | rfl
    · trivial
    · intro a ha
      simp only [fl, List.mem_cons, List.not_mem_nil, or_false] at ha
      have key : ∀ k x, (flc k x).on fun _ => False := fun k x => by cases x <;> trivial
      rcases ha with rfl | rfl | rfl | rfl | rfl <;> exact key _ _
  · intro V hV
    have e : ∀ k, V.sym k = Sf 0 c z s o p k := fun k => by rw [hV]; rfl
    simp only [List.map_cons, List.map_nil, SV.val, fl, flc_val h1 (e 1), flc_val h2 (e 2), flc_val h3 (e 3), flc_val h4 (e 4), flc_val h5 (e 5)]
    rfl
theorem okn {b : Bool} : okF none b := .inl rfl
theorem oks {b : Bool} : okF (some b) b := .inr rfl

theorem one_in (k : Nat) (hk : k < 16) (c z s o p : Bool) (w : World) : Calls Try.prog 3 #[.int .i64 (k : Int), .agg #[.bool c, .bool z, .bool s, .bool o, .bool p]] w (BoolP w true) := by
  match k, hk with
  | 0, _ =>
    cases o
    · exact one_use 0 _ _ _ _ _ one_0_0 okn okn okn oks okn w
    · exact one_use 0 _ _ _ _ _ one_0_1 okn okn okn oks okn w
  | 1, _ =>
    cases o
    · exact one_use 1 _ _ _ _ _ one_1_0 okn okn okn oks okn w
    · exact one_use 1 _ _ _ _ _ one_1_1 okn okn okn oks okn w
  | 2, _ =>
    cases c
    · exact one_use 2 _ _ _ _ _ one_2_0 oks okn okn okn okn w
    · exact one_use 2 _ _ _ _ _ one_2_1 oks okn okn okn okn w
  | 3, _ =>
    cases c
    · exact one_use 3 _ _ _ _ _ one_3_0 oks okn okn okn okn w
    · exact one_use 3 _ _ _ _ _ one_3_1 oks okn okn okn okn w
  | 4, _ =>
    cases z
    · exact one_use 4 _ _ _ _ _ one_4_0 okn oks okn okn okn w
    · exact one_use 4 _ _ _ _ _ one_4_1 okn oks okn okn okn w
  | 5, _ =>
    cases z
    · exact one_use 5 _ _ _ _ _ one_5_0 okn oks okn okn okn w
    · exact one_use 5 _ _ _ _ _ one_5_1 okn oks okn okn okn w
  | 6, _ =>
    cases z <;> cases c
    · exact one_use 6 _ _ _ _ _ one_6_00 oks oks okn okn okn w
    · exact one_use 6 _ _ _ _ _ one_6_01 oks oks okn okn okn w
    · exact one_use 6 _ _ _ _ _ one_6_10 oks oks okn okn okn w
    · exact one_use 6 _ _ _ _ _ one_6_11 oks oks okn okn okn w
  | 7, _ =>
    cases z <;> cases c
    · exact one_use 7 _ _ _ _ _ one_7_00 oks oks okn okn okn w
    · exact one_use 7 _ _ _ _ _ one_7_01 oks oks okn okn okn w
    · exact one_use 7 _ _ _ _ _ one_7_10 oks oks okn okn okn w
    · exact one_use 7 _ _ _ _ _ one_7_11 oks oks okn okn okn w
  | 8, _ =>
    cases s
    · exact one_use 8 _ _ _ _ _ one_8_0 okn okn oks okn okn w
    · exact one_use 8 _ _ _ _ _ one_8_1 okn okn oks okn okn w
  | 9, _ =>
    cases s
    · exact one_use 9 _ _ _ _ _ one_9_0 okn okn oks okn okn w
    · exact one_use 9 _ _ _ _ _ one_9_1 okn okn oks okn okn w
  | 10, _ =>
    cases p
    · exact one_use 10 _ _ _ _ _ one_10_0 okn okn okn okn oks w
    · exact one_use 10 _ _ _ _ _ one_10_1 okn okn okn okn oks w
  | 11, _ =>
    cases p
    · exact one_use 11 _ _ _ _ _ one_11_0 okn okn okn okn oks w
    · exact one_use 11 _ _ _ _ _ one_11_1 okn okn okn okn oks w
  | 12, _ =>
    cases s <;> cases o
    · exact one_use 12 _ _ _ _ _ one_12_00 okn okn oks oks okn w
    · exact one_use 12 _ _ _ _ _ one_12_01 okn okn oks oks okn w
    · exact one_use 12 _ _ _ _ _ one_12_10 okn okn oks oks okn w
    · exact one_use 12 _ _ _ _ _ one_12_11 okn okn oks oks okn w
  | 13, _ =>
    cases s <;> cases o
    · exact one_use 13 _ _ _ _ _ one_13_00 okn okn oks oks okn w
    · exact one_use 13 _ _ _ _ _ one_13_01 okn okn oks oks okn w
    · exact one_use 13 _ _ _ _ _ one_13_10 okn okn oks oks okn w
    · exact one_use 13 _ _ _ _ _ one_13_11 okn okn oks oks okn w
  | 14, _ =>
    cases z <;> cases s <;> cases o
    · exact one_use 14 _ _ _ _ _ one_14_000 okn oks oks oks okn w
    · exact one_use 14 _ _ _ _ _ one_14_001 okn oks oks oks okn w
    · exact one_use 14 _ _ _ _ _ one_14_010 okn oks oks oks okn w
    · exact one_use 14 _ _ _ _ _ one_14_011 okn oks oks oks okn w
    · exact one_use 14 _ _ _ _ _ one_14_100 okn oks oks oks okn w
    · exact one_use 14 _ _ _ _ _ one_14_101 okn oks oks oks okn w
    · exact one_use 14 _ _ _ _ _ one_14_110 okn oks oks oks okn w
    · exact one_use 14 _ _ _ _ _ one_14_111 okn oks oks oks okn w
  | 15, _ =>
    cases z <;> cases s <;> cases o
    · exact one_use 15 _ _ _ _ _ one_15_000 okn oks oks oks okn w
    · exact one_use 15 _ _ _ _ _ one_15_001 okn oks oks oks okn w
    · exact one_use 15 _ _ _ _ _ one_15_010 okn oks oks oks okn w
    · exact one_use 15 _ _ _ _ _ one_15_011 okn oks oks oks okn w
    · exact one_use 15 _ _ _ _ _ one_15_100 okn oks oks oks okn w
    · exact one_use 15 _ _ _ _ _ one_15_101 okn oks oks oks okn w
    · exact one_use 15 _ _ _ _ _ one_15_110 okn oks oks oks okn w
    · exact one_use 15 _ _ _ _ _ one_15_111 okn oks oks oks okn w
  | k + 16, h => exact absurd h (by omega)
end Go.Proofs.Ytnkdpcalgllnbaa.Co
