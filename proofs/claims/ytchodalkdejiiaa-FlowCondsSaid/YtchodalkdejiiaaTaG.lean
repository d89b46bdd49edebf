/-
  The run with alu.Rows told by its own run.
-/
import Derived.Test.YtchodalkdejiiaaTaA
namespace Go.Proofs.Ytchodalkdejiiaa.Tab
open Go Go.RowKit Go.Proofs.Ytchodalkdejiiaa.Sy Go.Proofs.Ytchodalkdejiiaa.Wa

noncomputable def sumR : CallT := fun f args m => if Nat.beq f 24 then callRf f args m else sumT f args m
theorem sumR_ok {S : Nat → Value} {lp : Nat} {LI : (Nat → Prop) → Va → World → Prop} (hS : ∀ k, (S k).oneCell' = true) (hL : LIok LI) : CallOK (ctx S lp LI) sumR := by
  intro f args m r m' h
  unfold sumR at h
  split at h
  · exact callRf_ok hS hL f args m r m' h
  · exact sumT_ok hS hL f args m r m' h
noncomputable def callR : CallT := callS sumR
theorem callR_ok {S : Nat → Value} {lp : Nat} {LI : (Nat → Prop) → Va → World → Prop} (hS : ∀ k, (S k).oneCell' = true) (hL : LIok LI) : CallOK (ctx S lp LI) callR := callS_ok hS hL (sumR_ok hS hL)
noncomputable def isTrue : Option (SV × Mem) → Bool
  | some (.one (.lit (.bool true)), _) => true
  | _ => false
theorem true_of_run {call : CallT} (hC : CallOK (ctx (fun _ => Value.bool false) 0 fun _ _ _ => True) call) {f : FuncId} (h : isTrue (call f [] Mem.empty) = true) (w : World) : Calls Try.prog f #[] w (FormP w true) := by
  unfold isTrue at h
  split at h
  case h_2 => cases h
  rename_i m' hr
  exact call_lit hC hr (fun _ _ _ => trivial) (fun s hs => by cases hs) w (vs := #[]) (fun V _ => rfl) rfl
end Go.Proofs.Ytchodalkdejiiaa.Tab
