/-
  FlowConds: its run, the condition told.
-/
import Derived.Test.YtchodalkdejiiaaLaA
import Derived.KernelRfl
namespace Go.Proofs.Ytchodalkdejiiaa.Lc
open Go Go.RowKit Go.Proofs.Ytchodalkdejiiaa.Sy Go.Proofs.Ytchodalkdejiiaa.Wa Go.Proofs.Ytchodalkdejiiaa.Tab Go.Proofs.Ytchodalkdejiiaa.La

/-- What a call that touches no elder block is good for in the run. -/
theorem gives_of_below {D : Nat → Prop} {V : Va} {w w' : World} {m : Mem} (hm : RelM D V m w) (hb : Below w.heap.size w w') : StepM D V w m V w' m ∧ RelM (Dn D m.nxt m.nxt) V m w' := by
  refine ⟨⟨Nat.le_refl _, .refl _ _, fun _ h => h, hb.os, hb.tape, hb.output, ⟨hb.size, fun k o hk _ => ?_⟩, fun b hlt _ => hb.block b hlt, fun i h1 h2 => absurd h2 (by omega)⟩, ?_⟩
  · rw [hb.block k (Array.getElem?_eq_some_iff.1 hk).1]
    exact hk
  · rw [Dn_self]
    refine ⟨hm.dom, fun i o hi => ?_, hm.inj, hm.mlt⟩
    obtain ⟨h1, h2, h3⟩ := hm.ob i o hi
    exact ⟨h1, h2, h3.kept h1 h2 (.refl _ _) (hb.block _ h3.lt)⟩
theorem give_val {D : Nat → Prop} {V : Va} {w : World} {m : Mem} {f : FuncId} {args : Array Value} {v : Value} {s : SV} (hm : RelM D V m w) (hv : v = s.val V) (hon : s.on D)
    (h : Calls Try.prog f args w fun e w' => e = .returned v ∧ Below w.heap.size w w') : Calls Try.prog f args w (Gives D V w m s m) := by
  refine h.mono ?_
  rintro e w' ⟨rfl, hb⟩
  obtain ⟨h1, h2⟩ := gives_of_below hm hb
  exact ⟨V, by rw [hv], h1, h2, SV.on_mono Dn_le hon⟩

noncomputable def sumW (k : Nat) : CallT := fun f args m =>
  if Nat.beq f 19 then (match args with | [] => some (.one (.lit (.bool true)), m) | _ => none) else
  if Nat.beq f 21 then (match args with
    | [.one (.sym i), .one (.lit (.int .i64 (.ofNat d)))] => if Nat.beq i 0 && Nat.beq d 16 then some (.one (.lit (.int .i64 (.ofNat k))), m) else none
    | _ => none) else sumT f args m
noncomputable def Sn (n : Int) : Nat → Value := fun _ => .int .i64 n
theorem Sn_one (n : Int) : ∀ k, (Sn n k).oneCell' = true := fun _ => rfl

theorem sumW_ok {n : Int} {k : Nat} (hk : n % 16 = (k : Int)) : CallOK (ctx (Sn n) 0 fun _ _ _ => True) (sumW k) := by
  intro f args m r m' h
  unfold sumW at h
  by_cases e : Nat.beq f 19 = true
  · rw [if_pos e] at h
    have e' := Nat.eq_of_beq_eq_true e
    clear e
    subst e'
    split at h
    case h_2 => cases h
    cases h
    exact ⟨Try.call19, fun D V w _ hm _ _ => give_val hm rfl trivial (awake15 w)⟩
  · rw [if_neg e] at h
    by_cases e3 : Nat.beq f 21 = true
    · rw [if_pos e3] at h
      have e' := Nat.eq_of_beq_eq_true e3
      clear e e3
      subst e'
      split at h
      case h_2 => cases h
      rename_i i d
      split at h
      case isFalse => cases h
      rename_i hid
      cases h
      rw [Bool.and_eq_true] at hid
      have ei := Nat.eq_of_beq_eq_true hid.1
      have ed := Nat.eq_of_beq_eq_true hid.2
      subst ei
      subst ed
      refine ⟨Try.call21, fun D V w hg hm _ _ => ?_⟩
      have hV : V.sym = Sn n := hg.sym
      have ha : (([SV.one (At.sym 0), SV.one (At.lit (.int .i64 (.ofNat 16)))]).map (SV.val V)).toArray = #[.int .i64 n, .int .i64 ((16 : Nat) : Int)] := by
        simp only [List.map_cons, List.map_nil, SV.val, At.val, hV]
        rfl
      rw [ha]
      have hp := pick w n 16 (by decide) (by decide)
      refine give_val (v := .int .i64 (k : Int)) hm rfl trivial (hp.mono ?_)
      rintro e w' ⟨rfl, rfl⟩
      refine ⟨?_, Below.refl _ _⟩
      rw [← hk]
      rfl
    · rw [if_neg e3] at h
      exact sumT_ok (Sn_one n) li_true f args m r m' h

noncomputable def callW (k : Nat) : CallT := callS (sumW k)
noncomputable def conds (k : Nat) : Bool := Tab.isTrue (callW k 7 [.one (.sym 0)] Mem.empty)
theorem conds_use {n : Int} {k : Nat} (hk : n % 16 = (k : Int)) (h : conds k = true) (w : World) : Calls Try.prog 7 #[.int .i64 n] w (FormP w true) := by
  unfold conds Tab.isTrue at h
  split at h
  case h_2 => cases h
  rename_i m' hr
  refine call_lit (callS_ok (Sn_one n) li_true (sumW_ok hk)) hr (fun _ _ _ => trivial) ?_ w (vs := #[.int .i64 n]) ?_ rfl
  · intro s hs
    rw [List.mem_singleton] at hs
    subst hs
    trivial
  · intro V hV
    simp only [List.map_cons, List.map_nil, SV.val, At.val, hV]
    rfl
end Go.Proofs.Ytchodalkdejiiaa.Lc
