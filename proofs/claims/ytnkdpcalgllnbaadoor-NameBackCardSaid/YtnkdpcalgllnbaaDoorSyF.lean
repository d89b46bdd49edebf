/-
  The symbolic run: calls; all operations together; a list of operations; code; a function.
-/
import Derived.Test.YtnkdpcalgllnbaaDoorSyE
import Derived.IntWalk
namespace Go.Proofs.YtnkdpcalgllnbaaDoor.Sy
open Go Go.RowKit

section
variable {X : Ctx} {D : Nat → Prop} {V : Va} {w : World} {m : Mem} {fr : Frm} {a : Act} {o : Oper} {ro : Option Nat} {n : Nat} {K : Act → World → Prop} {Q : Exit → Act → World → Prop} {s : SV} {m' : Mem} {call : CallT} {yld : YieldT}

theorem call_next {f : FuncId} {args : List SV} {r : SV} (hC : CallOK X call) (hg : Good X V) (hm : RelM D V m w) (hl : X.LI D V w) (hargs : ∀ s ∈ args, s.on D) (hnd : ∀ c, o.op ≠ .defer c) (h : call f args m = some (r, m'))
    (hr : (∀ as w, (callFunc f as).run X.C.P w = .ok (.enter f as) w) → (execOp a.eval o).run X.C.P w = .ok (.enter f (args.map (SV.val V)).toArray) w) (hk : Next_ D V w m r m' a o.dst K) : o.wpIn (Fw ro) n X.C.P a w K Q := by
  obtain ⟨hen, hcall⟩ := hC f args m r m' h
  refine op_enter hnd (hr hen) (hcall D V w hg hm hl hargs) ?_
  rintro e w' ⟨V', rfl, h1, h2, h3⟩
  exact ⟨_, rfl, hk V' w' h1 h2 h3⟩

theorem callOp_sound (hX : XOK X) (hC : CallOK X call) (hY : YieldOK X yld) (hg : Good X V) {c : Call} {r : SV} (ho : o.op = .call c) (h : callOp X.C call yld fr m o c = some (r, m')) (hm : RelM D V m w) (hl : X.LI D V w) (hf : FrR D V fr a)
    (hk : Next_ D V w m r m' a o.dst K) : o.wpIn (Fw ro) n X.C.P a w K Q := by
  have hnd : ∀ c, o.op ≠ .defer c := fun c e => by rw [ho] at e; cases e
  obtain ⟨callee, args, ats⟩ := c
  unfold callOp at h
  cases callee with
  | value g =>
    simp only [callVal] at h
    split at h
    case h_2 => cases h
    rename_i ss hargs
    unfold callFn at h
    split at h
    · rename_i f first captured he
      split at h
      case isFalse => cases h
      rename_i hemp
      simp only [Bool.and_eq_true, Array.isEmpty_iff] at hemp
      obtain ⟨rfl, rfl⟩ := hemp
      obtain ⟨h1, _⟩ := hf.ev he
      obtain ⟨h2, h3⟩ := hf.evs hargs
      refine call_next hC hg hm hl h3 hnd h (fun hen => ?_) hk
      have hmap : args.map a.eval = (ss.map (SV.val V)).toArray := by
        apply Array.ext'
        rw [Array.toList_map, h2]
      unfold execOp
      simp only [ho, resolve, h1, SV.val, At.val, Deferred.ofValue, invoke, Sem.run_bind, Sem.run_pure, Result.andThen_ok, Array.empty_append, Array.append_empty, hmap, hen]
    · rename_i f caps he
      obtain ⟨h1, h1'⟩ := hf.ev he
      obtain ⟨h2, h3⟩ := hf.evs hargs
      refine call_next hC hg hm hl (fun s hs => ?_) hnd h (fun hen => ?_) hk
      · rcases List.mem_append.1 hs with hs | hs
        · exact h3 s hs
        · simp only [List.mem_map] at hs
          obtain ⟨p, hp, rfl⟩ := hs
          exact h1' p hp
      · have hmap : args.map a.eval = (ss.map (SV.val V)).toArray := by
          apply Array.ext'
          rw [Array.toList_map, h2]
        have hcap : ((caps.map fun p => SV.one (At.ptr p.1 p.2)).map (SV.val V)) = caps.map fun p => Value.pointer (some ⟨V.blk p.1, p.2, none⟩) := by
          rw [List.map_map]; rfl
        unfold execOp
        simp only [ho, resolve, h1, SV.val, At.val, Deferred.ofValue, invoke, Sem.run_bind, Sem.run_pure, Result.andThen_ok, Array.empty_append, hmap, hen, List.map_append, hcap]
        simp
    · rename_i he
      obtain ⟨h1, _⟩ := hf.ev he
      obtain ⟨h2, h3⟩ := hf.evs hargs
      obtain ⟨fn, tmps, as, body, hy, hR⟩ := hY ss m r m' h D V w (n - 1) hg hm hl h3
      have hmap : args.map a.eval = (ss.map (SV.val V)).toArray := by
        apply Array.ext'
        rw [Array.toList_map, h2]
      refine op_round hnd ?_ hR ?_
      · unfold execOp
        simp only [ho, resolve, h1, SV.val, At.val, hg.lp, Deferred.ofValue, invoke, Sem.run_bind, Sem.run_pure, Result.andThen_ok, Array.empty_append, hmap, hy]
      · rintro e w' ⟨V', rfl, h4, h5, h6⟩
        exact ⟨_, rfl, hk V' w' h4 h5 h6⟩
    · cases h
  | invoke rc name =>
    simp only [callInv] at h
    split at h
    case h_2 => cases h
    rename_i t v ss he hargs
    split at h
    case h_2 => cases h
    rename_i f rv hmeth
    have h1 := hf.evL he
    obtain ⟨h2, h3⟩ := hf.evs hargs
    refine call_next hC hg hm hl (fun s hs => ?_) hnd h (fun hen => ?_) hk
    · rcases List.mem_cons.1 hs with rfl | hs
      · exact ofVal_on D rv
      · exact h3 s hs
    · have hmap : args.map a.eval = (ss.map (SV.val V)).toArray := by
        apply Array.ext'
        rw [Array.toList_map, h2]
      have hrun := run_pureVal _ _ hmeth w
      unfold execOp
      simp only [ho, resolve, h1, Sem.run_bind, Sem.run_pure, Result.andThen_ok, invoke, hmap]
      have h0 : (#[Value.iface t v] ++ (ss.map (SV.val V)).toArray)[0]? = some (.iface t v) := by simp
      have h4 : (#[Value.iface t v] ++ (ss.map (SV.val V)).toArray).extract 1 (#[Value.iface t v] ++ (ss.map (SV.val V)).toArray).size = (ss.map (SV.val V)).toArray := by
        apply Array.ext'
        simp
        exact List.take_of_length_le (by simp)
      simp only [h0, h4, callMethod, program, Sem.run_bind, Sem.run, Result.andThen_ok, hrun, hen, List.map_cons, ofVal_val]
      simp
  | builtin b =>
    by_cases hb : b = .append
    · subst hb
      simp only [callBuiltin, callAppend] at h
      split at h
      case h_2 => cases h
      rename_i xs xx t t' ha1 ha2
      have e1 : args = #[xs, xx] := Array.ext' ha1
      have e2 : ats = #[t, t'] := Array.ext' ha2
      subst e1; subst e2
      split at h
      case h_2 => cases h
      rename_i s x hs hx
      exact append_sound hX hg ho hs hx h hm hf hk
    · by_cases hb' : b = .len
      · subst hb'
        simp only [callBuiltin, callLen] at h
        split at h
        case h_2 => cases h
        rename_i x t ha1 ha2
        have e1 : args = #[x] := Array.ext' ha1
        have e2 : ats = #[t] := Array.ext' ha2
        subst e1; subst e2
        split at h
        · rename_i id len e hx hu
          cases h
          obtain ⟨h1, _⟩ := hf.ev hx
          refine op_value (v := (SV.one (.lit (.int .i64 (Int.ofNat len)))).val V) (w' := w) hnd ?_ (next_stay hm trivial hk)
          refine run_builtin ho ?_
          simp only [List.map_toArray, List.map_cons, List.map_nil, h1, builtin, SV.val, At.val]
          simp [Builtin.len_, run_underlying hu, goInt]
        · exact pureOp_sound hX hg h hm hf hk
      · by_cases hb2 : b = .cap
        · subst hb2
          simp only [callBuiltin, callCap] at h
          split at h
          case h_2 => cases h
          rename_i x t ha1 ha2
          have e1 : args = #[x] := Array.ext' ha1
          have e2 : ats = #[t] := Array.ext' ha2
          subst e1; subst e2
          split at h
          · rename_i id len e hx hu
            split at h
            case h_2 => cases h
            rename_i ob hob
            split at h
            case isFalse => cases h
            rename_i hfl
            simp only [Bool.and_eq_true, lenR_eq] at hfl h
            have hsz : ob.sz = 1 := Nat.eq_of_beq_eq_true hfl.2
            obtain ⟨_, _, hat⟩ := hm.ob id ob hob
            have hcap : ob.cs.length = V.cap id := by have := hat.all hfl.1; rw [hsz, Nat.mul_one] at this; exact this
            cases h
            obtain ⟨h1, _⟩ := hf.ev hx
            refine op_value (v := (SV.one (.lit (.int .i64 (Int.ofNat ob.cs.length)))).val V) (w' := w) hnd ?_ (next_stay hm trivial hk)
            refine run_builtin ho ?_
            simp only [List.map_toArray, List.map_cons, List.map_nil, h1, builtin, SV.val, At.val]
            simp [Builtin.cap_, run_underlying hu, goInt, hcap]
          · exact pureOp_sound hX hg h hm hf hk
        · have h' : pureOp X.C fr m o = some (r, m') := by
            cases b <;> first | exact absurd rfl hb | exact absurd rfl hb' | exact absurd rfl hb2 | exact h
          exact pureOp_sound hX hg h' hm hf hk

theorem mapM_ptr : ∀ (l : List SV) (q : List (Nat × Nat)), (l.mapM fun s => match s with | SV.one (At.ptr i k) => some (i, k) | _ => none) = some q → l = q.map fun p => SV.one (At.ptr p.1 p.2)
  | [], q, h => by simp at h; subst h; rfl
  | s :: l, q, h => by
    simp only [List.mapM_cons, Option.bind_eq_bind, Option.pure_def] at h
    cases hs : (match s with | SV.one (At.ptr i k) => some (i, k) | _ => none) with
    | none => simp [hs] at h
    | some p =>
      cases hl : (l.mapM fun s => match s with | SV.one (At.ptr i k) => some (i, k) | _ => none) with
      | none => simp [hs, hl] at h
      | some q' =>
        simp [hs, hl] at h
        subst h
        rw [mapM_ptr l q' hl]
        split at hs
        · cases hs; rfl
        · cases hs

theorem natBin_sound {b : BinOp} {t t' : Nat} {x y : Operand} (ho : o.op = .binOp b t x y t') {p q : Nat} {v : Value} (hx : a.eval x = .int .i64 (Int.ofNat p)) (hy : a.eval y = .int .i64 (Int.ofNat q)) (h : natBin b p q = some v) (hm : RelM D V m w)
    (hk : Next_ D V w m (.one (.lit v)) m a o.dst K) : o.wpIn (Fw ro) n X.C.P a w K Q := by
  refine op_value (v := v) (w' := w) (fun c e => by rw [ho] at e; cases e) ?_ (next_stay (s := .one (.lit v)) hm trivial hk)
  unfold execOp
  simp only [ho, hx, hy]
  have e1 : Nat.blt p q = decide (p < q) := by
    rw [Bool.eq_iff_iff, decide_eq_true_iff]
    exact ⟨fun h => Nat.le_of_ble_eq_true h, fun h => Nat.ble_eq_true_of_le h⟩
  have e2 : ∀ x y, Nat.ble x y = decide (x ≤ y) := fun x y => by
    rw [Bool.eq_iff_iff, decide_eq_true_iff]
    exact ⟨fun h => Nat.le_of_ble_eq_true h, fun h => Nat.ble_eq_true_of_le h⟩
  have e3 : Nat.beq p q = decide (p = q) := by
    rw [Bool.eq_iff_iff, decide_eq_true_iff]
    exact ⟨fun h => Nat.eq_of_beq_eq_true h, fun h => by rw [h]; exact Nat.beq_refl q⟩
  have e4 : ((p : Int) == (q : Int)) = decide (p = q) := by
    rw [Bool.eq_iff_iff, beq_iff_eq, decide_eq_true_iff]
    omega
  have e5 : ((p : Int) != (q : Int)) = !decide (p = q) := by rw [← e4]; rfl
  unfold natBin at h
  split at h
  · split at h
    case isFalse => cases h
    rename_i hle
    cases h
    have hle' : p + q ≤ 9223372036854775807 := Nat.le_of_ble_eq_true hle
    have hw : IntKind.i64.wrap ((p : Int) + (q : Int)) = (p : Int) + (q : Int) := IntWalk.i64_in _ (by omega)
    simp [eqGuard, binOp, Op.intArith, hw]
  all_goals first | (cases h; done) | (cases h; simp [eqGuard, binOp, Op.intCmp, e1, e2, e3, e4, e5])

theorem stepOp_sound (hX : XOK X) (hC : CallOK X call) (hY : YieldOK X yld) (hg : Good X V) (h : stepOp X.C call yld fr m o = some (s, m')) (hm : RelM D V m w) (hl : X.LI D V w) (hf : FrR D V fr a)
    (hk : Next_ D V w m s m' a o.dst K) : o.wpIn (Fw ro) n X.C.P a w K Q := by
  have mv : ∀ x, stMove fr m x = some (s, m') → m' = m ∧ a.eval x = s.val V ∧ s.on D := by
    intro x h
    simp only [stMove, Option.map_eq_some_iff] at h
    obtain ⟨u, hu, e⟩ := h
    cases e
    exact ⟨rfl, hf.ev hu⟩
  unfold stepOp at h
  split at h
  · rename_i x ho
    obtain ⟨rfl, h1, h2⟩ := mv x h
    exact op_value (v := s.val V) (w' := w) (fun c e => by rw [ho] at e; cases e) (by unfold execOp; simp only [ho, h1]; rfl) (next_stay hm h2 hk)
  · rename_i x ho
    obtain ⟨rfl, h1, h2⟩ := mv x h
    exact op_value (v := s.val V) (w' := w) (fun c e => by rw [ho] at e; cases e) (by unfold execOp; simp only [ho, h1]; rfl) (next_stay hm h2 hk)
  · rename_i c x y ho
    unfold stPick at h
    split at h
    · rename_i hc
      obtain ⟨rfl, h1, h2⟩ := mv x h
      have h3 := hf.evL hc
      exact op_value (v := s.val V) (w' := w) (fun c e => by rw [ho] at e; cases e) (by unfold execOp; simp [ho, h1, h3, asBool]) (next_stay hm h2 hk)
    · rename_i hc
      obtain ⟨rfl, h1, h2⟩ := mv y h
      have h3 := hf.evL hc
      exact op_value (v := s.val V) (w' := w) (fun c e => by rw [ho] at e; cases e) (by unfold execOp; simp [ho, h1, h3, asBool]) (next_stay hm h2 hk)
    · cases h
  · rename_i t ho
    unfold stAlloc at h
    split at h
    case h_2 => cases h
    rename_i i hi
    split at h
    case h_2 => cases h
    rename_i z hz
    cases h
    exact alloc_sound ho hi hz hm hk
  · rename_i t x ho
    unfold stBox at h
    split at h
    case h_2 => cases h
    rename_i l hx
    cases h
    exact box_sound hX hg ho hx hm hf hk
  · rename_i t ps ho
    unfold stBuild at h
    split at h
    · rename_i fields i qs hu hi hp
      unfold stBuildS at h
      split at h
      case h_2 => cases h
      rename_i z hz
      split at h
      case h_2 => cases h
      rename_i places hpl
      simp only [Option.map_eq_some_iff] at h
      obtain ⟨l, hfl, e⟩ := h
      cases e
      refine build_sound hX hg ho hp _ (fun x hx => ?_) hfl (fun vs => ?_) hm hf hk
      · simp only [List.mem_map] at hx; obtain ⟨v, _, rfl⟩ := hx; exact ⟨v, rfl⟩
      · unfold Program.built
        simp only [hi, hu, hz, hpl, lits_val, Value.cells, Array.toArray_toList, List.getElem?_toArray]
    · rename_i len e i qs hu hi hp
      unfold stBuildA at h
      split at h
      case h_2 => cases h
      rename_i z j hz hj
      simp only [Option.map_eq_some_iff] at h
      obtain ⟨l, hfl, e⟩ := h
      cases e
      refine build_sound hX hg ho hp _ (fun x hx => ?_) hfl (fun vs => ?_) hm hf hk
      · simp only [List.mem_map] at hx; obtain ⟨v, _, rfl⟩ := hx; exact ⟨v, rfl⟩
      · unfold Program.built
        simp only [hi, hu, hz, hj, lits_val, Value.cells, Array.toArray_toList]
    · cases h
  · rename_i t len ps ho
    unfold stBuildSlice at h
    split at h
    case h_2 => cases h
    rename_i e i z qs he hp
    split at h
    case isFalse => cases h
    rename_i hc
    simp only [Bool.and_eq_true] at hc
    split at h
    case h_2 => cases h
    rename_i l hfl
    split at h
    case isFalse => cases h
    cases h
    exact buildSlice_sound hX hg ho he hp (Nat.le_of_ble_eq_true hc.1.1) (Nat.le_of_ble_eq_true hc.1.2) (Nat.eq_of_beq_eq_true hc.2) hfl hm hf hk
  · rename_i t x ho
    unfold stLoad at h
    split at h
    case h_2 => cases h
    rename_i id off hx
    simp only [Option.map_eq_some_iff] at h
    obtain ⟨u, hu, e⟩ := h
    cases e
    obtain ⟨h1, h2⟩ := hf.ev hx
    obtain ⟨h3, h4⟩ := load_sound hu hm
    exact op_value (v := s.val V) (w' := w) (fun c e => by rw [ho] at e; cases e) (by unfold execOp; simp only [ho, h1, SV.val, At.val, Instr.loadAt, Instr.sureAddr, Sem.run_bind, Sem.run_pure, Result.andThen_ok, h3]) (next_stay hm h4 hk)
  · rename_i t x y ho
    unfold stStore at h
    simp only [lenR_eq, takeR_eq, dropR_eq, appR_eq, ← List.append_assoc] at h
    split at h
    case h_2 => cases h
    rename_i id off l i hx hy hi
    split at h
    case h_2 => cases h
    rename_i ob hob
    split at h
    case isFalse => cases h
    rename_i hc
    simp only [Bool.and_eq_true] at hc
    cases h
    exact store_sound hX hg ho hx hy hi hob (Nat.eq_of_beq_eq_true hc.1) (Nat.le_of_ble_eq_true hc.2) hm hf hk
  · rename_i t x f ho
    unfold stFieldAddr at h
    split at h
    case h_2 => cases h
    rename_i id off fields hx hu
    split at h
    case h_2 => cases h
    rename_i fd hfd
    split at h
    case h_2 => cases h
    rename_i i hi
    split at h
    case isTrue => cases h
    rename_i hs
    cases h
    exact fieldAddr_sound ho hx hu hfd hi (fun e => hs (by rw [e]; rfl)) hm hf hk
  · rename_i t x ix ho
    unfold stIndexAddr at h
    split at h
    · rename_i id len q k e hx hix hu
      split at h
      case h_2 => cases h
      rename_i i hi
      split at h
      case isFalse => cases h
      rename_i hlt
      cases h
      exact indexAddr_slice_sound ho hx hix hu hi (Nat.le_of_ble_eq_true hlt) hm hf hk
    · rename_i id off q k len e hx hix hu
      split at h
      case h_2 => cases h
      rename_i i hi
      split at h
      case isFalse => cases h
      rename_i hlt
      cases h
      exact indexAddr_array_sound ho hx hix hu hi (Nat.le_of_ble_eq_true hlt) hm hf hk
    · cases h
  · rename_i t x f ho
    unfold stField at h
    split at h
    case h_2 => cases h
    rename_i l fields hx hu
    split at h
    case h_2 => cases h
    rename_i fd hfd
    split at h
    case h_2 => cases h
    rename_i d i hud hi
    split at h
    · rename_i hd
      cases h
      exact field_agg_sound ho hx hu hfd hud hd hi hm hf hk
    · rename_i hd
      simp only [Option.map_eq_some_iff] at h
      obtain ⟨y, hy, e⟩ := h
      cases e
      exact field_one_sound ho hx hu hfd hud (by simpa using hd) hy hm hf hk
  · rename_i t x ix ho
    unfold stIndex at h
    split at h
    · rename_i l q k len e hx hix hu
      split at h
      case isFalse => cases h
      rename_i hlt
      split at h
      case h_2 => cases h
      rename_i d i hud hi
      split at h
      case isTrue => cases h
      rename_i hd
      simp only [Option.map_eq_some_iff] at h
      obtain ⟨y, hy, e⟩ := h
      cases e
      exact index_one_sound ho hx hix hu hud (by simpa using hd) hi (Nat.le_of_ble_eq_true hlt) hy hm hf hk
    · exact pureOp_sound hX hg h hm hf hk
  · rename_i t x lo hi mx ho
    unfold stSlice at h
    simp only [lenR_eq] at h
    split at h
    · rename_i id len hh e hx hu
      split at h
      · rename_i q k ob i hk' hob hi
        split at h
        case isFalse => cases h
        rename_i hc
        simp only [Bool.and_eq_true] at hc
        cases h
        exact slice_sound ho hx hk' hob hu hi (Nat.le_of_ble_eq_true hc.1) (Nat.le_of_ble_eq_true hc.2) hm hf hk
      · cases h
    · exact pureOp_sound hX hg h hm hf hk
  · rename_i t i ho
    unfold stExtract at h
    split at h
    case h_2 => cases h
    rename_i l ht
    simp only [Option.map_eq_some_iff] at h
    obtain ⟨y, hy, e⟩ := h
    cases e
    obtain ⟨h1, h2⟩ := hf.ev ht
    refine op_value (v := (SV.one y).val V) (w' := w) (fun c e => by rw [ho] at e; cases e) ?_ (next_stay hm (h2 y (List.mem_of_getElem? hy)) hk)
    unfold execOp
    simp only [ho, h1, SV.val]
    simp [Instr.extract, hy]
  · rename_i f first caps ho
    unfold stMakeFunc at h
    split at h
    case isFalse => cases h
    rename_i hemp
    obtain rfl : first = #[] := by simpa using hemp
    split at h
    case h_2 => cases h
    rename_i l hl'
    simp only [Option.map_eq_some_iff] at h
    obtain ⟨q, hq, e⟩ := h
    cases e
    obtain ⟨h1, h2⟩ := hf.evs hl'
    have e1 := mapM_ptr l q hq
    subst e1
    refine op_value (v := (SV.one (.clo f q)).val V) (w' := w) (fun c e => by rw [ho] at e; cases e) ?_ (next_stay hm (fun p hp => ?_) hk)
    · have hmap : caps.map a.eval = (q.map fun p => Value.pointer (some ⟨V.blk p.1, p.2, none⟩)).toArray := by
        apply Array.ext'
        rw [Array.toList_map, h1, List.map_map]
        rfl
      unfold execOp
      simp only [ho, Instr.makeFunc, hmap, SV.val, At.val]
      simp
    · exact h2 (.one (.ptr p.1 p.2)) (List.mem_map.2 ⟨p, hp, rfl⟩)
  · rename_i b t x y t' ho
    have eqs : ∀ k c, stEqSym X.C fr m o b k c = some (s, m') → ((a.eval x = .int .i64 c ∧ a.eval y = X.S k) ∨ (a.eval x = X.S k ∧ a.eval y = .int .i64 c)) → o.wpIn (Fw ro) n X.C.P a w K Q := by
      intro k c h hxy
      unfold stEqSym at h
      split at h
      · split at h
        case isFalse => cases h
        rename_i hc
        cases h
        obtain ⟨d, h3, h4⟩ := hX.neq k c hc
        rcases hxy with ⟨h1, h2⟩ | ⟨h1, h2⟩
        · exact eqSym_sound ho h1 (h2.trans h3) h4 hm hk
        · exact eqSym_sound ho (h1.trans h3) h2 (Ne.symm h4) hm hk
      · exact pureOp_sound hX hg h hm hf hk
    unfold stBin at h
    split at h
    · rename_i p q hx hy
      obtain ⟨h1, _⟩ := hf.ev hx
      obtain ⟨h2, _⟩ := hf.ev hy
      split at h
      · rename_i v hv
        cases h
        exact natBin_sound ho h1 h2 hv hm hk
      · exact pureOp_sound hX hg h hm hf hk
    · rename_i c k hx hy
      obtain ⟨h1, _⟩ := hf.ev hx
      obtain ⟨h2, _⟩ := hf.ev hy
      exact eqs k c h (.inl ⟨by rw [h1]; rfl, by rw [h2, SV.val, At.val, hg.sym]⟩)
    · rename_i k c hx hy
      obtain ⟨h1, _⟩ := hf.ev hx
      obtain ⟨h2, _⟩ := hf.ev hy
      exact eqs k c h (.inr ⟨by rw [h1, SV.val, At.val, hg.sym], by rw [h2]; rfl⟩)
    · exact pureOp_sound hX hg h hm hf hk
  · rename_i u t x ho
    unfold stUn at h
    split at h
    · rename_i b hx
      cases h
      obtain ⟨h1, _⟩ := hf.ev hx
      exact op_value (v := .bool (!b)) (w' := w) (fun c e => by rw [ho] at e; cases e) (by unfold execOp; simp [ho, h1, SV.val, At.val, Op.unary]) (next_stay (s := .one (.lit (.bool (!b)))) hm trivial hk)
    · exact pureOp_sound hX hg h hm hf hk
  · rename_i c ho
    exact callOp_sound hX hC hY hg ho h hm hl hf hk
  · exact pureOp_sound hX hg h hm hf hk
end
end Go.Proofs.YtnkdpcalgllnbaaDoor.Sy
