/-
  The symbolic run: append; calls; all operations together.
-/
import Derived.Test.YtnkdpcalgllnbaaDoorSyD
namespace Go.Proofs.YtnkdpcalgllnbaaDoor.Sy
open Go Go.RowKit

section
variable {X : Ctx} {D : Nat → Prop} {V : Va} {w : World} {m : Mem} {fr : Frm} {a : Act} {o : Oper} {ro : Option Nat} {n : Nat} {K : Act → World → Prop} {Q : Exit → Act → World → Prop} {s : SV} {m' : Mem}

theorem run_builtin {b : Builtin} {args : Array Operand} {ts : Array TypeId} {v : Value} {w' : World} (ho : o.op = .call { callee := .builtin b, args := args, argTypes := ts })
    (h : (builtin b ts o.type (args.map fun | .const _ => true | _ => false) (args.map a.eval)).run X.C.P w = .ok (.value v) w') : (execOp a.eval o).run X.C.P w = .ok (.value v) w' := by
  unfold execOp
  simp only [ho, resolve, invoke, Sem.run_bind, Sem.run_pure, Result.andThen_ok]
  exact h

theorem run_append_op {xs xx : Operand} {t : TypeId} {vs vx v : Value} {w' : World} (ho : o.op = .call { callee := .builtin .append, args := #[xs, xx], argTypes := #[t, t] }) (hs : a.eval xs = vs) (hx : a.eval xx = vx)
    (h : (Builtin.append_ #[t, t] o.type #[vs, vx]).run X.C.P w = .ok v w') : (execOp a.eval o).run X.C.P w = .ok (.value v) w' := by
  refine run_builtin ho ?_
  simp only [List.map_toArray, List.map_cons, List.map_nil, hs, hx, builtin, Sem.run_bind, h]
  rfl

theorem take_cells {id k : Nat} {ob : Ob} (hm : RelM D V m w) (hob : m.H.get id = some ob) : ∀ j u, ((ob.cs.take k).map (At.val V))[j]? = some u → w.cell? ((⟨V.blk id, 0, none⟩ : Addr).add j) = some u := by
  intro j u hj
  obtain ⟨_, _, hat⟩ := hm.ob id ob hob
  obtain ⟨cur, hc1, _, _, _, hc5⟩ := hat.ex
  rw [Addr.add_lit, cell_at hc1, Nat.zero_add]
  rw [List.getElem?_map, Option.map_eq_some_iff] at hj
  obtain ⟨y, hy, rfl⟩ := hj
  rw [List.getElem?_take] at hy
  split at hy
  · exact hc5 j y hy
  · cases hy

theorem append_sound (hX : XOK X) (hg : Good X V) {xs xx : Operand} {t t' : Nat} {x r : SV} (ho : o.op = .call { callee := .builtin .append, args := #[xs, xx], argTypes := #[t, t'] }) (hs : fr.ev xs = some s) (hx : fr.ev xx = some x)
    (h : appendOp X.C m t t' s x = some (r, m')) (hm : RelM D V m w) (hf : FrR D V fr a) (hk : Next_ D V w m r m' a o.dst K) : o.wpIn (Fw ro) n X.C.P a w K Q := by
  have hnd : ∀ c, o.op ≠ .defer c := fun c e => by rw [ho] at e; cases e
  obtain ⟨hs1, hs2⟩ := hf.ev hs
  obtain ⟨hx1, hx2⟩ := hf.ev hx
  unfold appendOp at h
  split at h
  case isFalse => cases h
  rename_i htt
  obtain rfl : t = t' := Nat.eq_of_beq_eq_true htt
  split at h
  case h_2 => cases h
  rename_i e i z idx lx hel
  obtain ⟨hu, hi, zv, hz, rfl⟩ := elemOf_spec hel
  unfold appendFrom at h
  simp only [lenR_eq, takeR_eq] at h
  split at h
  case h_2 => cases h
  rename_i ox hox
  split at h
  case isFalse => cases h
  rename_i hc
  simp only [Bool.and_eq_true] at hc
  obtain ⟨⟨⟨⟨hc1, hc2⟩, hc3⟩, hc4⟩, hc5⟩ := hc
  have q1 : 0 < i.size := Nat.le_of_ble_eq_true hc1
  have q2 : zv.cells.size = i.size := by simpa using Nat.eq_of_beq_eq_true hc2
  have q3 : 0 < lx := Nat.le_of_ble_eq_true hc3
  have q4 : (ox.cs.take (lx * i.size)).length = lx * i.size := Nat.eq_of_beq_eq_true hc4
  have q5 : ∀ y ∈ ox.cs.take (lx * i.size), y.oneC = true := by simpa using hc5
  obtain ⟨_, hxon, _⟩ := hm.ob idx ox hox
  have hon : ∀ y ∈ ox.cs.take (lx * i.size), y.on D := fun y hy => hxon y (List.mem_of_mem_take hy)
  have hnl : ((ox.cs.take (lx * i.size)).map (At.val V)).length = lx * i.size := by rw [List.length_map, q4]
  have hnews := take_cells (k := lx * i.size) hm hox
  have h1c : ∀ u ∈ (ox.cs.take (lx * i.size)).map (At.val V), u.oneCell' = true := by
    intro u hu
    obtain ⟨y, hy, rfl⟩ := List.mem_map.1 hu
    exact At.oneC_val (hg.symOK hX) (q5 y hy)
  unfold appendTo at h
  split at h
  · -- the nil slice
    unfold appendNil at h
    split at h
    case isFalse => cases h
    rename_i hb
    simp only [Bool.and_eq_true] at hb
    have b1 : lx * i.bytes ≤ 140737488355328 := Nat.le_of_ble_eq_true hb.1
    have b2 : lx ≤ 9223372036854775807 := Nat.le_of_ble_eq_true hb.2
    cases h
    have hr := run_append_nil (P := X.C.P) w t o.type e i zv hu hi hz ⟨V.blk idx, 0, none⟩ lx (V.cap idx) _ hnl hnews q3 (by omega) (by omega)
    have hge := grownCap_ge w lx 0 e
    have hmx : grownCap w lx 0 e ≤ maxLen := grownCap_le_maxLen w lx 0 e (by unfold maxLen; omega)
    refine op_value hnd (run_append_op ho hs1 hx1 hr) ?_
    · refine new_next (w0 := w.drew) hm rfl rfl rfl rfl { t := e, sz := i.size, cs := ox.cs.take (lx * i.size) } (grownCap w lx 0 e) _ (fun k => .sl k lx) ?_ hmx ?_ hon (fun j y hj => ?_) (fun h => by cases h) rfl (by simp [At.val, Va.ext_blk, Va.ext_cap]) hk
      · simp only [Array.size_append, List.size_toArray, size_zeroCells, hnl, q2, ← Nat.add_mul]
        congr 1
        omega
      · simp only [Array.size_append, List.size_toArray, List.length_map]; omega
      · have hlt : j < ((ox.cs.take (lx * i.size)).map (At.val V)).toArray.size := by simpa using (List.getElem?_eq_some_iff.1 hj).1
        rw [Array.getElem?_append_left hlt, List.getElem?_toArray, List.getElem?_map, hj]
        rfl
  · -- a slice of the call's own
    rename_i ids ls
    unfold appendSl at h
    simp only [lenR_eq, appR_eq] at h
    split at h
    case h_2 => cases h
    rename_i os hos
    split at h
    case isFalse => cases h
    rename_i hb
    simp only [Bool.and_eq_true] at hb
    obtain ⟨⟨⟨⟨⟨hb1, hb2⟩, hb3⟩, _⟩, hb5⟩, hb6⟩ := hb
    have e1 : os.t = e := Nat.eq_of_beq_eq_true hb1
    have e2 : os.sz = i.size := Nat.eq_of_beq_eq_true hb2
    have e3 : os.cs.length = ls * i.size := Nat.eq_of_beq_eq_true hb3
    have b1 : (ls + lx) * i.bytes ≤ 140737488355328 := Nat.le_of_ble_eq_true hb5
    have b2 : ls + lx ≤ 9223372036854775807 := Nat.le_of_ble_eq_true hb6
    cases h
    obtain ⟨hD, hoson, hat⟩ := hm.ob ids os hos
    obtain ⟨cur, hc1, hc2, hc3, hc4, hc5⟩ := hat.ex
    have hson : ∀ y ∈ os.cs ++ ox.cs.take (lx * i.size), y.on D := fun y hy => by
      rcases List.mem_append.1 hy with hy | hy
      · exact hoson y hy
      · exact hon y hy
    have heq : ({ t := e, sz := i.size, cs := os.cs ++ ox.cs.take (lx * i.size) } : Ob) = { t := os.t, sz := os.sz, cs := os.cs ++ ox.cs.take (lx * i.size) } := by rw [← e1, ← e2]
    by_cases hroom : ls + lx ≤ V.cap ids
    · have hcs : cur.size = V.cap ids * i.size := by rw [hc2, e2]
      have hfit : ls * i.size + ((ox.cs.take (lx * i.size)).map (At.val V)).length ≤ cur.size := by rw [hnl, hcs, ← Nat.add_mul]; exact Nat.mul_le_mul_right _ hroom
      have hc1' : w.heap[V.blk ids]? = some (.cells cur e (0, 0)) := by rw [← e1]; exact hc1
      have hr := run_append_room (P := X.C.P) w t o.type e i hu hi (V.blk ids) ls (V.cap ids) cur hc1' ⟨V.blk idx, 0, none⟩ lx (V.cap idx) _ hnl hnews h1c hroom hfit
      refine op_value hnd (run_append_op ho hs1 hx1 hr) ?_
      · have hsz : (cur.toList.take (ls * i.size) ++ (ox.cs.take (lx * i.size)).map (At.val V) ++ cur.toList.drop (ls * i.size + ((ox.cs.take (lx * i.size)).map (At.val V)).length)).toArray.size = cur.size := by
          simp only [List.size_toArray, List.length_append, List.length_take, List.length_drop, Array.length_toList]
          omega
        obtain ⟨r1, r2⟩ := room_sound hm ids os hos (os.cs ++ ox.cs.take (lx * i.size)) cur _ hc1 hsz (by rw [hsz, List.length_append, e3]; simpa using hfit) hson (fun j y hj => by
          rw [List.getElem?_toArray]
          have hlt : (cur.toList.take (ls * i.size)).length = ls * i.size := by
            rw [List.length_take, Array.length_toList]; omega
          rcases Nat.lt_or_ge j (ls * i.size) with hjl | hjl
          · rw [List.getElem?_append_left (by omega)] at hj
            rw [List.append_assoc, List.getElem?_append_left (by omega), List.getElem?_take, if_pos hjl]
            simpa using hc5 j y hj
          · rw [List.getElem?_append_right (by omega), e3] at hj
            rw [List.append_assoc, List.getElem?_append_right (by omega), hlt]
            have hlt2 : j - ls * i.size < ((ox.cs.take (lx * i.size)).map (At.val V)).length := by simpa using (List.getElem?_eq_some_iff.1 hj).1
            rw [List.getElem?_append_left hlt2, List.getElem?_map, hj]
            rfl)
        have := hk _ _ (by rw [heq]; exact r1) (by rw [heq]; exact r2) (Or.inr ⟨Nat.le_refl _, Nat.lt_succ_self _⟩)
        rw [show (SV.one (At.sl m.nxt (ls + lx))).val (V.ext m.nxt (V.blk ids) (V.cap ids)) = .slice (some ⟨V.blk ids, 0, none⟩) (ls + lx) (V.cap ids) by simp [SV.val, At.val, Va.ext_blk, Va.ext_cap]] at this
        exact this
    · have holds := take_cells (k := ls * i.size) hm hos
      rw [List.take_of_length_le (by omega)] at holds
      have hr := run_append_grow (P := X.C.P) w t o.type e i zv hu hi hz ⟨V.blk ids, 0, none⟩ ls (V.cap ids) (os.cs.map (At.val V)) (by rw [List.length_map, e3]) holds ⟨V.blk idx, 0, none⟩ lx (V.cap idx) _ hnl hnews (by omega) (by omega) (growslice_fits (by omega) b1)
      have hge := grownCap_ge w (ls + lx) (V.cap ids) e
      have hmx : grownCap w (ls + lx) (V.cap ids) e ≤ maxLen := grownCap_le_maxLen w (ls + lx) (V.cap ids) e (by unfold maxLen; omega)
      refine op_value hnd (run_append_op ho hs1 hx1 hr) ?_
      · obtain ⟨d1, d2⟩ := die_sound hm ids hD
        obtain ⟨r1, r2⟩ := new_sound (w0 := w.drew) d2 rfl rfl rfl rfl { t := e, sz := i.size, cs := os.cs ++ ox.cs.take (lx * i.size) } (grownCap w (ls + lx) (V.cap ids) e)
          ((os.cs.map (At.val V)).toArray ++ ((ox.cs.take (lx * i.size)).map (At.val V)).toArray ++ Builtin.zeroCells zv.cells (grownCap w (ls + lx) (V.cap ids) e - (ls + lx)))
          (by
            simp only [Array.size_append, List.size_toArray, size_zeroCells, hnl, List.length_map, e3, q2, ← Nat.add_mul]
            congr 1
            omega) hmx (by simp only [Array.size_append, List.size_toArray, List.length_map, List.length_append]; omega) hson (fun j y hj => by
            have hlt : j < ((os.cs.map (At.val V)).toArray ++ ((ox.cs.take (lx * i.size)).map (At.val V)).toArray).size := by
              have := (List.getElem?_eq_some_iff.1 hj).1
              simpa using this
            rw [Array.getElem?_append_left hlt]
            rw [show (os.cs.map (At.val V)).toArray ++ ((ox.cs.take (lx * i.size)).map (At.val V)).toArray = ((os.cs ++ ox.cs.take (lx * i.size)).map (At.val V)).toArray by simp]
            rw [List.getElem?_toArray, List.getElem?_map, hj]
            rfl) (fun h => by cases h)
        have st : StepM D V w m _ _ _ := d1.trans (m1 := m.die ids) (by rw [show (m.die ids).nxt = m.nxt from rfl, Dn_self]; exact r1) (fun i hi => .inl (d2.mlt i hi))
        have := hk _ _ st r2 (Or.inr ⟨Nat.le_refl _, Nat.lt_succ_self _⟩)
        rw [show (SV.one (At.sl m.nxt (ls + lx))).val (V.ext (m.die ids).nxt w.heap.size (grownCap w (ls + lx) (V.cap ids) e)) = .slice (some ⟨w.heap.size, 0, none⟩) (ls + lx) (grownCap w (ls + lx) (V.cap ids) e) by
          simp only [SV.val, At.val]; rw [show m.nxt = (m.die ids).nxt from rfl, Va.ext_blk, Va.ext_cap]] at this
        exact this
  · cases h
end
end Go.Proofs.YtnkdpcalgllnbaaDoor.Sy
