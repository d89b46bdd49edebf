/-
  The symbolic run: each operation does what the run says (memory; calls).
-/
import Derived.Test.YtnkdpcalgllnbaaDoorSyC
namespace Go.Proofs.YtnkdpcalgllnbaaDoor.Sy
open Go Go.RowKit

section
variable {P : Program} {w : World}
theorem run_alloc_ {t : TypeId} {i : TypeInfo} {z : Value} (hi : P.info? t = some i) (hz : i.zero = some z) :
    (Instr.alloc t true (.tuple #[])).run P w = .ok (.pointer (some ⟨w.heap.size, 0, none⟩)) (w.alloc (.cells z.cells t)) := by
  simp [Instr.alloc, zeroValue, typeInfo, hi, hz, newVar, newRow]
theorem run_box_ {t : TypeId} {v : Value} : (Instr.box t v).run P w = .ok (.pointer (some ⟨w.heap.size, 0, none⟩)) (w.alloc (.cells v.cells t)) := by
  simp [Instr.box, newVar, newRow]
theorem cell_at {b j : Nat} {cs : Array Value} {t : TypeId} (hg : w.heap[b]? = some (.cells cs t (0, 0))) : w.cell? ⟨b, j, none⟩ = cs[j]? := cell_of_row w b j cs t (0, 0) hg
end

section
variable {X : Ctx} {D : Nat → Prop} {V : Va} {w : World} {m : Mem} {fr : Frm} {a : Act} {o : Oper} {ro : Option Nat} {n : Nat} {K : Act → World → Prop} {Q : Exit → Act → World → Prop} {s : SV} {m' : Mem}

theorem run_isAgg {P : Program} {t : TypeId} {d : TypeDesc} (h : P.underlying t = some d) (w : World) : (isAgg t).run P w = .ok (aggD d) w := by
  unfold isAgg
  rw [Sem.run_bind, run_underlying h w]
  cases d <;> rfl

theorem load_sound {t id off : Nat} (h : loadAtS X.C m t id off = some s) (hm : RelM D V m w) : (loadVar t ⟨V.blk id, off, none⟩).run X.C.P w = .ok (s.val V) w ∧ s.on D := by
  unfold loadAtS at h
  simp only [lenR_eq, takeR_eq, dropR_eq] at h
  split at h
  · cases h
  · rename_i ob ho
    obtain ⟨_, hon, hob⟩ := hm.ob id ob ho
    obtain ⟨cur, h1, _, _, _, h5⟩ := hob.ex
    split at h
    · rename_i d i hu hi
      split at h
      · rename_i hd
        split at h
        · rename_i hl
          cases h
          have hl' := Nat.eq_of_beq_eq_true hl
          refine ⟨?_, fun x hx => hon x (List.mem_of_mem_drop (List.mem_of_mem_take hx))⟩
          have hc := run_loadCells_list (P := X.C.P) w ⟨V.blk id, off, none⟩ (((ob.cs.drop off).take i.size).map (At.val V)) (fun j v hv => by
            rw [Addr.add_lit, cell_at h1]
            rw [List.getElem?_map, Option.map_eq_some_iff] at hv
            obtain ⟨x, hx, rfl⟩ := hv
            rw [List.getElem?_take] at hx
            split at hx
            · rw [List.getElem?_drop] at hx; exact h5 _ x hx
            · cases hx)
          rw [List.length_map, hl'] at hc
          simp [loadVar, run_isAgg hu, hd, sizeOf, typeInfo, hi, hc, SV.val]
        · cases h
      · rename_i hd
        split at h
        · rename_i x rest hx
          cases h
          have hx0 : ob.cs[off]? = some x := by
            have := congrArg (fun l : List At => l[0]?) hx
            simpa [List.getElem?_drop] using this
          refine ⟨?_, hon x (List.mem_of_getElem? hx0)⟩
          have hcell : w.cell? ⟨V.blk id, off, none⟩ = some (x.val V) := by rw [cell_at h1]; exact h5 _ x hx0
          simp [loadVar, run_isAgg hu, hd, load, Sem.run, hcell, SV.val]
        · cases h
    · cases h

/-- A new object out of what is known. -/
theorem new_next (hm : RelM D V m w) {w0 : World} (hh : w0.heap = w.heap) (h1 : w0.os = w.os) (h2 : w0.tape = w.tape) (h3 : w0.output = w.output) (ob : Ob) (cap : Nat) (cur : Array Value) (mk : Nat → At)
    (hc : cur.size = cap * ob.sz) (hmx : cap ≤ maxLen) (hl : ob.cs.length ≤ cur.size) (hon : ∀ x ∈ ob.cs, x.on D) (hv : ∀ (j : Nat) (x : At), ob.cs[j]? = some x → cur[j]? = some (x.val V)) (hfl : ob.full = true → ob.cs.length = cap * ob.sz) (hmk : (mk m.nxt).on (· = m.nxt)) {v : Value} (he : (mk m.nxt).val (V.ext m.nxt w.heap.size cap) = v)
    {d : Option Nat} (hk : Next_ D V w m (.one (mk m.nxt)) (m.new ob) a d K) : K (a.put d v) (w0.alloc (.cells cur ob.t)) := by
  obtain ⟨hs, hr⟩ := new_sound hm hh h1 h2 h3 ob cap cur hc hmx hl hon hv hfl
  have := hk _ _ hs hr (At.on_mono (fun i hi => .inr ⟨Nat.le_of_eq hi.symm, by simp only [Mem.new]; omega⟩) hmk)
  rw [← he]
  exact this

theorem maxLen_pos : 1 ≤ maxLen := by unfold maxLen; omega

theorem alloc_sound {t : Nat} {i : TypeInfo} {z : Value} (ho : o.op = .alloc t) (hi : X.C.P.info? t = some i) (hz : i.zero = some z) (hm : RelM D V m w)
    (hk : Next_ D V w m (.one (.ptr m.nxt 0)) (m.new { t := t, sz := (z.cells.toList.map At.lit).length, cs := z.cells.toList.map At.lit }) a o.dst K) : o.wpIn (Fw ro) n X.C.P a w K Q := by
  refine op_value (v := .pointer (some ⟨w.heap.size, 0, none⟩)) (w' := w.alloc (.cells z.cells t)) (fun c e => by rw [ho] at e; cases e) (by unfold execOp; simp only [ho, Sem.run_bind, run_alloc_ hi hz]; rfl) ?_
  refine new_next (w0 := w) hm rfl rfl rfl rfl { t := t, sz := (z.cells.toList.map At.lit).length, cs := z.cells.toList.map At.lit } 1 z.cells (fun k => .ptr k 0) (by simp) maxLen_pos (by simp) (fun x hx => ?_) (fun j x hj => ?_) (fun h => by cases h) rfl (by simp [At.val, Va.ext_blk]) hk
  · simp only [List.mem_map] at hx; obtain ⟨_, _, rfl⟩ := hx; trivial
  · simp only [List.getElem?_map, Option.map_eq_some_iff] at hj
    obtain ⟨u, hu, rfl⟩ := hj
    simpa [At.val] using hu

theorem box_sound (hX : XOK X) (hg : Good X V) {t : Nat} {x : Operand} {l : List At} (ho : o.op = .box t x) (hx : (fr.ev x).bind SV.cells = some l) (hm : RelM D V m w) (hf : FrR D V fr a)
    (hk : Next_ D V w m (.one (.ptr m.nxt 0)) (m.new { t := t, sz := l.length, cs := l, full := true }) a o.dst K) : o.wpIn (Fw ro) n X.C.P a w K Q := by
  cases he : fr.ev x with
  | none => simp [he] at hx
  | some u =>
    simp only [he, Option.bind_some] at hx
    obtain ⟨h1, h2⟩ := hf.ev he
    obtain ⟨h3, _, _⟩ := SV.cells_val (hg.symOK hX) hx
    refine op_value (v := .pointer (some ⟨w.heap.size, 0, none⟩)) (w' := w.alloc (.cells (u.val V).cells t)) (fun c e => by rw [ho] at e; cases e) (by unfold execOp; simp only [ho, Sem.run_bind, h1, run_box_]; rfl) ?_
    rw [h3]
    refine new_next (w0 := w) hm rfl rfl rfl rfl { t := t, sz := l.length, cs := l, full := true } 1 (l.map (At.val V)).toArray (fun k => .ptr k 0) (by simp) maxLen_pos (by simp) (SV.cells_on hx h2) (fun j y hj => ?_) (fun _ => by simp) rfl (by simp [At.val, Va.ext_blk]) hk
    simp only [List.getElem?_toArray, List.getElem?_map, hj, Option.map_some]

theorem elemOf_spec {t e : Nat} {i : TypeInfo} {z : List At} (h : elemOf X.C.P t = some (e, i, z)) : X.C.P.underlying t = some (.slice e) ∧ X.C.P.info? e = some i ∧ ∃ zv, i.zero = some zv ∧ z = zv.cells.toList.map .lit := by
  unfold elemOf at h
  split at h
  · rename_i e' hu
    split at h
    · rename_i i' hi
      split at h
      · rename_i zv hz
        cases h
        exact ⟨hu, hi, zv, hz, rfl⟩
      · cases h
    · cases h
  · cases h

theorem lits_val (V : Va) (l : List Value) : (l.map At.lit).map (At.val V) = l := by
  rw [List.map_map]
  exact List.map_id l

theorem buildSlice_sound (hX : XOK X) (hg : Good X V) {t len : Nat} {ps : Array (Nat × Operand)} (ho : o.op = .buildSlice t len ps) {e : Nat} {i : TypeInfo} {z : List At} {qs : List (Nat × SV)} {l : List At}
    (he : elemOf X.C.P t = some (e, i, z)) (hp : parts fr ps.toList = some qs) (h0 : 0 < len * i.size) (hbig : len * i.size ≤ 16777216) (hz : z.length = i.size) (hfl : fillS (fun k => some (k * i.size, i.size)) (zerosS z len) qs = some l)
    (hm : RelM D V m w) (hf : FrR D V fr a) (hk : Next_ D V w m (.one (.sl m.nxt len)) (m.new { t := e, sz := i.size, cs := l, full := true }) a o.dst K) : o.wpIn (Fw ro) n X.C.P a w K Q := by
  obtain ⟨hu, hi, zv, hzv, rfl⟩ := elemOf_spec he
  obtain ⟨hq, hqon⟩ := parts_sound hf _ _ hp
  obtain ⟨h1, h2, h3⟩ := fill_sound (hg.symOK hX) _ qs _ l hfl (zeros_on _ (fun x hx => by simp only [List.mem_map] at hx; obtain ⟨_, _, rfl⟩ := hx; trivial) len) hqon
  have hzs : zv.cells.size = i.size := by simpa using hz
  rw [zeros_val] at h1
  simp only [List.length_map, Array.length_toList, lits_val, Array.toArray_toList, hzs] at h1
  have hrun := run_buildSlice (P := X.C.P) w t e len (ps.map fun p => (p.1, a.eval p.2)) (l.map (At.val V)).toArray i zv hu hi hzv (by omega) (by omega) (by
    rw [show (ps.map fun p => (p.1, a.eval p.2)).toList = ps.toList.map (fun p => (p.1, a.eval p.2)) by simp, hq, hzs]
    exact h1)
  refine op_value (v := .slice (some ⟨w.heap.size, 0, none⟩) len len) (w' := w.alloc (.cells (l.map (At.val V)).toArray e)) (fun c e => by rw [ho] at e; cases e) (by unfold execOp; simp only [ho, Sem.run_bind, hrun]; rfl) ?_
  have hlen : l.length = len * i.size := by rw [h3, zeros_length, hz]
  have hlm : len ≤ maxLen := by
    rcases Nat.eq_zero_or_pos i.size with h | h
    · rw [h] at h0; omega
    · have := Nat.le_mul_of_pos_right len h
      unfold maxLen
      omega
  refine new_next (w0 := w) hm rfl rfl rfl rfl { t := e, sz := i.size, cs := l, full := true } len (l.map (At.val V)).toArray (fun k => .sl k len) (by simp [hlen]) hlm (by simp) h2 (fun j y hj => ?_) (fun _ => hlen) rfl (by simp [At.val, Va.ext_blk, Va.ext_cap]) hk
  simp only [List.getElem?_toArray, List.getElem?_map, hj, Option.map_some]

theorem build_sound (hX : XOK X) (hg : Good X V) {t : Nat} {ps : Array (Nat × Operand)} (ho : o.op = .build t ps) {qs : List (Nat × SV)} {l z : List At} (hp : parts fr ps.toList = some qs) (place : Nat → Option (Nat × Nat))
    (hz : ∀ x ∈ z, ∃ v, x = At.lit v) (hfl : fillS place z qs = some l) (hb : ∀ vs : List (Nat × Value), X.C.P.built t vs = Instr.fill place (z.map (At.val V)).toArray vs)
    (hm : RelM D V m w) (hf : FrR D V fr a) (hk : Next_ D V w m (.agg l) m a o.dst K) : o.wpIn (Fw ro) n X.C.P a w K Q := by
  obtain ⟨hq, hqon⟩ := parts_sound hf _ _ hp
  obtain ⟨h1, h2, _⟩ := fill_sound (hg.symOK hX) place qs z l hfl (fun x hx => by obtain ⟨v, rfl⟩ := hz x hx; trivial) hqon
  have hrun := run_build (P := X.C.P) w t (ps.map fun p => (p.1, a.eval p.2)) (l.map (At.val V)).toArray (by
    rw [show (ps.map fun p => (p.1, a.eval p.2)).toList = ps.toList.map (fun p => (p.1, a.eval p.2)) by simp, hq, hb]
    exact h1)
  exact op_value (v := (SV.agg l).val V) (w' := w) (fun c e => by rw [ho] at e; cases e) (by unfold execOp; simp only [ho, Sem.run_bind, hrun]; rfl) (next_stay hm h2 hk)

theorem store_sound (hX : XOK X) (hg : Good X V) {t : Nat} {x y : Operand} (ho : o.op = .store t x y) {id off : Nat} {l : List At} {i : TypeInfo} {ob : Ob} (hx : fr.ev x = some (.one (.ptr id off))) (hy : (fr.ev y).bind SV.cells = some l)
    (hi : X.C.P.info? t = some i) (hob : m.H.get id = some ob) (hl : l.length = i.size) (hle : off + l.length ≤ ob.cs.length) (hm : RelM D V m w) (hf : FrR D V fr a)
    (hk : Next_ D V w m (.tup []) (m.set id { ob with cs := ob.cs.take off ++ l ++ ob.cs.drop (off + l.length) }) a o.dst K) : o.wpIn (Fw ro) n X.C.P a w K Q := by
  cases he : fr.ev y with
  | none => simp [he] at hy
  | some u =>
    simp only [he, Option.bind_some] at hy
    obtain ⟨h1, h2⟩ := hf.ev he
    obtain ⟨h3, _, h4⟩ := SV.cells_val (hg.symOK hX) hy
    obtain ⟨h5, _⟩ := hf.ev hx
    obtain ⟨_, hon, hat⟩ := hm.ob id ob hob
    obtain ⟨cur, hc1, hc2, hc3, hc4, hc5⟩ := hat.ex
    have hst := run_storeCells_at X.C.P (V.blk id) off ob.t (l.map (At.val V)) 0 cur w hc1 (by simp; omega) h4
    have hrun : (Instr.storeAt t (a.eval x) (a.eval y)).run X.C.P w = .ok () (w.setRow (V.blk id) (cur.toList.take (off + 0) ++ l.map (At.val V) ++ cur.toList.drop (off + 0 + (l.map (At.val V)).length)).toArray) := by
      rw [h5, h1]
      generalize u.val V = uv at h3 ⊢
      simp only [SV.val, At.val]
      simp [Instr.storeAt, Instr.sureAddr, storeVar, h3, sizeOf, typeInfo, hi, hl]
      simpa [hl] using hst
    have hsz : (cur.toList.take (off + 0) ++ l.map (At.val V) ++ cur.toList.drop (off + 0 + (l.map (At.val V)).length)).toArray.size = cur.size := by
      simp; omega
    obtain ⟨r1, r2⟩ := set_sound hm id ob hob (ob.cs.take off ++ l ++ ob.cs.drop (off + l.length)) cur _ hc1 hsz (by rw [hsz]; simp; omega) (fun z hz => by
        rcases List.mem_append.1 hz with hz | hz
        · rcases List.mem_append.1 hz with hz | hz
          · exact hon z (List.mem_of_mem_take hz)
          · exact SV.cells_on hy h2 z hz
        · exact hon z (List.mem_of_mem_drop hz)) (fun j z hz => by
        simp only [Nat.add_zero, List.length_map, List.getElem?_toArray]
        have hlt : (cur.toList.take off).length = off := by simp; omega
        have hlt' : (ob.cs.take off).length = off := by simp; omega
        rcases Nat.lt_or_ge j off with hj | hj
        · rw [List.append_assoc, List.getElem?_append_left (by omega), List.getElem?_take, if_pos hj] at hz ⊢
          simpa using hc5 j z hz
        · rw [List.append_assoc, List.getElem?_append_right (by omega), hlt'] at hz
          rw [List.append_assoc, List.getElem?_append_right (by omega), hlt]
          rcases Nat.lt_or_ge (j - off) l.length with hj2 | hj2
          · rw [List.getElem?_append_left hj2] at hz
            rw [List.getElem?_append_left (by simpa using hj2), List.getElem?_map, hz]
            rfl
          · rw [List.getElem?_append_right hj2, List.getElem?_drop] at hz
            rw [List.getElem?_append_right (by simpa using hj2), List.getElem?_drop, List.length_map]
            simpa using hc5 _ z hz) (by simp; omega)
    refine op_skip (w' := w.setRow (V.blk id) _) (fun c e => by rw [ho] at e; cases e) (by unfold execOp; simp only [ho, Sem.run_bind, hrun]; rfl) ?_
    exact hk V _ r1 (by rw [show (m.set id { ob with cs := ob.cs.take off ++ l ++ ob.cs.drop (off + l.length) }).nxt = m.nxt from rfl, Dn_self]; exact r2) (fun a ha => by simp at ha)

theorem fieldAddr_sound {t f : Nat} {x : Operand} (ho : o.op = .fieldAddr t x f) {id off : Nat} {fields : Array Field} {fd : Field} {i : TypeInfo} (hx : fr.ev x = some (.one (.ptr id off))) (hu : X.C.P.underlying t = some (.struct fields))
    (hfd : fields[f]? = some fd) (hi : X.C.P.info? fd.type = some i) (hs : i.size ≠ 0) (hm : RelM D V m w) (hf : FrR D V fr a) (hk : Next_ D V w m (.one (.ptr id (off + fd.offset))) m a o.dst K) : o.wpIn (Fw ro) n X.C.P a w K Q := by
  obtain ⟨h1, h2⟩ := hf.ev hx
  refine op_value (v := (SV.one (.ptr id (off + fd.offset))).val V) (w' := w) (fun c e => by rw [ho] at e; cases e) ?_ (next_stay hm h2 hk)
  unfold execOp
  simp only [ho, h1, SV.val, At.val]
  simp [Instr.fieldAt, run_underlying hu, hfd, Instr.sureAddr, fieldPlace, sizeOf, typeInfo, hi, hs, Addr.add_lit]

theorem indexAddr_slice_sound {t : Nat} {x ix : Operand} (ho : o.op = .indexAddr t x ix) {id len k : Nat} {q : IntKind} {e : Nat} {i : TypeInfo} (hx : fr.ev x = some (.one (.sl id len))) (hix : fr.evL ix = some (.int q (.ofNat k))) (hu : X.C.P.underlying t = some (.slice e))
    (hi : X.C.P.info? e = some i) (hlt : k < len) (hm : RelM D V m w) (hf : FrR D V fr a) (hk : Next_ D V w m (.one (.ptr id (k * i.size))) m a o.dst K) : o.wpIn (Fw ro) n X.C.P a w K Q := by
  obtain ⟨h1, h2⟩ := hf.ev hx
  have h3 := hf.evL hix
  refine op_value (v := (SV.one (.ptr id (k * i.size))).val V) (w' := w) (fun c e => by rw [ho] at e; cases e) ?_ (next_stay hm h2 hk)
  unfold execOp
  simp only [ho, h1, h3, SV.val, At.val]
  simp [Instr.indexAt, asIntOf, run_underlying hu, sizeOf, typeInfo, hi, hlt, Addr.add_lit]

theorem indexAddr_array_sound {t : Nat} {x ix : Operand} (ho : o.op = .indexAddr t x ix) {id off len k : Nat} {q : IntKind} {e : Nat} {i : TypeInfo} (hx : fr.ev x = some (.one (.ptr id off))) (hix : fr.evL ix = some (.int q (.ofNat k))) (hu : X.C.P.underlying t = some (.array len e))
    (hi : X.C.P.info? e = some i) (hlt : k < len) (hm : RelM D V m w) (hf : FrR D V fr a) (hk : Next_ D V w m (.one (.ptr id (off + k * i.size))) m a o.dst K) : o.wpIn (Fw ro) n X.C.P a w K Q := by
  obtain ⟨h1, h2⟩ := hf.ev hx
  have h3 := hf.evL hix
  refine op_value (v := (SV.one (.ptr id (off + k * i.size))).val V) (w' := w) (fun c e => by rw [ho] at e; cases e) ?_ (next_stay hm h2 hk)
  unfold execOp
  simp only [ho, h1, h3, SV.val, At.val]
  simp [Instr.indexAt, asIntOf, run_underlying hu, sizeOf, typeInfo, hi, hlt, Addr.add_lit, Instr.sureAddr]

theorem field_agg_sound {t f : Nat} {x : Operand} (ho : o.op = .field t x f) {l : List At} {fields : Array Field} {fd : Field} {i : TypeInfo} {d : TypeDesc} (hx : fr.ev x = some (.agg l)) (hu : X.C.P.underlying t = some (.struct fields))
    (hfd : fields[f]? = some fd) (hud : X.C.P.underlying fd.type = some d) (hd : aggD d = true) (hi : X.C.P.info? fd.type = some i) (hm : RelM D V m w) (hf : FrR D V fr a)
    (hk : Next_ D V w m (.agg ((l.drop fd.offset).take i.size)) m a o.dst K) : o.wpIn (Fw ro) n X.C.P a w K Q := by
  obtain ⟨h1, h2⟩ := hf.ev hx
  have hagg : (isAgg fd.type).run X.C.P w = .ok true w := by rw [run_isAgg hud, hd]
  refine op_value (v := (SV.agg ((l.drop fd.offset).take i.size)).val V) (w' := w) (fun c e => by rw [ho] at e; cases e) ?_ (next_stay hm (fun y hy => h2 y (List.mem_of_mem_drop (List.mem_of_mem_take hy))) hk)
  unfold execOp
  simp only [ho, h1, SV.val]
  simp [Instr.field, run_underlying hu, hfd, part, hagg, asAgg, sizeOf, typeInfo, hi]

theorem field_one_sound {t f : Nat} {x : Operand} (ho : o.op = .field t x f) {l : List At} {fields : Array Field} {fd : Field} {d : TypeDesc} {y : At} (hx : fr.ev x = some (.agg l)) (hu : X.C.P.underlying t = some (.struct fields))
    (hfd : fields[f]? = some fd) (hud : X.C.P.underlying fd.type = some d) (hd : aggD d = false) (hy : l[fd.offset]? = some y) (hm : RelM D V m w) (hf : FrR D V fr a)
    (hk : Next_ D V w m (.one y) m a o.dst K) : o.wpIn (Fw ro) n X.C.P a w K Q := by
  obtain ⟨h1, h2⟩ := hf.ev hx
  have hagg : (isAgg fd.type).run X.C.P w = .ok false w := by rw [run_isAgg hud, hd]
  refine op_value (v := (SV.one y).val V) (w' := w) (fun c e => by rw [ho] at e; cases e) ?_ (next_stay hm (h2 y (List.mem_of_getElem? hy)) hk)
  unfold execOp
  simp only [ho, h1, SV.val]
  simp [Instr.field, run_underlying hu, hfd, part, hagg, asAgg, hy]

theorem index_one_sound {t : Nat} {x ix : Operand} (ho : o.op = .index t x ix) {l : List At} {k len : Nat} {q : IntKind} {e : Nat} {i : TypeInfo} {d : TypeDesc} {y : At} (hx : fr.ev x = some (.agg l)) (hix : fr.evL ix = some (.int q (.ofNat k))) (hu : X.C.P.underlying t = some (.array len e))
    (hud : X.C.P.underlying e = some d) (hd : aggD d = false) (hi : X.C.P.info? e = some i) (hlt : k < len) (hy : l[k * i.size]? = some y) (hm : RelM D V m w) (hf : FrR D V fr a)
    (hk : Next_ D V w m (.one y) m a o.dst K) : o.wpIn (Fw ro) n X.C.P a w K Q := by
  obtain ⟨h1, h2⟩ := hf.ev hx
  have h3 := hf.evL hix
  have hagg : (isAgg e).run X.C.P w = .ok false w := by rw [run_isAgg hud, hd]
  refine op_value (v := (SV.one y).val V) (w' := w) (fun c e => by rw [ho] at e; cases e) ?_ (next_stay hm (h2 y (List.mem_of_getElem? hy)) hk)
  unfold execOp
  simp only [ho, h1, h3, SV.val]
  simp [Instr.index, run_underlying hu, part, hagg, asIntOf, sizeOf, typeInfo, hi, hlt, hy]

theorem slice_sound {t : Nat} {x h : Operand} (ho : o.op = .slice t x none (some h) none) {id k len : Nat} {q : IntKind} {ob : Ob} {e : Nat} {i : TypeInfo} (hx : fr.ev x = some (.one (.sl id len))) (hh : fr.evL h = some (.int q (.ofNat k))) (hob : m.H.get id = some ob) (hu : X.C.P.underlying t = some (.slice e)) (hi : X.C.P.info? e = some i)
    (hsz : 0 < ob.sz) (hle : k * ob.sz ≤ ob.cs.length) (hm : RelM D V m w) (hf : FrR D V fr a) (hk : Next_ D V w m (.one (.sl id k)) m a o.dst K) : o.wpIn (Fw ro) n X.C.P a w K Q := by
  obtain ⟨h1, h2⟩ := hf.ev hx
  have h3 := hf.evL hh
  obtain ⟨_, _, hat⟩ := hm.ob id ob hob
  obtain ⟨cur, _, hc2, _, hc4, _⟩ := hat.ex
  have hkc : k ≤ V.cap id := Nat.le_of_mul_le_mul_right (by omega) hsz
  refine op_value (v := (SV.one (.sl id k)).val V) (w' := w) (fun c e => by rw [ho] at e; cases e) ?_ (next_stay hm h2 hk)
  unfold execOp
  simp only [ho, h1, SV.val, At.val, Option.map_none, Option.map_some, h3]
  simp [Instr.sliceAt, Instr.slice, run_underlying hu, Instr.sliceBounds, Instr.sliceBound, asIntOf, hkc, sizeOf, typeInfo, hi, Addr.add_lit]

theorem eqSym_sound {t t' : Nat} {x y : Operand} (ho : o.op = .binOp .eql t x y t') {b c : Int} (hx : a.eval x = .int .i64 b) (hy : a.eval y = .int .i64 c) (hne : b ≠ c) (hm : RelM D V m w) (hk : Next_ D V w m (.one (.lit (.bool false))) m a o.dst K) : o.wpIn (Fw ro) n X.C.P a w K Q := by
  refine op_value (v := (SV.one (.lit (.bool false))).val V) (w' := w) (fun c e => by rw [ho] at e; cases e) ?_ (next_stay hm trivial hk)
  unfold execOp
  simp only [ho, hx, hy]
  simp [eqGuard, binOp, Op.intCmp, SV.val, At.val, hne]
end
end Go.Proofs.YtnkdpcalgllnbaaDoor.Sy
