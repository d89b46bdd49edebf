/-
  strings.SplitSeq's iterator, walked: the words of a text, one a round.
-/
import Derived.RangeFuncNested
import Derived.RangeFuncBound
import Derived.RangeFuncCalls
import Derived.RangeFuncLeaves
import Derived.Shelf.Abstract
import Derived.Shelf.RegionOpen
import Derived.WalkKit
import Derived.OwnWalkIn
import Derived.TacticsInMore
import Derived.LoopNIn
import Derived.LoopIn
import Derived.Lib.Hide
import Derived.Test.YtnkdpcalgllnbaaDoorNaI
namespace Go.Proofs.YtnkdpcalgllnbaaDoor.Na
open Go Go.RowKit Go.Shelf Go.Proofs.YtnkdpcalgllnbaaDoor

/-- A text's words: what stands between the blanks. -/
inductive Sp : List UInt8 → List (List UInt8) → Prop where
  | last {t : List UInt8} (h : Lib.indexByte t 32 = -1) : Sp t [t]
  | more {u r : List UInt8} {ws : List (List UInt8)} (h : Lib.indexByte (u ++ 32 :: r) 32 = u.length) (hr : Sp r ws) : Sp (u ++ 32 :: r) (u :: ws)

/-- What the block of the text holds. -/
def txtAt (b : Nat) (W : World) : Nat := match W.cell? ⟨b, 0, none⟩ with
  | some (.string s) => s.size
  | _ => 0

/-- The three boxes lie as they lay. -/
def KB (Bs Bp Bv : Nat) (W W' : World) : Prop := W'.heap[Bs]? = W.heap[Bs]? ∧ W'.heap[Bp]? = W.heap[Bp]? ∧ W'.heap[Bv]? = W.heap[Bv]?

def Boxes (Bs Bp Bv : Nat) (s : ByteArray) (W : World) : Prop :=
  W.heap[Bs]? = some (.cells #[.string s] 9 (0, 0)) ∧ W.heap[Bp]? = some (.cells #[.string ⟨#[32]⟩] 9 (0, 0)) ∧ W.heap[Bv]? = some (.cells #[.int .i64 0] 3 (0, 0))
theorem Boxes.kept {Bs Bp Bv : Nat} {s : ByteArray} {W W' : World} (h : Boxes Bs Bp Bv s W) (k : KB Bs Bp Bv W W') : Boxes Bs Bp Bv s W' := ⟨k.1.trans h.1, k.2.1.trans h.2.1, k.2.2.trans h.2.2⟩

theorem set_same {w : World} {g i : Nat} {cur : Array Value} {t : Nat} (u : Value) (h : w.heap[g]? = some (.cells cur t (0, 0))) : (w.setCell ⟨g, i, none⟩ u).heap[g]? = some (.cells (cur.setIfInBounds i u) t (0, 0)) := by
  simp [World.setCell, Array.getElem?_modify, h]
set_option maxRecDepth 100000 in
set_option maxHeartbeats 4000000 in
theorem iter35 (F : Fence) (n : Nat) (h35 : F.fn 35) (h37 : F.fn 37) (hro : F.round = none) (hn : 1 ≤ n) (hIx : ∀ (s : ByteArray) (c : UInt8) (w : World), CallsIn F (n - 1) Tryd.prog 37 #[.string s, .string ⟨#[c]⟩] w fun e w' => e = .returned (.int .i64 (Lib.indexByte s.data.toList c)) ∧ w' = w) (l Bs Bp Bv : Nat) (J : Nat → World → Prop) (Jx : World → Prop) (ws : List (List UInt8))
    (hJ : ∀ k W v, J k W → J k (W.setCell ⟨Bs, 0, none⟩ v))
    (hY : ∀ k (x : List UInt8) W, ws[k]? = some x → J k W → YieldAt F (n - 1) Tryd.prog l #[.string ⟨x.toArray⟩] W fun e W' => (e = .returned (.bool true) ∧ J (k + 1) W' ∧ KB Bs Bp Bv W W') ∨ (e = .returned (.bool false) ∧ Jx W'))
    (t0 : List UInt8) (hlen : t0.length ≤ 1000000) (hs : Sp t0 ws) (W : World) (hB : Boxes Bs Bp Bv ⟨t0.toArray⟩ W) (h1 : Bs ≠ Bp) (h2 : Bs ≠ Bv) (h0 : J 0 W) :
    CallsIn F n Tryd.prog 35 #[.func (.yield l) #[] #[], .pointer (some ⟨Bp, 0, none⟩), .pointer (some ⟨Bs, 0, none⟩), .pointer (some ⟨Bv, 0, none⟩)] W fun e W' => (∃ v, e = .returned v) ∧ (J ws.length W' ∨ Jx W') := by
  refine callsIn_of_wp Tryd.func35 rfl h35 ?_ hro
  simp only [Tryd.ntmps35, List.size_toArray, List.length_cons, List.length_nil, Nat.reduceAdd, Nat.reduceSub, Array.replicate_succ, Array.replicate_zero, List.push_toArray, List.append_toArray, List.nil_append, List.cons_append]
  have c2 : W.cell? ⟨Bp, 0, none⟩ = some (.string ⟨#[32]⟩) := by simp [World.cell?, hB.2.1]
  gi_wp2
  gi_loopw [7] (fun _ wr => ∃ (k : Nat) (t : List UInt8), t.length ≤ 1000000 ∧ Hid (J k wr) ∧ Hid (Sp t (ws.drop k)) ∧ Boxes Bs Bp Bv ⟨t.toArray⟩ wr) (fun _ wr => txtAt Bs wr)
  case atStart => exact ⟨0, t0, hlen, Lib.hid h0, Lib.hid hs, hB⟩
  case round =>
    obtain ⟨k, t, hlt, hj, hsp, hb⟩ := hrel
    have c1 : wr.cell? ⟨Bs, 0, none⟩ = some (.string ⟨t.toArray⟩) := by simp [World.cell?, hb.1]
    have c2 : wr.cell? ⟨Bp, 0, none⟩ = some (.string ⟨#[32]⟩) := by simp [World.cell?, hb.2.1]
    have c3 : wr.cell? ⟨Bv, 0, none⟩ = some (.int .i64 0) := by simp [World.cell?, hb.2.2]
    have f1 : wr.frozen? ⟨Bs, 0, none⟩ = false := by simp [World.frozen?, hb.1]
    have hx := hIx ⟨t.toArray⟩ 32 wr
    cases hw : ws.drop k with
    | nil =>
      rw [hw] at hsp
      cases hsp.out
    | cons x rest =>
      have hk : ws[k]? = some x := by
        have := congrArg (fun l : List (List UInt8) => l[0]?) hw
        simpa [List.getElem?_drop] using this
      have hw' : ws.drop (k + 1) = rest := by
        have := congrArg List.tail hw
        simpa [List.tail_drop] using this
      obtain ⟨fn, tmps, assign, body, hy, hR⟩ := hY k x wr hk hj.out
      rw [hw] at hsp
      have HK := Lib.hid (And.intro hw hw')
      clear hw hw' hk
      have hcase := hsp.out
      clear hsp
      cases hcase with
      | last hi =>
        rw [hi] at hx
        gi_wp2_with (gi_at_call 37; refine hx.mono ?_; rintro e w' ⟨rfl, rfl⟩)
        refine hR.mono ?_
        have hend : k + 1 = ws.length := by
          have h3 := congrArg List.length HK.out.1
          simp at h3
          omega
        rintro e W3 (⟨rfl, hJ3, hk3⟩ | ⟨rfl, hJx3⟩)
        · gi_wp2
          go_end0
          exact ⟨⟨_, rfl⟩, .inl (by rw [← hend]; exact hJ3)⟩
        · gi_wp2
          go_end0
          exact ⟨⟨_, rfl⟩, .inr hJx3⟩
      | more hi hr =>
        rename_i r
        rw [hi] at hx
        have hsz : (⟨(x ++ 32 :: r).toArray⟩ : ByteArray).size = x.length + (r.length + 1) := by simp [ByteArray.size]
        have he1 : (⟨(x ++ 32 :: r).toArray⟩ : ByteArray).extract 0 x.length = ⟨x.toArray⟩ := by
          apply ByteArray.ext
          simp
        have he2 : (⟨(x ++ 32 :: r).toArray⟩ : ByteArray).extract (x.length + 1) (x.length + (r.length + 1)) = ⟨r.toArray⟩ := by
          apply ByteArray.ext
          simp
          apply List.take_of_length_le
          omega
        have hl2 : x.length + (r.length + 1) ≤ 1000000 := by simpa using hlt
        have HI := Lib.hid hi
        have HR := Lib.hid hr
        have HL : Hid (r.length ≤ 1000000) := Lib.hid (by omega)
        clear hi hlt hr
        generalize hsd : (⟨(x ++ 32 :: r).toArray⟩ : ByteArray) = s at *
        have HS : Hid (s.size = x.length + (r.length + 1)) := Lib.hid hsz
        have k0 : (0 : Int) ≤ (x.length : Int) := by omega
        have k1 : ¬ (x.length : Int) < 0 := by omega
        have k2 : (x.length : Int) ≤ (s.size : Int) := by omega
        have k3 : (x.length : Int) + 1 ≤ (s.size : Int) := by omega
        have k4 : (s.size : Int) ≤ 1000000 := by omega
        have k5 : (x.length : Int) ≤ 1000000 := by omega
        have k6 : x.length ≤ s.size := by omega
        have k7 : x.length + 1 ≤ s.size := by omega
        gi_wp2_with (gi_at_call 37; refine hx.mono ?_; rintro e w' ⟨rfl, rfl⟩)
        refine hR.mono ?_
        rintro e W3 (⟨rfl, hJ3, hk3⟩ | ⟨rfl, hJx3⟩)
        · have hb3 := hb.kept hk3
          have c1' : W3.cell? ⟨Bs, 0, none⟩ = some (.string s) := by simp [World.cell?, hb3.1]
          have c2' : W3.cell? ⟨Bp, 0, none⟩ = some (.string ⟨#[32]⟩) := by simp [World.cell?, hb3.2.1]
          have f1' : W3.frozen? ⟨Bs, 0, none⟩ = false := by simp [World.frozen?, hb3.1]
          have hw0 : w'.cell? ⟨Bs, 0, none⟩ = some (.string s) := c1
          clear c1 c2 c3 f1 hb
          gi_wp2
          obtain ⟨g1, g2, g3⟩ := hb3
          have hbx : Boxes Bs Bp Bv ⟨r.toArray⟩ (W3.setCell ⟨Bs, 0, none⟩ (.string ⟨r.toArray⟩)) := by
            refine ⟨?_, ?_, ?_⟩
            · have := set_same (i := 0) (.string ⟨r.toArray⟩) g1
              simpa using this
            · rw [Below.heap_setCell W3 _ _ Bp (fun e => h1 e.symm)]; exact g2
            · rw [Below.heap_setCell W3 _ _ Bv (fun e => h2 e.symm)]; exact g3
          refine ⟨⟨k + 1, r, HL.out, Lib.hid (hJ _ _ _ hJ3), Lib.hid (by rw [HK.out.2]; exact HR.out), hbx⟩, ?_⟩
          have t1 : txtAt Bs (W3.setCell ⟨Bs, 0, none⟩ (.string ⟨r.toArray⟩)) = r.length := by
            unfold txtAt
            rw [show (W3.setCell ⟨Bs, 0, none⟩ (.string ⟨r.toArray⟩)).cell? ⟨Bs, 0, none⟩ = some (.string ⟨r.toArray⟩) by simp [World.cell?, hbx.1]]
            simp [ByteArray.size]
          have t2 : txtAt Bs w' = s.size := by
            unfold txtAt
            rw [hw0]
          rw [t1, t2, HS.out]
          omega
        · gi_wp2
          refine bodyPost_ret (results_none rfl _ _ _) rfl ?_
          exact ⟨⟨_, rfl⟩, .inr hJx3⟩
end Go.Proofs.YtnkdpcalgllnbaaDoor.Na
