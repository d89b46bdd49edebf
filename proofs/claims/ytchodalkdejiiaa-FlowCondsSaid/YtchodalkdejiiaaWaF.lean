/-
  Walks: FormsOf joined; OverInts, OverForms; Pick.
-/
import Derived.Test.YtchodalkdejiiaaWaE
namespace Go.Proofs.Ytchodalkdejiiaa.Wa
open Go Go.RowKit

theorem forms_of_none (w : World) (A : Option Addr) (c : Nat) (op : Int) : Calls Try.prog 20 #[.slice A 0 c, .int .i64 op] w (FormsP w []) := by
  go_enter Try.func20, Try.ntmps20
  go_wp2
  go_loop [5, 6] (fun v i => v = .slice none 0 0 ∧ i = .int .i64 0) (fun _ _ => 0)
  case atStart => exact ⟨rfl, rfl⟩
  case round =>
    obtain ⟨rfl, rfl⟩ := hrel
    go_wp2
    go_ret
    exact ⟨.slice none 0 0, rfl, ⟨none, 0, rfl, by simp, fun h => absurd h (by simp)⟩, .refl _ _⟩

theorem forms_of (w : World) (v : Value) (fs : List Fm) (op : Int) (hx : FormsAt w v fs) : Calls Try.prog 20 #[v, .int .i64 op] w (FormsP w (ofOp fs op)) := by
  obtain ⟨A, c, rfl, hn, hA⟩ := hx
  by_cases h0 : 0 < fs.length
  · obtain ⟨b, rfl, hb⟩ := hA h0
    exact forms_of_some w b c fs op hn hb
  · have e1 : fs = [] := List.eq_nil_of_length_eq_zero (by omega)
    subst e1
    exact forms_of_none w A c op

/-- Below B nothing has changed; no block's length, no element's type. -/
structure Kq (B : Nat) (w w' : World) : Prop where
  below : Below B w w'
  cells : ∀ (g : Nat) (cur : Array Value) (t : Nat), w.heap[g]? = some (.cells cur t (0, 0)) → ∃ cur', w'.heap[g]? = some (.cells cur' t (0, 0)) ∧ cur'.size = cur.size
theorem Kq.refl (B : Nat) (w : World) : Kq B w w := ⟨.refl _ _, fun _ cur _ h => ⟨cur, h, rfl⟩⟩
theorem Kq.trans {B : Nat} {a b c : World} (h : Kq B a b) (k : Kq B b c) : Kq B a c := ⟨h.below.trans k.below, fun g cur t hg => by
  obtain ⟨c1, h1, e1⟩ := h.cells g cur t hg
  obtain ⟨c2, h2, e2⟩ := k.cells g c1 t h1
  exact ⟨c2, h2, e2.trans e1⟩⟩
theorem set_same {w : World} {g i : Nat} {cur : Array Value} {t : Nat} (u : Value) (h : w.heap[g]? = some (.cells cur t (0, 0))) : (w.setCell ⟨g, i, none⟩ u).heap[g]? = some (.cells (cur.setIfInBounds i u) t (0, 0)) := by
  simp [World.setCell, Array.getElem?_modify, h]
theorem Kq.setCell {B : Nat} {a w : World} (h : Kq B a w) {g i : Nat} (hg : B ≤ g) (u : Value) : Kq B a (w.setCell ⟨g, i, none⟩ u) := by
  refine ⟨h.below.setCell hg u, fun k cur t hk => ?_⟩
  obtain ⟨c1, h1, e1⟩ := h.cells k cur t hk
  by_cases e : k = g
  · subst e
    exact ⟨_, set_same u h1, by simp [e1]⟩
  · exact ⟨c1, (Below.heap_setCell w ⟨g, i, none⟩ u k e).trans h1, e1⟩

/-- A slice of numbers that may be written. -/
def IW (w : World) (B : Nat) (v : Value) : Prop :=
  ∃ A c m, v = .slice A m c ∧ m ≤ 1000000 ∧ (0 < m → ∃ (g : Nat) (cur : Array Value), A = some ⟨g, 0, none⟩ ∧ B ≤ g ∧ w.heap[g]? = some (.cells cur 3 (0, 0)) ∧ m ≤ cur.size)
theorem IW.kept {w w' : World} {B : Nat} {v : Value} (h : IW w B v) (hk : Kq B w w') : IW w' B v := by
  obtain ⟨A, c, m, hv, hm, hA⟩ := h
  refine ⟨A, c, m, hv, hm, fun h0 => ?_⟩
  obtain ⟨g, cur, e, hB, hg, hs⟩ := hA h0
  obtain ⟨c1, h1, e1⟩ := hk.cells g cur 3 hg
  exact ⟨g, c1, e, hB, h1, by omega⟩

structure Ko (B : Nat) (w w' : World) : Prop where
  kq : Kq B w w'
  oth : ∀ (g : Nat) (cur : Array Value) (t : Nat), w.heap[g]? = some (.cells cur t (0, 0)) → t ≠ 3 → w'.heap[g]? = some (.cells cur t (0, 0))
theorem Ko.refl (B : Nat) (w : World) : Ko B w w := ⟨.refl _ _, fun _ _ _ h _ => h⟩
theorem Ko.setCell {B : Nat} {a w : World} (h : Ko B a w) {g i : Nat} (hg : B ≤ g) {cur : Array Value} (h3 : w.heap[g]? = some (.cells cur 3 (0, 0))) (u : Value) : Ko B a (w.setCell ⟨g, i, none⟩ u) := by
  refine ⟨h.kq.setCell hg u, fun k c t hk ht => ?_⟩
  have h1 := h.oth k c t hk ht
  have e : k ≠ g := by
    rintro rfl
    rw [h3] at h1
    injection h1 with h1
    injection h1 with _ h1
    exact ht h1.symm
  exact (Below.heap_setCell w ⟨g, i, none⟩ u k e).trans h1

def OvP (B : Nat) (w : World) (e : Ending) (w' : World) : Prop := e = .returned (.tuple #[]) ∧ Ko B w w'

theorem frozen_of {w : World} {g i : Nat} {cur : Array Value} {t : Nat} (h : w.heap[g]? = some (.cells cur t (0, 0))) : w.frozen? ⟨g, i, none⟩ = false := by
  simp [World.frozen?, h]

theorem over_ints_0 (w : World) (B : Nat) (A : Option Addr) (c : Nat) : Calls Try.prog 38 #[.slice A 0 c] w (OvP B w) := by
  go_enter Try.func38, Try.ntmps38
  go_wp2
  go_loop [2] (fun i => i = .int .i64 0) (fun _ => 0)
  case atStart => rfl
  case round =>
    subst hrel
    go_wp2
    simp [bodyPost, results, Try.results38, go_sem]
    exact ⟨rfl, .refl _ _⟩

theorem over_ints_some (w : World) (B g m c : Nat) (cur : Array Value) (hm : m ≤ 1000000) (hB : B ≤ g) (hg : w.heap[g]? = some (.cells cur 3 (0, 0))) (hs : m ≤ cur.size) :
    Calls Try.prog 38 #[.slice (some ⟨g, 0, none⟩) m c] w (OvP B w) := by
  have HG := Lib.hid hg
  have HS := Lib.hid hs
  have HB := Lib.hid hB
  clear hg hs hB
  go_enter Try.func38, Try.ntmps38
  go_wp2
  go_loopw [2] (fun i wr => ∃ k : Nat, k ≤ m ∧ i = .int .i64 k ∧ Hid (Ko B w wr)) (fun i _ => m - (intOf i).toNat)
  case atStart => exact ⟨0, Nat.zero_le _, rfl, Lib.hid (.refl _ _)⟩
  case round =>
    obtain ⟨k, hk, rfl, hq⟩ := hrel
    by_cases hlt : k < m
    · obtain ⟨c1, h1, e1⟩ := hq.out.kq.cells g cur 3 HG.out
      have hkc : k < c1.size := by have := HS.out; omega
      have hc : wr.cell? ⟨g, k, none⟩ = some c1[k] := by rw [cell_of_row wr g k c1 3 (0, 0) h1]; exact Array.getElem?_eq_getElem hkc
      have hf : wr.frozen? ⟨g, k, none⟩ = false := frozen_of h1
      have R := Lib.hid (hq.out.setCell (i := k) HB.out h1 (.int .i64 (-7)))
      have h0 : (0 : Int) ≤ (k : Int) := by omega
      have h2 : (k : Int) < (m : Int) := by omega
      clear h1 e1 hq
      go_wp2
      go_roundw
      case rel => exact ⟨k + 1, by omega, by go_num, R⟩
      case measure => simp [intOf]; omega
    · go_wp2
      simp [bodyPost, results, Try.results38, go_sem]
      exact ⟨rfl, hq.out⟩

theorem over_ints (w : World) (B : Nat) (v : Value) (h : IW w B v) : Calls Try.prog 38 #[v] w (OvP B w) := by
  obtain ⟨A, c, m, rfl, hm, hA⟩ := h
  by_cases h0 : 0 < m
  · obtain ⟨g, cur, rfl, hB, hg, hs⟩ := hA h0
    exact over_ints_some w B g m c cur hm hB hg hs
  · obtain rfl : m = 0 := by omega
    exact over_ints_0 w B A c

/-- A table of forms that may be written. -/
def FWs (w : World) (B b n : Nat) (cur : Array Value) : Prop :=
  B ≤ b ∧ w.heap[b]? = some (.cells cur 32 (0, 0)) ∧ n * 10 ≤ cur.size ∧ ∀ j, j < n → ∃ s t, cur[j * 10 + 1]? = some s ∧ cur[j * 10 + 2]? = some t ∧ IW w B s ∧ IW w B t
def FW (w : World) (B : Nat) (v : Value) : Prop :=
  ∃ A c n, v = .slice A n c ∧ n ≤ 1000000 ∧ (0 < n → ∃ (b : Nat) (cur : Array Value), A = some ⟨b, 0, none⟩ ∧ FWs w B b n cur)

/-- The table behind k rounds. -/
def FK (w : World) (B b k : Nat) (cur : Array Value) (wr : World) : Prop :=
  Kq B w wr ∧ ∃ cur', wr.heap[b]? = some (.cells cur' 32 (0, 0)) ∧ cur'.size = cur.size ∧ ∀ i, k * 10 ≤ i → cur'[i]? = cur[i]?

theorem FK.ko {w wr w1 : World} {B b k : Nat} {cur : Array Value} (h : FK w B b k cur wr) (hk : Ko B wr w1) : FK w B b k cur w1 := by
  obtain ⟨h1, c, h2, h3, h4⟩ := h
  exact ⟨h1.trans hk.kq, c, hk.oth b c 32 h2 (by decide), h3, h4⟩
theorem FK.cell {w wr : World} {B b k : Nat} {cur : Array Value} (h : FK w B b k cur wr) (i : Nat) (hi : k * 10 ≤ i) : wr.cell? ⟨b, i, none⟩ = cur[i]? := by
  obtain ⟨_, c, h2, _, h4⟩ := h
  rw [cell_of_row wr b i c 32 (0, 0) h2, h4 i hi]
theorem FK.frozen {w wr : World} {B b k : Nat} {cur : Array Value} (h : FK w B b k cur wr) (i : Nat) : wr.frozen? ⟨b, i, none⟩ = false := by
  obtain ⟨_, c, h2, _⟩ := h
  exact frozen_of h2
theorem FK.set1 {w wr : World} {B b k : Nat} {cur : Array Value} (h : FK w B b k cur wr) (hB : B ≤ b) {i : Nat} (hi : i < (k + 1) * 10) (u : Value) :
    Kq B w (wr.setCell ⟨b, i, none⟩ u) ∧ ∃ cur', (wr.setCell ⟨b, i, none⟩ u).heap[b]? = some (.cells cur' 32 (0, 0)) ∧ cur'.size = cur.size ∧ ∀ i, (k + 1) * 10 ≤ i → cur'[i]? = cur[i]? := by
  obtain ⟨h1, c, h2, h3, h4⟩ := h
  refine ⟨h1.setCell hB u, _, set_same u h2, by simp [h3], fun j hj => ?_⟩
  rw [Array.getElem?_setIfInBounds_ne (by omega)]
  exact h4 j (by omega)
theorem FK.set2 {w wr : World} {B b k : Nat} {cur : Array Value} (h : FK w B b k cur wr) (hB : B ≤ b) {i : Nat} (hi : i < k * 10) (u : Value) : FK w B b k cur (wr.setCell ⟨b, i, none⟩ u) := by
  obtain ⟨h1, c, h2, h3, h4⟩ := h
  refine ⟨h1.setCell hB u, _, set_same u h2, by simp [h3], fun j hj => ?_⟩
  rw [Array.getElem?_setIfInBounds_ne (by omega)]
  exact h4 j hj
theorem FK.sets {w : World} {B b k : Nat} {cur : Array Value} (hB : B ≤ b) : ∀ (l : List Value) (o : Nat) (wr : World), FK w B b k cur wr → o + l.length ≤ k * 10 → FK w B b k cur (wr.setCells b o l)
  | [], _, _, h, _ => h
  | u :: l, o, wr, h, ho => by
    rw [World.setCells]
    simp only [List.length_cons] at ho
    exact FK.sets hB l (o + 1) _ (h.set2 hB (by omega) u) (by omega)
theorem FK.next {w wr : World} {B b k : Nat} {cur : Array Value} (h : FK w B b k cur wr) (hB : B ≤ b) (l : List Value) (hl : l.length = 10) : FK w B b (k + 1) cur (wr.setCells b (k * 10) l) := by
  have h' : FK w B b (k + 1) cur wr := by
    obtain ⟨h1, c, h2, h3, h4⟩ := h
    exact ⟨h1, c, h2, h3, fun i hi => h4 i (by omega)⟩
  exact h'.sets hB l (k * 10) wr (by omega)
theorem FK.there {w wr : World} {B b k n : Nat} {cur : Array Value} (h : FK w B b k cur wr) (hn : n * 10 ≤ cur.size) (hk : k < n) : wr.there b (k * 10) 10 := by
  obtain ⟨_, c, h2, h3, _⟩ := h
  intro j hj
  refine ⟨?_, frozen_of h2⟩
  rw [cell_of_row wr b _ c 32 (0, 0) h2, Array.getElem?_eq_getElem (by omega)]
  rfl

def OfP (B : Nat) (w : World) (e : Ending) (w' : World) : Prop := e = .returned (.tuple #[]) ∧ Kq B w w'

theorem over_forms_0 (w : World) (B : Nat) (A : Option Addr) (c : Nat) : Calls Try.prog 18 #[.slice A 0 c] w (OfP B w) := by
  go_enter Try.func18, Try.ntmps18
  go_wp2
  go_loop [2] (fun i => i = .int .i64 0) (fun _ => 0)
  case atStart => rfl
  case round =>
    subst hrel
    go_wp2
    simp [bodyPost, results, Try.results18, go_sem]
    exact ⟨rfl, .refl _ _⟩

set_option maxHeartbeats 4000000 in
theorem over_forms_some (w : World) (B b n c : Nat) (cur : Array Value) (hn : n ≤ 1000000) (hx : FWs w B b n cur) : Calls Try.prog 18 #[.slice (some ⟨b, 0, none⟩) n c] w (OfP B w) := by
  have HX := Lib.hid hx
  clear hx
  go_enter Try.func18, Try.ntmps18
  go_wp2
  go_loopw [2] (fun i wr => ∃ k : Nat, k ≤ n ∧ i = .int .i64 k ∧ Hid (FK w B b k cur wr)) (fun i _ => n - (intOf i).toNat)
  case atStart => exact ⟨0, Nat.zero_le _, rfl, Lib.hid ⟨.refl _ _, cur, HX.out.2.1, rfl, fun _ _ => rfl⟩⟩
  case round =>
    obtain ⟨k, hk, rfl, hq⟩ := hrel
    by_cases hlt : k < n
    · obtain ⟨s, t, c1, c2, i1, i2⟩ := HX.out.2.2.2 k hlt
      have p1 : wr.cell? ⟨b, k * 10 + 1, none⟩ = some s := (hq.out.cell _ (by omega)).trans c1
      have HT := Lib.hid c2
      have HI := Lib.hid (And.intro i1 i2)
      have h0 : (0 : Int) ≤ (k : Int) := by omega
      have h1 : (k : Int) < (n : Int) := by omega
      clear c1 c2 i1 i2
      go_wp2_with fail
      refine (over_ints wr B s (HI.out.1.kept hq.out.1)).mono ?_
      rintro e w1 ⟨rfl, hk1⟩
      have hq1 := Lib.hid (hq.out.ko hk1)
      clear hq hk1 p1
      have p2 : w1.cell? ⟨b, k * 10 + 2, none⟩ = some t := (hq1.out.cell _ (by omega)).trans HT.out
      go_wp2_with fail
      refine (over_ints w1 B t (HI.out.2.kept hq1.out.1)).mono ?_
      rintro e w2 ⟨rfl, hk2⟩
      have hq2 := Lib.hid (hq1.out.ko hk2)
      clear hq1 hk2 p2
      have ht := hq2.out.there HX.out.2.2.1 hlt
      have HR := Lib.hid (hq2.out.next HX.out.1 [.int .i64 (-7), .slice none 0 0, .slice none 0 0, .int .i64 0, .int .i64 0, .int .i64 0, .int .i64 0, .int .i64 0, .bool false, .int .i64 0] rfl)
      obtain ⟨x0, m0⟩ := Option.isSome_iff_exists.1 (ht 0 (by decide)).1
      have z0 := (ht 0 (by decide)).2
      obtain ⟨x1, m1⟩ := Option.isSome_iff_exists.1 (ht 1 (by decide)).1
      have z1 := (ht 1 (by decide)).2
      obtain ⟨x2, m2⟩ := Option.isSome_iff_exists.1 (ht 2 (by decide)).1
      have z2 := (ht 2 (by decide)).2
      obtain ⟨x3, m3⟩ := Option.isSome_iff_exists.1 (ht 3 (by decide)).1
      have z3 := (ht 3 (by decide)).2
      obtain ⟨x4, m4⟩ := Option.isSome_iff_exists.1 (ht 4 (by decide)).1
      have z4 := (ht 4 (by decide)).2
      obtain ⟨x5, m5⟩ := Option.isSome_iff_exists.1 (ht 5 (by decide)).1
      have z5 := (ht 5 (by decide)).2
      obtain ⟨x6, m6⟩ := Option.isSome_iff_exists.1 (ht 6 (by decide)).1
      have z6 := (ht 6 (by decide)).2
      obtain ⟨x7, m7⟩ := Option.isSome_iff_exists.1 (ht 7 (by decide)).1
      have z7 := (ht 7 (by decide)).2
      obtain ⟨x8, m8⟩ := Option.isSome_iff_exists.1 (ht 8 (by decide)).1
      have z8 := (ht 8 (by decide)).2
      obtain ⟨x9, m9⟩ := Option.isSome_iff_exists.1 (ht 9 (by decide)).1
      have z9 := (ht 9 (by decide)).2
      rw [Nat.add_zero] at m0 z0
      clear ht hq2
      go_wp2
      go_roundw
      case rel => exact ⟨k + 1, by omega, by go_num, HR⟩
      case measure => simp [intOf]; omega
    · go_wp2
      simp [bodyPost, results, Try.results18, go_sem]
      exact ⟨rfl, hq.out.1⟩

theorem over_forms (w : World) (B : Nat) (v : Value) (h : FW w B v) : Calls Try.prog 18 #[v] w (OfP B w) := by
  obtain ⟨A, c, n, rfl, hn, hA⟩ := h
  by_cases h0 : 0 < n
  · obtain ⟨b, cur, rfl, hb⟩ := hA h0
    exact over_forms_some w B b n c cur hn hb
  · obtain rfl : n = 0 := by omega
    exact over_forms_0 w B A c

def PickP (w : World) (x : Int) (e : Ending) (w' : World) : Prop := e = .returned (.int .i64 x) ∧ w = w'

theorem pick (w : World) (x : Int) (m : Nat) (h1 : 1 ≤ m) (h2 : m ≤ 1000000) : Calls Try.prog 21 #[.int .i64 x, .int .i64 m] w (PickP w (x % m)) := by
  have e1 : x.tmod m = x % m - if 0 ≤ x ∨ (m : Int) ∣ x then 0 else (m : Int) := by
    rw [Int.tmod_eq_emod]
    split <;> simp
  have b1 : 0 ≤ x % (m : Int) := Int.emod_nonneg x (by omega)
  have b2 : x % (m : Int) < m := Int.emod_lt_of_pos x (by omega)
  have hlo : -(m : Int) ≤ x.tmod m := by rw [e1]; split <;> omega
  have hhi : x.tmod m < m := by rw [e1]; split <;> omega
  have HE := Lib.hid e1
  have HB := Lib.hid (And.intro b1 b2)
  have hm : (1 : Int) ≤ (m : Int) := by omega
  have hm0 : ¬ (m : Int) = 0 := by omega
  clear e1 b1 b2
  by_cases hneg : x.tmod m < 0
  · have HR : Hid (x.tmod m + m = x % m) := by
      have := HE.out
      have b := HB.out
      apply Lib.hid
      rw [this] at hneg ⊢
      split at hneg <;> rename_i hc
      · omega
      · rw [if_neg hc]; omega
    go_enter Try.func21, Try.ntmps21
    go_wp2
    go_ret
    exact ⟨by rw [← HR.out]; rfl, rfl⟩
  · have HR : Hid (x.tmod m = x % m) := by
      have := HE.out
      have b := HB.out
      apply Lib.hid
      rw [this] at hneg ⊢
      split at hneg <;> rename_i hc
      · rw [if_pos hc]; omega
      · omega
    go_enter Try.func21, Try.ntmps21
    go_wp2
    go_ret
    exact ⟨by rw [← HR.out]; rfl, rfl⟩
end Go.Proofs.Ytchodalkdejiiaa.Wa
