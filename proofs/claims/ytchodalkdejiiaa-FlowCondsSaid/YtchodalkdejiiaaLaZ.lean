/-
  Small words for the laws.
-/
import Derived.Test.YtchodalkdejiiaaWaF
namespace Go.Proofs.Ytchodalkdejiiaa.La
open Go Go.RowKit Go.Proofs.Ytchodalkdejiiaa.Wa

theorem bel {w a b : World} (h : Below w.heap.size w a) (k : Below a.heap.size a b) : Below w.heap.size w b := h.trans (k.mono h.size)
theorem fw_below {w w' : World} {B : Nat} {v : Value} (h : FW w B v) (hb : Below w.heap.size w w') : FW w' B v := by
  have key : ∀ (g : Nat) (o : Obj), w.heap[g]? = some o → w'.heap[g]? = some o := fun g o hg => (hb.block g (Array.getElem?_eq_some_iff.1 hg).1).trans hg
  have iw : ∀ {v}, IW w B v → IW w' B v := by
    rintro v ⟨A, c, m, hv, hm, hA⟩
    refine ⟨A, c, m, hv, hm, fun h0 => ?_⟩
    obtain ⟨g, cur, e, hB, hg, hs⟩ := hA h0
    exact ⟨g, cur, e, hB, key _ _ hg, hs⟩
  obtain ⟨A, c, n, hv, hn, hA⟩ := h
  refine ⟨A, c, n, hv, hn, fun h0 => ?_⟩
  obtain ⟨b, cur, e, h1, h2, h3, h4⟩ := hA h0
  refine ⟨b, cur, e, h1, key _ _ h2, h3, fun j hj => ?_⟩
  obtain ⟨s, t, k1, k2, k3, k4⟩ := h4 j hj
  exact ⟨s, t, k1, k2, iw k3, iw k4⟩
theorem same_forms_yes (w : World) (v u : Value) (fs : List Fm) (hx : FormsAt w v fs) (hy : FormsAt w u fs) : Calls Try.prog 16 #[v, u] w (FormP w true) := by
  have := same_forms w v u fs fs hx hy
  rwa [decide_eq_true rfl] at this

theorem forms_len (w : World) (v : Value) (fs : List Fm) (op : Int) (n : Nat) (hx : FormsAt w v fs) (hn : (ofOp fs op).length = n) :
    Calls Try.prog 20 #[v, .int .i64 op] w fun e w' => ∃ A c, e = .returned (.slice A n c) ∧ Below w.heap.size w w' := by
  refine (forms_of w v fs op hx).mono ?_
  rintro e w' ⟨u, rfl, ⟨A, c, rfl, _, _⟩, hB⟩
  exact ⟨A, c, by rw [hn], hB⟩

end Go.Proofs.Ytchodalkdejiiaa.La
