/- The draws of a network and an index. -/
import Derived.Test.YtdbgncinaacheaaDoorDrA
import Derived.Deep.RegionHeld3
namespace Go.Proofs.YtdbgncinaacheaaDoor
open Go.RowKit

/-- A drawn network, as a law is handed it. -/
structure Dn (w W : World) (nv pv : Value) (n : Net) : Prop where
  ap : NetApart w.heap.size W.heap.size W nv pv n
  c1 : CapOk nv
  c2 : CapOk pv
  l1 : n.nodes.length ≤ 20
  l2 : n.pipes.length ≤ 20
  bel : Below w.heap.size w W
theorem Dn.at {w W : World} {nv pv : Value} {n : Net} (h : Dn w W nv pv n) : NetAt W nv pv n := h.ap.at
/-- The end of each draw: the network is stored into the result's block. -/
theorem draw_end {w w0 w1 w2 W3 w4 : World} {s : Nat} {nv pv x y : Value} {n : Net} {T : TypeId} (h0 : Kept (fun _ => False) w w0) (h1 : Below w0.heap.size w0 w1) (hz : w0.heap.size = w.heap.size + 1) (hs : s = w.heap.size + 1) (hs1 : s < w1.heap.size) (hd : Dnet w1 w2 s nv pv n)
    (b3 : Below w2.heap.size w2 W3) (hk4 : Kept (fun b => b = s) W3 w4) (hb : Blk w4 w.heap.size #[x, y] T) :
    ∃ W, ((w4.setCell ⟨w.heap.size, 0, none⟩ nv).setCell ⟨w.heap.size, 1, none⟩ pv) = W ∧ (W.cell? ⟨w.heap.size, 0, none⟩ = some nv ∧ W.cell? ⟨w.heap.size, 1, none⟩ = some pv) ∧ Dn w W nv pv n := by
  have hb5 := (hb.set 0 nv).set 1 pv
  have e0 := hb5.cell 0 (by simp)
  have e1 := hb5.cell 1 (by simp)
  simp at e0 e1
  have hk5 := ((Kept.refl (· = w.heap.size) w4).setCell (p := ⟨w.heap.size, 0, none⟩) rfl nv).setCell (p := ⟨w.heap.size, 1, none⟩) rfl pv
  have z3 := b3.size
  have z4 := hk4.size
  have z5 := hk5.size
  have hap := ((hd.ap.below b3).kept hk4 (fun b h1 h2 => by omega)).kept hk5 (fun b h1 h2 => by omega)
  have hb0 := h0.below (B := w.heap.size) (Nat.le_refl _) (fun k e => e.elim)
  have hb1 := hb0.trans (h1.mono (by omega))
  have hb2 := hb1.trans (hd.kp.below hb1.size (fun k e => by omega))
  have hb3 := hb2.trans (b3.mono hb2.size)
  have hb4 := hb3.trans (hk4.below hb3.size (fun k e => by omega))
  exact ⟨_, rfl, ⟨e0, e1⟩, hap.widen (by omega) (by omega), hd.c1, hd.c2, by have := hd.l1; omega, by have := hd.l2; omega, hb4.trans (hk5.below hb4.size (fun k e => by omega))⟩

/-- A draw handed on. -/
theorem wrap_end {w W0 W1 : World} {nv pv x y : Value} {n : Net} {T : TypeId} (h0 : Kept (fun _ => False) w W0) (hz : W0.heap.size = w.heap.size + 1) (hx : Blk W0 w.heap.size #[x, y] T) (hd : Dn W0 W1 nv pv n) :
    ∃ W, ((W1.setCell ⟨w.heap.size, 0, none⟩ nv).setCell ⟨w.heap.size, 1, none⟩ pv) = W ∧ (W.cell? ⟨w.heap.size, 0, none⟩ = some nv ∧ W.cell? ⟨w.heap.size, 1, none⟩ = some pv) ∧ Dn w W nv pv n := by
  have hb := hx.below hd.bel
  have hb5 := (hb.set 0 nv).set 1 pv
  have e0 := hb5.cell 0 (by simp)
  have e1 := hb5.cell 1 (by simp)
  simp at e0 e1
  have hk5 := ((Kept.refl (· = w.heap.size) W1).setCell (p := ⟨w.heap.size, 0, none⟩) rfl nv).setCell (p := ⟨w.heap.size, 1, none⟩) rfl pv
  have z5 := hk5.size
  have hap := hd.ap.kept hk5 (fun b h1 h2 => by omega)
  have hb0 := (h0.below (B := w.heap.size) (Nat.le_refl _) (fun k e => e.elim)).trans (hd.bel.mono (by omega))
  exact ⟨_, rfl, ⟨e0, e1⟩, hap.widen (by omega) (by omega), hd.c1, hd.c2, hd.l1, hd.l2, hb0.trans (hk5.below hb0.size (fun k e => by omega))⟩

end Go.Proofs.YtdbgncinaacheaaDoor
