/- likeNet of equal networks; likeInts; big. -/
import Derived.Test.YtdbgncinaacheaaDoorMark
import Derived.Test.YtdbgncinaacheaaDoorMem
namespace Go.Proofs.YtdbgncinaacheaaDoor
open Go.RowKit

theorem below_drN (w : World) {B : Nat} (j : Nat) : Below B w (w.drewN j) := ⟨rfl, rfl, rfl, Nat.le_refl _, fun _ _ => rfl⟩
def LkRel (m : Nat) (w : World) (i : Value) (wr : World) : Prop := ∃ k j : Nat, i = .int .i64 k ∧ k ≤ m ∧ wr = w.drewN j

set_option maxHeartbeats 1000000 in
set_option maxRecDepth 100000 in
theorem likeNet_t (nv pv nv' pv' : Value) (n : Net) (w : World) (h : NetAt w nv pv n) (h' : NetAt w nv' pv' n) :
    Calls Tryd.prog 43 #[.agg #[nv, pv], .agg #[nv', pv']] w fun e w' => e = .returned (.bool true) ∧ Below w.heap.size w w' := by
  obtain ⟨a0, k0, rfl⟩ := h.1.shape
  obtain ⟨a1, k1, rfl⟩ := h.2.2.shape
  obtain ⟨a2, k2, rfl⟩ := h'.1.shape
  obtain ⟨a3, k3, rfl⟩ := h'.2.2.shape
  have e0 := h.1.le
  have e1 := h.2.2.le
  obtain ⟨W, hW⟩ : ∃ W, (w.alloc (.cells #[.slice a0 n.nodes.length k0, .slice a1 n.pipes.length k1] 25)).alloc (.cells #[.slice a2 n.nodes.length k2, .slice a3 n.pipes.length k3] 25) = W := ⟨_, rfl⟩
  have hb : Below w.heap.size w W := by rw [← hW]; exact (below_new w _).alloc (by simp) _
  have hx := (Box.new w #[.slice a0 n.nodes.length k0, .slice a1 n.pipes.length k1] 25).below (below_new _ (.cells #[.slice a2 n.nodes.length k2, .slice a3 n.pipes.length k3] 25))
  have hy := Box.new (w.alloc (.cells #[.slice a0 n.nodes.length k0, .slice a1 n.pipes.length k1] 25)) #[.slice a2 n.nodes.length k2, .slice a3 n.pipes.length k3] 25
  rw [hW] at hx hy
  rw [World.size_alloc] at hy
  have HN := hid (h.below hb)
  have HN' := hid (h'.below hb)
  obtain ⟨c0, c1⟩ := hx.two
  obtain ⟨d0, d1⟩ := hy.two
  have HB := hid hb
  clear h h' hx hy hb
  go_enter Tryd.func43, Tryd.ntmps43
  go_wp2_with fail
  clear hW
  go_loopw [5] (fun i wr => LkRel n.nodes.length W i wr) (fun i _ => n.nodes.length - (intOf i).toNat)
  case atStart => exact ⟨0, 0, rfl, by omega, rfl⟩
  case round =>
    obtain ⟨k, j, rfl, hk, rfl⟩ := hrel
    by_cases hlt : k < n.nodes.length
    · have hltI : (k : Int) < n.nodes.length := by omega
      obtain ⟨b, o, rfl, _, hc⟩ := HN.out.1.at' (by omega)
      obtain ⟨b', o', rfl, _, hc'⟩ := HN'.out.1.at' (by omega)
      obtain ⟨x0, x1, x2⟩ := cellsN (hc k hlt)
      obtain ⟨y0, y1, y2⟩ := cellsN (hc' k hlt)
      clear hc hc'
      go_wp2_with fail
      go_quiet (fail)
      go_wp2_with fail
      go_roundw
      case rel => exact ⟨k + 1, _, by go_num, by omega, rfl⟩
      case measure => simp [intOf]; omega
    · obtain rfl : k = n.nodes.length := by omega
      go_wp2_with fail
      go_loopw [6] (fun i wr => LkRel n.pipes.length W i wr) (fun i _ => n.pipes.length - (intOf i).toNat)
      case atStart => exact ⟨0, j, rfl, by omega, rfl⟩
      case round =>
        obtain ⟨k, j, rfl, hk, rfl⟩ := hrel
        by_cases hlt : k < n.pipes.length
        · have hltI : (k : Int) < n.pipes.length := by omega
          obtain ⟨b, o, rfl, _, hc⟩ := HN.out.2.2.at' (by omega)
          obtain ⟨b', o', rfl, _, hc'⟩ := HN'.out.2.2.at' (by omega)
          obtain ⟨x0, x1, x2, x3, x4⟩ := cellsP (hc k hlt)
          obtain ⟨y0, y1, y2, y3, y4⟩ := cellsP (hc' k hlt)
          clear hc hc'
          go_wp2_with fail
          go_quiet (fail)
          go_wp2_with fail
          go_roundw
          case rel => exact ⟨k + 1, _, by go_num, by omega, rfl⟩
          case measure => simp [intOf]; omega
        · obtain rfl : k = n.pipes.length := by omega
          go_wp2_with fail
          go_ret
          exact ⟨rfl, HB.out.trans (below_drN _ j)⟩

end Go.Proofs.YtdbgncinaacheaaDoor
