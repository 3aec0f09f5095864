/- markNetwork and heldNetwork of a network whose nodes and pipes lie apart. -/
import Derived.Test.YtdbgncinaacheaaDoorMark
import Derived.Test.YtdbgncinaacheaaDoorDrW
namespace Go.Proofs.YtdbgncinaacheaaDoor
open Go.RowKit

set_option maxHeartbeats 400000 in
theorem markNetwork_apart (B H : Nat) (nv pv : Value) (n : Net) (z : Nat) (w : World) (h : NetApart B H w nv pv n) (hhi : H ≤ w.heap.size) (hz : 1 ≤ z) (hl1 : n.nodes.length ≤ 2000000) (hl2 : n.pipes.length ≤ 2000000) (hz2 : z ≤ 20000000) :
    Calls Tryd.prog 17 #[.agg #[nv, pv], .int .i64 z] w fun e w' => e = .returned (.int .i64 (mkEnd z n : Nat)) ∧
      RowsOwn encN 3 (fun b => B ≤ b ∧ b < H) w' nv (mkNet z n).nodes ∧ RowsOwn encP 5 (fun b => B ≤ b ∧ b < H) w' pv (mkNet z n).pipes ∧ Kept (fun b => B ≤ b ∧ b < H) w w' := by
  obtain ⟨X, Y, hX, hY, hd, h3, h4, h5⟩ := h
  obtain ⟨a0, k0, rfl⟩ := h3.at.shape
  obtain ⟨a1, k1, rfl⟩ := h5.at.shape
  have hWb := below_new w (.cells #[.slice a0 n.nodes.length k0, .slice a1 n.pipes.length k1] 25)
  have hbx := Box.new w #[.slice a0 n.nodes.length k0, .slice a1 n.pipes.length k1] 25
  have h3 := h3.below hWb
  have h5 := h5.below hWb
  go_enter Tryd.func17, Tryd.ntmps17
  go_wp2_with fail
  refine (markNodeS_any _ _ n.nodes z _ h3 hz (by omega)).mono ?_
  rintro e w1 ⟨rfl, r1, hk1⟩
  have bx1 := hbx.kept hk1 (fun hb => by have := hX _ hb; omega)
  have h5 := h5.kept hk1 (fun b _ hb hb' => hd b hb' hb)
  obtain ⟨c0, c1⟩ := bx1.two
  obtain ⟨z1, hz1⟩ : ∃ z1, z1 = z + 3 * n.nodes.length := ⟨_, rfl⟩
  rw [← hz1]
  have HZ := hid hz1
  have HK1 := hid ((Kept.of_below (X := fun b => B ≤ b ∧ b < H) hWb).trans (hk1.mono (fun b _ hb => hX b hb)))
  have hz1' : 1 ≤ z1 := by omega
  have hz2' : z1 + 5 * n.pipes.length ≤ 100000000 := by omega
  have HR1 := hid r1
  clear hk1 hWb hbx bx1 h3 r1 hz1
  go_wp2_with fail
  refine (markPipeS_any _ _ n.pipes z1 _ h5 hz1' hz2').mono ?_
  rintro e w2 ⟨rfl, r2, hk2⟩
  have HK2 := hid (HK1.out.trans (hk2.mono (fun b _ hb => hY b hb)))
  have HR := hid (HR1.out.kept hk2 (fun b _ hb hb' => hd b hb hb'))
  have HR2 := hid r2
  have hE : Hid (z1 + 5 * n.pipes.length = mkEnd z n) := by rw [HZ.out]; rfl
  clear hk2 r2 h5
  go_wp2_with fail
  go_ret
  refine ⟨by rw [← hE.out]; rfl, HR.out.mono (fun b _ hb => hX b hb), ?_, HK2.out⟩
  have := HR2.out.mono (Y := fun b => B ≤ b ∧ b < H) (fun b _ hb => hY b hb)
  rw [HZ.out] at this
  exact this

def HdRel (z s n : Nat) (W : World) (i k : Value) (wr : World) : Prop := ∃ j q : Nat, i = .int .i64 j ∧ k = .int .i64 q ∧ q = z + s * j ∧ j ≤ n ∧ Below W.heap.size W wr

set_option maxHeartbeats 1000000 in
set_option maxRecDepth 100000 in
theorem heldNodeS_any (v : Value) (m : Nat) (z : Nat) (w : World) (h : RowsAt encN 3 w v ((List.range m).map (mkN z))) (hz : 1 ≤ z) (hlen : z + 3 * m ≤ 100000000) :
    Calls Tryd.prog 54 #[v, .int .i64 z] w fun e w' => e = .returned (.int .i64 ((z + 3 * m : Nat) : Int)) ∧ Below w.heap.size w w' := by
  have HR := hid h
  obtain ⟨a, cap, hv⟩ := h.shape
  have hml : ((List.range m).map (mkN z)).length = m := by simp
  rw [hml] at hv
  subst hv
  clear h
  go_enter Tryd.func54, Tryd.ntmps54
  go_wp2_with fail
  go_loopw [5, 1] (fun i k wr => HdRel z 3 m w i k wr) (fun i _ _ => m - (intOf i).toNat)
  case atStart => exact ⟨0, z, rfl, rfl, by omega, by omega, Below.refl _ _⟩
  case round =>
    obtain ⟨j, q, rfl, rfl, hq, hj, hbel⟩ := hrel
    by_cases hlt : j < m
    · obtain ⟨g, goff, rfl, hgl, hgc⟩ := (HR.out.below hbel).at' (by omega)
      have hj' := hgc j (by omega)
      obtain ⟨d0, d1, d2⟩ := cellsN hj'
      have hmq : mkN z j = ⟨mt q, (q : Int) + 1, (q : Int) + 2⟩ := by subst hq; simp [mkN]
      simp only [List.getElem_map, List.getElem_range, hmq] at d0 d1 d2
      have HQ := hid hq
      have HB := hid hbel
      have q1 : 1 ≤ q := by omega
      have q2 : q ≤ 100000000 := by omega
      clear hgc hj' hq hmq hbel
      go_wp2_with fail
      go_region_held3 (fun W => W.cell? ⟨g, goff + j * 3, none⟩ = some (.string (mt q)))
        (first | exact d0 | exact D0)
        (first | (go_at_call 92; refine (markText_any q _ q1 (by omega)).mono ?_; rintro e w1 ⟨rfl, b1⟩; have b1 := below_undrew b1; have D0 := (b1.cell (p := ⟨g, goff + j * 3, none⟩) hgl).trans d0; have D1 := (b1.cell (p := ⟨g, goff + j * 3 + 1, none⟩) hgl).trans d1; have D2 := (b1.cell (p := ⟨g, goff + j * 3 + 2, none⟩) hgl).trans d2))
      have HB1 := hid (HB.out.trans (b1.mono HB.out.size))
      clear d0 d1 d2 b1
      go_wp2_with fail
      go_roundw
      case rel => exact ⟨j + 1, q + 3, by go_num, by go_num, by rw [HQ.out]; omega, by omega, HB1.out⟩
      case measure => simp [intOf]; omega
    · obtain rfl : j = m := by omega
      have hq' := hid hq
      have HB := hid hbel
      clear hq hbel
      go_wp2_with fail
      go_ret
      exact ⟨by rw [← hq'.out]; rfl, HB.out⟩

set_option maxHeartbeats 1000000 in
set_option maxRecDepth 100000 in
theorem heldPipeS_any (v : Value) (m : Nat) (z : Nat) (w : World) (h : RowsAt encP 5 w v ((List.range m).map (mkP z))) (hz : 1 ≤ z) (hlen : z + 5 * m ≤ 100000000) :
    Calls Tryd.prog 55 #[v, .int .i64 z] w fun e w' => e = .returned (.int .i64 ((z + 5 * m : Nat) : Int)) ∧ Below w.heap.size w w' := by
  have HR := hid h
  obtain ⟨a, cap, hv⟩ := h.shape
  have hml : ((List.range m).map (mkP z)).length = m := by simp
  rw [hml] at hv
  subst hv
  clear h
  go_enter Tryd.func55, Tryd.ntmps55
  go_wp2_with fail
  go_loopw [5, 1] (fun i k wr => HdRel z 5 m w i k wr) (fun i _ _ => m - (intOf i).toNat)
  case atStart => exact ⟨0, z, rfl, rfl, by omega, by omega, Below.refl _ _⟩
  case round =>
    obtain ⟨j, q, rfl, rfl, hq, hj, hbel⟩ := hrel
    by_cases hlt : j < m
    · obtain ⟨g, goff, rfl, hgl, hgc⟩ := (HR.out.below hbel).at' (by omega)
      have hj' := hgc j (by omega)
      obtain ⟨d0, d1, d2, d3, d4⟩ := cellsP hj'
      have hmq : mkP z j = ⟨(q : Int), (q : Int) + 1, (q : Int) + 2, (q : Int) + 3, (q : Int) + 4⟩ := by subst hq; simp [mkP]
      simp only [List.getElem_map, List.getElem_range, hmq] at d0 d1 d2 d3 d4
      have HQ := hid hq
      have HB := hid hbel
      have q1 : 1 ≤ q := by omega
      have q2 : q ≤ 100000000 := by omega
      clear hgc hj' hq hmq hbel
      go_wp2_with fail
      go_roundw
      case rel => exact ⟨j + 1, q + 5, by go_num, by go_num, by rw [HQ.out]; omega, by omega, HB.out⟩
      case measure => simp [intOf]; omega
    · obtain rfl : j = m := by omega
      have hq' := hid hq
      have HB := hid hbel
      clear hq hbel
      go_wp2_with fail
      go_ret
      exact ⟨by rw [← hq'.out]; rfl, HB.out⟩

set_option maxHeartbeats 400000 in
theorem heldNetwork_any (nv pv : Value) (n : Net) (z : Nat) (w : World) (h1 : RowsAt encN 3 w nv (mkNet z n).nodes) (h2 : RowsAt encP 5 w pv (mkNet z n).pipes) (hz : 1 ≤ z) (hl1 : n.nodes.length ≤ 2000000) (hl2 : n.pipes.length ≤ 2000000) (hz2 : z ≤ 20000000) :
    Calls Tryd.prog 18 #[.agg #[nv, pv], .int .i64 z] w fun e w' => e = .returned (.int .i64 (mkEnd z n : Nat)) ∧ Below w.heap.size w w' := by
  obtain ⟨a0, k0, hv0⟩ := h1.shape
  obtain ⟨a1, k1, hv1⟩ := h2.shape
  rw [(by simp [mkNet] : (mkNet z n).nodes.length = n.nodes.length)] at hv0
  rw [(by simp [mkNet] : (mkNet z n).pipes.length = n.pipes.length)] at hv1
  subst hv0 hv1
  have hWb := below_new w (.cells #[.slice a0 n.nodes.length k0, .slice a1 n.pipes.length k1] 25)
  have hbx := Box.new w #[.slice a0 n.nodes.length k0, .slice a1 n.pipes.length k1] 25
  have h1 := h1.below hWb
  have h2 := h2.below hWb
  have hH := heldNodeS_any _ n.nodes.length z _ h1 hz (by omega)
  go_enter Tryd.func18, Tryd.ntmps18
  go_wp2_with fail
  refine hH.mono ?_
  rintro e w1 ⟨rfl, b1⟩
  have bx1 := hbx.below b1
  obtain ⟨c0, c1⟩ := bx1.two
  obtain ⟨z1, hz1⟩ : ∃ z1, z1 = z + 3 * n.nodes.length := ⟨_, rfl⟩
  have h2' : RowsAt encP 5 w1 (.slice a1 n.pipes.length k1) ((List.range n.pipes.length).map (mkP z1)) := by
    have := h2.below b1
    rw [hz1]; exact this
  rw [← hz1]
  have HZ := hid hz1
  have HK1 := hid (hWb.trans (b1.mono hWb.size))
  have hz1' : 1 ≤ z1 := by omega
  have hz2' : z1 + 5 * n.pipes.length ≤ 100000000 := by omega
  have hneg : ¬ ((z1 : Int) < 0) := by omega
  clear b1 hWb hbx bx1 h1 h2 hH hz1
  go_wp2_with fail
  refine (heldPipeS_any _ n.pipes.length z1 _ h2' hz1' hz2').mono ?_
  rintro e w2 ⟨rfl, b2⟩
  have HK2 := hid (HK1.out.trans (b2.mono HK1.out.size))
  obtain ⟨E, hE⟩ : ∃ E, E = z1 + 5 * n.pipes.length := ⟨_, rfl⟩
  have hE2 : Hid (E = mkEnd z n) := by rw [hE, HZ.out]; rfl
  rw [← hE]
  have hneg2 : ¬ ((E : Int) < 0) := by omega
  clear b2 h2' hE
  go_wp2_with fail
  go_ret
  exact ⟨by rw [← hE2.out]; rfl, HK2.out⟩

end Go.Proofs.YtdbgncinaacheaaDoor
