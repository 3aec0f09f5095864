/- ChordsOf of both sides. -/
import Derived.Test.YtdapdaadglaoiaaChord
namespace Go.Proofs.Ytdapdaadglaoiaa
open Go.RowKit

def cdR (n : Net) : List Int × Int := if netB n = true then (chords n, 0) else ([], 1)
theorem cdR_len (n : Net) : (cdR n).1.length ≤ 2000000 := by
  unfold cdR
  split
  · next h =>
    have := chords_le n
    have := netB_t h
    simp only; omega
  · simp

set_option maxHeartbeats 400000 in
set_option maxRecDepth 100000 in
theorem impl_ChordsOf_any (nv pv : Value) (n : Net) (w : World) (h : NetAt w nv pv n) (hcap : CapOk nv) :
    Calls Try.prog 40 #[.agg #[nv, pv]] w (OutI w (cdR n)) := by
  obtain ⟨a0, k0, rfl⟩ := h.1.shape
  obtain ⟨a1, k1, rfl⟩ := h.2.2.shape
  have hWb := below_new w (.cells #[.slice a0 n.nodes.length k0, .slice a1 n.pipes.length k1] 27)
  have hbx := Box.new w #[.slice a0 n.nodes.length k0, .slice a1 n.pipes.length k1] 27
  have h := h.below hWb
  go_enter Try.func40, Try.ntmps40
  go_wp2_with fail
  refine (impl_IsNetwork_any _ _ n _ h hcap).mono ?_
  cases hb : netB n
  · have hr : Hid (cdR n = ([], 1)) := by simp [Hid, cdR, hb]
    rintro e w1 ⟨rfl, b1⟩
    have HB := hid (hWb.trans (b1.mono hWb.size))
    clear b1 hWb hbx
    go_wp2_with fail
    go_ret2
    rw [hr.out]
    exact ⟨_, rfl, Slc.nil _ _, HB.out⟩
  have hr : Hid (cdR n = (chords n, 0)) := by simp [Hid, cdR, hb]
  have hnl := netB_t hb
  have hfl := chords_le n
  rintro e w1 ⟨rfl, b1⟩
  have HB := hid (hWb.trans (b1.mono hWb.size))
  obtain ⟨c0, c1⟩ := (hbx.below b1).two
  have h := h.below b1
  clear b1 hWb hbx
  go_wp2_with fail
  refine (chordsOf_any _ _ n _ h hb).mono ?_
  rintro e w2 ⟨r, rfl, o2, b2⟩
  have HB2 := hid (HB.out.trans (b2.mono HB.out.size))
  have zb := HB.out.size
  have HO := hid (o2.slc (by omega))
  obtain ⟨ra, rc, rfl, _⟩ := o2.shape
  clear b2 c0 c1 o2
  go_wp2_with fail
  go_ret2
  rw [hr.out]
  exact ⟨_, rfl, HO.out.mono (fun c _ h => ⟨by have := h.1; omega, h.2⟩), HB2.out⟩

set_option maxHeartbeats 400000 in
set_option maxRecDepth 100000 in
theorem spec_ChordsOf_any (nv pv : Value) (n : Net) (w : World) (h : NetAt w nv pv n) :
    Calls Try.prog 39 #[.agg #[nv, pv]] w (OutI w (cdR n)) := by
  obtain ⟨a0, k0, rfl⟩ := h.1.shape
  obtain ⟨a1, k1, rfl⟩ := h.2.2.shape
  have hWb := below_new w (.cells #[.slice a0 n.nodes.length k0, .slice a1 n.pipes.length k1] 27)
  have hbx := Box.new w #[.slice a0 n.nodes.length k0, .slice a1 n.pipes.length k1] 27
  have h := h.below hWb
  go_enter Try.func39, Try.ntmps39
  go_wp2_with fail
  refine (spec_IsNetwork_any _ _ n _ h).mono ?_
  cases hb : netB n
  · have hr : Hid (cdR n = ([], 1)) := by simp [Hid, cdR, hb]
    rintro e w1 ⟨rfl, b1⟩
    have HB := hid (hWb.trans (b1.mono hWb.size))
    clear b1 hWb hbx
    go_wp2_with fail
    go_ret2
    rw [hr.out]
    exact ⟨_, rfl, Slc.nil _ _, HB.out⟩
  have hr : Hid (cdR n = (chords n, 0)) := by simp [Hid, cdR, hb]
  have hnl := netB_t hb
  have hfl := chords_le n
  rintro e w1 ⟨rfl, b1⟩
  have HB := hid (hWb.trans (b1.mono hWb.size))
  obtain ⟨c0, c1⟩ := (hbx.below b1).two
  have h := h.below b1
  clear b1 hWb hbx
  go_wp2_with fail
  refine (l05Chords_any _ _ n _ h hb).mono ?_
  rintro e w2 ⟨r, rfl, o2, b2⟩
  have HB2 := hid (HB.out.trans (b2.mono HB.out.size))
  have zb := HB.out.size
  have HO := hid (o2.slc (by omega))
  obtain ⟨ra, rc, rfl, _⟩ := o2.shape
  clear b2 c0 c1 o2
  go_wp2_with fail
  go_ret2
  rw [hr.out]
  exact ⟨_, rfl, HO.out.mono (fun c _ h => ⟨by have := h.1; omega, h.2⟩), HB2.out⟩

end Go.Proofs.Ytdapdaadglaoiaa
