/- CycleOf of both sides. -/
import Derived.Test.YtdapdaadglaoiaaChOf
import Derived.Test.YtdapdaadglaoiaaCyc
import Derived.Test.YtdapdaadglaoiaaCycS
namespace Go.Proofs.Ytdapdaadglaoiaa
open Go.RowKit

def ccR (n : Net) (v : Int) : List Int × Int := if netB n = true then (if (chords n).contains v = true then (cyI n v, 0) else ([], 4)) else ([], 1)
theorem cyI_len {n : Net} (hb : netB n = true) {c : Nat} (hc : c < n.pipes.length) (hch : (c : Int) ∉ forest n) : (cyI n c).length = n.pipes.length := (cyI_spec hb hc hch).1
theorem ccR_len (n : Net) (v : Int) : (ccR n v).1.length ≤ 2000000 := by
  unfold ccR
  split
  · next hb =>
    split
    · next h =>
      obtain ⟨i, rfl, hi, hf⟩ := chords_mem.1 (List.elem_iff.1 h)
      rw [cyI_len hb hi hf]
      have := netB_t hb
      omega
    · simp
  · simp
theorem contains_any (P : Nat → Prop) (v : Value) (zs : List Int) (x : Int) (w : World) (h : Slc P w v zs) :
    Calls Try.prog 132 #[v, .int .i64 x] w fun e w' => e = .returned (.bool (zs.contains x)) ∧ Below w.heap.size w w' := by
  obtain ⟨hm, a, cap, rfl, h⟩ := h
  rcases h with rfl | ⟨b, off, rfl, _, _, hc⟩
  · have hcl : Calls Try.prog 132 #[.slice a 0 cap, .int .i64 x] w _ := AnyG.slices_Contains_int_empty cont a cap x w
    exact hcl.mono (fun e w' ⟨h1, h2⟩ => ⟨h1, h2 ▸ Below.refl _ _⟩)
  · have hc' : ∀ j, j < zs.length → w.cell? ⟨b, off + j, none⟩ = some (.int .i64 (zs.getD j 0)) := fun j hj => by
      rw [hc j hj]; simp [List.getD, hj]
    have hcl : Calls Try.prog 132 #[.slice (some ⟨b, off, none⟩) zs.length cap, .int .i64 x] w _ := AnyG.slices_Contains_int cont b off zs.length cap zs x w (Nat.le_refl _) (by omega) hc'
    refine hcl.mono (fun e w' ⟨h1, h2⟩ => ⟨?_, h2 ▸ Below.refl _ _⟩)
    rw [h1, List.take_length]

set_option maxHeartbeats 400000 in
set_option maxRecDepth 100000 in
theorem impl_CycleOf_any (nv pv : Value) (n : Net) (v : Int) (w : World) (h : NetAt w nv pv n) (hcap : CapOk nv) :
    Calls Try.prog 53 #[.agg #[nv, pv], .int .i64 v] w (OutI w (ccR n v)) := by
  obtain ⟨a0, k0, rfl⟩ := h.1.shape
  obtain ⟨a1, k1, rfl⟩ := h.2.2.shape
  have hWb := below_new w (.cells #[.slice a0 n.nodes.length k0, .slice a1 n.pipes.length k1] 27)
  have hbx := Box.new w #[.slice a0 n.nodes.length k0, .slice a1 n.pipes.length k1] 27
  have h := h.below hWb
  obtain ⟨c0, c1⟩ := hbx.two
  go_enter Try.func53, Try.ntmps53
  go_wp2_with fail
  refine (impl_IsNetwork_any _ _ n _ h hcap).mono ?_
  cases hb : netB n
  · have hr : Hid (ccR n v = ([], 1)) := by simp [Hid, ccR, hb]
    rintro e w1 ⟨rfl, b1⟩
    have HB := hid (hWb.trans (b1.mono hWb.size))
    clear b1 hWb hbx
    go_wp2_with fail
    go_ret2
    rw [hr.out]
    exact ⟨_, rfl, Slc.nil _ _, HB.out⟩
  have hnl := netB_t hb
  have hfl := chords_le n
  rintro e w1 ⟨rfl, b1⟩
  have HB := hid (hWb.trans (b1.mono hWb.size))
  have HX := hid (hbx.below b1)
  obtain ⟨d0, d1⟩ := HX.out.two
  have h := h.below b1
  clear b1 hWb hbx c0 c1
  go_wp2_with fail
  refine (chordsOf_any _ _ n _ h hb).mono ?_
  rintro e w2 ⟨r, rfl, o2, b2⟩
  have HB2 := hid (HB.out.trans (b2.mono HB.out.size))
  have HX2 := hid (HX.out.below b2)
  have HO := hid (o2.slc (by omega))
  have h := h.below b2
  obtain ⟨ra, rc, rfl, _⟩ := o2.shape
  clear b2 o2 d0 d1 HB HX
  go_wp2_with fail
  refine (contains_any _ _ (chords n) v _ HO.out).mono ?_
  rintro e w3 ⟨rfl, b3⟩
  have HB3 := hid (HB2.out.trans (b3.mono HB2.out.size))
  have HX3 := hid (HX2.out.below b3)
  have h := h.below b3
  obtain ⟨d0, d1⟩ := HX3.out.two
  have zb := HB3.out.size
  clear b3 HB2 HX2 HO
  cases hc : (chords n).contains v
  · have hr : Hid (ccR n v = ([], 4)) := by unfold ccR; rw [Hid, if_pos hb, if_neg (by rw [hc]; exact Bool.false_ne_true)]
    clear d0 d1
    go_wp2_with fail
    go_ret2
    rw [hr.out]
    exact ⟨_, rfl, Slc.nil _ _, HB3.out⟩
  obtain ⟨i, rfl, hi, hf⟩ := chords_mem.1 (List.elem_iff.1 hc)
  have hr : Hid (ccR n i = (cyI n i, 0)) := by unfold ccR; rw [Hid, if_pos hb, if_pos hc]
  have hlen := cyI_len hb hi hf
  clear hc
  go_wp2_with fail
  refine (cycleOf_any _ _ n i _ h hb hi).mono ?_
  rintro e w4 ⟨r, rfl, o4, b4⟩
  have HB4 := hid (HB3.out.trans (b4.mono HB3.out.size))
  have HO4 := hid o4
  obtain ⟨_, ra4, rc4, hre, _⟩ := id o4
  subst hre
  clear b4 o4 d0 d1 hlen
  go_wp2_with fail
  go_ret2
  rw [hr.out]
  exact ⟨_, rfl, HO4.out.mono (fun c _ h => ⟨by have := h.1; omega, h.2⟩), HB4.out⟩

set_option maxHeartbeats 400000 in
set_option maxRecDepth 100000 in
theorem spec_CycleOf_any (nv pv : Value) (n : Net) (v : Int) (w : World) (h : NetAt w nv pv n) :
    Calls Try.prog 54 #[.agg #[nv, pv], .int .i64 v] w (OutI w (ccR n v)) := by
  obtain ⟨a0, k0, rfl⟩ := h.1.shape
  obtain ⟨a1, k1, rfl⟩ := h.2.2.shape
  have hWb := below_new w (.cells #[.slice a0 n.nodes.length k0, .slice a1 n.pipes.length k1] 27)
  have hbx := Box.new w #[.slice a0 n.nodes.length k0, .slice a1 n.pipes.length k1] 27
  have h := h.below hWb
  obtain ⟨c0, c1⟩ := hbx.two
  go_enter Try.func54, Try.ntmps54
  go_wp2_with fail
  refine (spec_IsNetwork_any _ _ n _ h).mono ?_
  cases hb : netB n
  · have hr : Hid (ccR n v = ([], 1)) := by simp [Hid, ccR, hb]
    rintro e w1 ⟨rfl, b1⟩
    have HB := hid (hWb.trans (b1.mono hWb.size))
    clear b1 hWb hbx
    go_wp2_with fail
    go_ret2
    rw [hr.out]
    exact ⟨_, rfl, Slc.nil _ _, HB.out⟩
  have hnl := netB_t hb
  have hfl := chords_le n
  rintro e w1 ⟨rfl, b1⟩
  have HB := hid (hWb.trans (b1.mono hWb.size))
  have HX := hid (hbx.below b1)
  obtain ⟨d0, d1⟩ := HX.out.two
  have h := h.below b1
  clear b1 hWb hbx c0 c1
  go_wp2_with fail
  refine (l05Chords_any _ _ n _ h hb).mono ?_
  rintro e w2 ⟨r, rfl, o2, b2⟩
  have HB2 := hid (HB.out.trans (b2.mono HB.out.size))
  have HX2 := hid (HX.out.below b2)
  have HO := hid (o2.slc (by omega))
  have h := h.below b2
  obtain ⟨ra, rc, rfl, _⟩ := o2.shape
  clear b2 o2 d0 d1 HB HX
  go_wp2_with fail
  refine (l02Has_any _ _ (chords n) v _ HO.out).mono ?_
  rintro e w3 ⟨rfl, b3⟩
  have HB3 := hid (HB2.out.trans (b3.mono HB2.out.size))
  have HX3 := hid (HX2.out.below b3)
  have h := h.below b3
  obtain ⟨d0, d1⟩ := HX3.out.two
  have zb := HB3.out.size
  clear b3 HB2 HX2 HO
  cases hc : (chords n).contains v
  · have hr : Hid (ccR n v = ([], 4)) := by unfold ccR; rw [Hid, if_pos hb, if_neg (by rw [hc]; exact Bool.false_ne_true)]
    clear d0 d1
    go_wp2_with fail
    go_ret2
    rw [hr.out]
    exact ⟨_, rfl, Slc.nil _ _, HB3.out⟩
  obtain ⟨i, rfl, hi, hf⟩ := chords_mem.1 (List.elem_iff.1 hc)
  have hr : Hid (ccR n i = (cyI n i, 0)) := by unfold ccR; rw [Hid, if_pos hb, if_pos hc]
  have hlen := cyI_len hb hi hf
  clear hc
  go_wp2_with fail
  refine (l05Cycle_any _ _ n i _ h hb hi).mono ?_
  rintro e w4 ⟨r, rfl, o4, b4⟩
  rw [← cyc_eq hb hi hf] at o4
  have HB4 := hid (HB3.out.trans (b4.mono HB3.out.size))
  have HO4 := hid o4
  obtain ⟨_, ra4, rc4, hre, _⟩ := id o4
  subst hre
  clear b4 o4 d0 d1 hlen
  go_wp2_with fail
  go_ret2
  rw [hr.out]
  exact ⟨_, rfl, HO4.out.mono (fun c _ h => ⟨by have := h.1; omega, h.2⟩), HB4.out⟩

end Go.Proofs.Ytdapdaadglaoiaa
