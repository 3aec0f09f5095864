/- ComponentsOf of both sides (printed by wip/gennet1.py). -/
import Derived.Test.YtdapdaadglaoiaaComp
namespace Go.Proofs.Ytdapdaadglaoiaa
open Go.RowKit

def coR (n : Net) : List Int × Int := if netB n = true then (comps n, 0) else ([], 1)
theorem coR_len (n : Net) : (coR n).1.length ≤ 2000000 := by
  unfold coR
  split
  · next hb =>
    have := compIter_len n n.nodes.length
    have := netB_t hb
    simp only [comps]; omega
  · simp

set_option maxHeartbeats 400000 in
theorem impl_ComponentsOf_any (nv pv : Value) (n : Net) (w : World) (h : NetAt w nv pv n) (hcap : CapOk nv) :
    Calls Try.prog 86 #[.agg #[nv, pv]] w (OutI w (coR n)) := by
  obtain ⟨a0, k0, rfl⟩ := h.1.shape
  obtain ⟨a1, k1, rfl⟩ := h.2.2.shape
  have hWb := below_new w (.cells #[.slice a0 n.nodes.length k0, .slice a1 n.pipes.length k1] 27)
  have hbx := Box.new w #[.slice a0 n.nodes.length k0, .slice a1 n.pipes.length k1] 27
  have h := h.below hWb
  go_enter Try.func86, Try.ntmps86
  go_wp2_with fail
  refine (impl_IsNetwork_any _ _ n _ h hcap).mono ?_
  cases hb : netB n
  · have hr : Hid (coR n = ([], 1)) := by simp [Hid, coR, hb]
    rintro e w1 ⟨rfl, b1⟩
    have B := hid (hWb.trans (b1.mono hWb.size))
    go_wp2_with fail
    go_ret2
    rw [hr.out]
    exact ⟨_, rfl, Slc.nil _ _, B.out⟩
  · have hr : Hid (coR n = (comps n, 0)) := by simp [Hid, coR, hb]
    rintro e w1 ⟨rfl, b1⟩
    have B := hid (hWb.trans (b1.mono hWb.size))
    obtain ⟨c0, c1⟩ := (hbx.below b1).two
    have h := h.below b1
    clear hWb b1 hbx
    go_wp2_with fail
    refine (componentsOf_any _ _ n _ h hb).mono ?_
    rintro e w2 ⟨r, rfl, se, b2⟩
    have B2 := hid (B.out.trans (b2.mono B.out.size))
    have HS := hid se
    have hsz := B.out.size
    obtain ⟨_, ea, ec, rfl, _⟩ := se
    clear b2 c0 c1
    go_wp2_with fail
    go_ret2
    rw [hr.out]
    exact ⟨_, rfl, HS.out.mono (fun b _ hb => ⟨by omega, hb.2⟩), B2.out⟩

end Go.Proofs.Ytdapdaadglaoiaa
