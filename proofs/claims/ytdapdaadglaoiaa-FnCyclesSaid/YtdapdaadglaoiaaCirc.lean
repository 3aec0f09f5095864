/- IsCirculation of both sides. -/
import Derived.Test.YtdapdaadglaoiaaOutf
namespace Go.Proofs.Ytdapdaadglaoiaa
open Go.RowKit

def cirB (n : Net) (f : List Int) : Bool := netB n && (flowB n f && allB 0 0 (outs n f n.pipes.length))
theorem flowB_t {n : Net} {f : List Int} (h : flowB n f = true) : f.length = n.pipes.length ∧ ∀ i, -30000 ≤ f.getD i 0 ∧ f.getD i 0 ≤ 30000 := by
  simp only [flowB, Bool.and_eq_true, decide_eq_true_eq] at h
  refine ⟨h.1, fun i => ?_⟩
  by_cases hi : i < f.length
  · have := allB_t h.2 f[i] (List.getElem_mem hi)
    simpa [List.getD, hi] using this
  · have : f.getD i 0 = 0 := by simp only [List.getD]; rw [List.getElem?_eq_none (by omega)]; rfl
    rw [this]; omega

set_option maxHeartbeats 1000000 in
set_option maxRecDepth 100000 in
theorem impl_IsCirculation_any (nv pv v : Value) (n : Net) (f : List Int) (w : World) (h : NetAt w nv pv n) (hf : Ints .i64 w v f) (hcap : CapOk nv) :
    Calls Try.prog 55 #[.agg #[nv, pv], v] w fun e w' => e = .returned (.bool (cirB n f)) ∧ Below w.heap.size w w' := by
  obtain ⟨a0, k0, rfl⟩ := h.1.shape
  obtain ⟨a1, k1, rfl⟩ := h.2.2.shape
  have hWb := below_new w (.cells #[.slice a0 n.nodes.length k0, .slice a1 n.pipes.length k1] 27)
  have hbx := Box.new w #[.slice a0 n.nodes.length k0, .slice a1 n.pipes.length k1] 27
  have h := h.below hWb
  have hf := hf.below hWb
  obtain ⟨_, af, cf, rfl, _⟩ := id hf
  go_enter Try.func55, Try.ntmps55
  go_wp2_with fail
  refine (impl_IsNetwork_any _ _ n _ h hcap).mono ?_
  cases hb : netB n
  · have hr : Hid (cirB n f = false) := by simp [Hid, cirB, hb]
    rintro e w1 ⟨rfl, b1⟩
    have HB := hid (hWb.trans (b1.mono hWb.size))
    clear b1 hWb hbx
    go_wp2_with fail
    go_ret
    exact ⟨by rw [hr.out]; rfl, HB.out⟩
  rintro e w1 ⟨rfl, b1⟩
  have HB := hid (hWb.trans (b1.mono hWb.size))
  have bx := hbx.below b1
  have h := h.below b1
  have hf := hf.below b1
  obtain ⟨c0, c1⟩ := bx.two
  clear b1 hWb hbx
  go_wp2_with fail
  refine (isFlowList_any _ _ _ n f _ h hf).mono ?_
  cases hfl : flowB n f
  · have hr : Hid (cirB n f = false) := by simp [Hid, cirB, hfl]
    rintro e w2 ⟨rfl, b2⟩
    have HB2 := hid (HB.out.trans (b2.mono HB.out.size))
    clear b2 c0 c1
    go_wp2_with fail
    go_ret
    exact ⟨by rw [hr.out]; rfl, HB2.out⟩
  have hr : Hid (cirB n f = allB 0 0 (outs n f n.pipes.length)) := by simp [Hid, cirB, hfl, hb]
  obtain ⟨hfl1, hfl2⟩ := flowB_t hfl
  rintro e w2 ⟨rfl, b2⟩
  have HB2 := hid (HB.out.trans (b2.mono HB.out.size))
  have bx2 := bx.below b2
  have h2 := h.below b2
  have hf2 := hf.below b2
  clear c0 c1
  obtain ⟨c0, c1⟩ := bx2.two
  clear b2
  have HO := hid (outflows_any _ _ _ n f _ h2 hb hf2 hfl1 hfl2)
  clear hfl1 hfl2
  go_wp2_with fail
  refine HO.out.mono ?_
  rintro e w3 ⟨r, rfl, S3, b3⟩
  have HB3 := hid (HB2.out.trans (b3.mono HB2.out.size))
  obtain ⟨_, ra, rc, rfl, _⟩ := id S3
  clear b3 c0 c1
  go_wp2_with (go_at_call 135; refine (allWithin_any _ (outs n f n.pipes.length) _ _ _ S3.ints).mono ?_; rintro e w' ⟨rfl, rfl⟩)
  go_ret
  exact ⟨by rw [hr.out]; rfl, HB3.out⟩

end Go.Proofs.Ytdapdaadglaoiaa
