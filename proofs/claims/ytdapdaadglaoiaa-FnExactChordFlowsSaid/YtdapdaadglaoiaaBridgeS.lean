/- BridgesOf of the reference. -/
import Derived.Test.YtdapdaadglaoiaaBridgeW
import Derived.Test.YtdapdaadglaoiaaConn
namespace Go.Proofs.Ytdapdaadglaoiaa
open Go.RowKit

theorem isBridge_roots {n : Net} (hb : netB n = true) {k : Nat} (hk : k < n.pipes.length) : isBridge n k = true ↔ rootsTo (comps n) n.nodes.length < rootsTo (comps (dropP n k)) n.nodes.length := by
  rw [bridge_iff hb hk]
  unfold isBridge
  rw [pAt_nat hk]
  simp

def BsRel (n : Net) (l : List Value) (w : World) (i s : Value) (wr : World) : Prop :=
  ∃ k : Nat, i = .int .i64 k ∧ k ≤ n.pipes.length ∧ OwnI 2 (w.heap.size + 1) wr s (bridgesTo n k) ∧ Box wr w.heap.size l ∧ Below w.heap.size w wr

set_option maxHeartbeats 2000000 in
set_option maxRecDepth 100000 in
theorem spec_BridgesOf_any (nv pv : Value) (n : Net) (w : World) (h : NetAt w nv pv n) (hcap : CapOk pv) :
    Calls Try.prog 46 #[.agg #[nv, pv]] w (OutI w (brR n)) := by
  obtain ⟨a0, k0, rfl⟩ := h.1.shape
  obtain ⟨a1, k1, rfl⟩ := h.2.2.shape
  have HP := hid h
  have hWb := below_new w (.cells #[.slice a0 n.nodes.length k0, .slice a1 n.pipes.length k1] 27)
  have hbx := Box.new w #[.slice a0 n.nodes.length k0, .slice a1 n.pipes.length k1] 27
  have h := h.below hWb
  go_enter Try.func46, Try.ntmps46
  go_wp2_with fail
  refine (spec_IsNetwork_any _ _ n _ h).mono ?_
  cases hb : netB n
  · have hr : Hid (brR n = ([], 1)) := by simp [Hid, brR, hb]
    rintro e w1 ⟨rfl, b1⟩
    have HB := hid (hWb.trans (b1.mono hWb.size))
    clear b1 hWb hbx
    go_wp2_with fail
    go_ret2
    rw [hr.out]
    exact ⟨_, rfl, Slc.nil _ _, HB.out⟩
  have hr : Hid (brR n = (bridgesTo n n.pipes.length, 0)) := by simp [Hid, brR, hb]
  have hnl := netB_t hb
  rintro e w1 ⟨rfl, b1⟩
  have HB := hid (hWb.trans (b1.mono hWb.size))
  have HX := hid (hbx.below b1)
  have z1 := b1.size
  simp only [World.size_alloc] at z1
  clear b1 hWb hbx h
  go_wp2_with fail
  go_loopw [5, 4] (fun i s wr => BsRel n [.slice a0 n.nodes.length k0, .slice a1 n.pipes.length k1] w i s wr) (fun i _ _ => n.pipes.length - (intOf i).toNat)
  case atStart => exact ⟨0, rfl, by omega, OwnI.made _ _ _ (by omega), HX.out.below (below_new _ _), HB.out.alloc HB.out.size _⟩
  case round =>
    clear HX HB
    obtain ⟨k, rfl, hk, ho, bx, hbel⟩ := hrel
    have hln := bridgesTo_len n k
    obtain ⟨c0, c1⟩ := bx.two
    by_cases hlt : k < n.pipes.length
    · have hb' := netB_drop hb hlt
      have hbr := isBridge_roots hb hlt
      have hS := hid (bridgesTo_succ n k)
      have hpr : Hid (wpR n k = (dropP n k, 0)) := by
        have : inB (k : Int) 0 ((n.pipes.length : Int) - 1) = true := inB_mk (by omega) (by omega)
        simp [Hid, wpR, codeOf, hb, this]; rfl
      have HWP : Hid (∀ W : World, Below w.heap.size w W → Calls Try.prog 67 #[.agg #[.slice a0 n.nodes.length k0, .slice a1 n.pipes.length k1], .int .i64 k] W (OutN W (dropP n k, 0))) := fun W hW => by
        have := spec_WithoutPipe_any _ _ n k W (HP.out.below hW) hcap
        rw [hpr.out] at this
        exact this
      have HC1 : Hid (∀ W : World, Below w.heap.size w W → _) := fun W hW => l04Count_any _ _ n W (HP.out.below hW) hb
      have HC2 : Hid (∀ (W : World) nv' pv', NetAt W nv' pv' (dropP n k) → _) := fun W nv' pv' hW => l04Count_any nv' pv' (dropP n k) W hW hb'
      have hdn : (dropP n k).nodes.length = n.nodes.length := rfl
      rw [hdn] at HC2
      obtain ⟨R, hR⟩ : ∃ R, rootsTo (comps n) n.nodes.length = R := ⟨_, rfl⟩
      obtain ⟨R', hR'⟩ : ∃ R', rootsTo (comps (dropP n k)) n.nodes.length = R' := ⟨_, rfl⟩
      rw [hR] at hbr HC1
      rw [hR'] at hbr HC2
      have HBR := hid hbr
      have HO := hid ho
      have HX := hid bx
      have HB := hid hbel
      have hwb := bx.1
      clear ho bx hbel hbr hR hR' hdn
      go_wp2_with fail
      refine (HWP.out _ HB.out).mono ?_
      rintro e w2 ⟨nv2, pv2, rfl, o2, _, b2⟩
      obtain ⟨aN, cN, rfl⟩ := o2.at.1.shape
      obtain ⟨aP, cP, rfl⟩ := o2.at.2.2.shape
      have b2' := b2.alloc b2.size (.cells #[.slice aN (dropP n k).nodes.length cN, .slice aP (dropP n k).pipes.length cP] 27)
      have hbo := Box.new w2 #[.slice aN (dropP n k).nodes.length cN, .slice aP (dropP n k).pipes.length cP] 27
      have HO2 := hid (HO.out.below b2')
      have HX2 := hid (HX.out.below b2')
      have HB2 := hid (HB.out.trans (b2'.mono HB.out.size))
      have HN2 := hid (o2.at.below (below_new w2 (.cells #[.slice aN (dropP n k).nodes.length cN, .slice aP (dropP n k).pipes.length cP] 27)))
      clear c0 c1
      obtain ⟨U, hU⟩ : ∃ U, U = w2.alloc (.cells #[.slice aN (dropP n k).nodes.length cN, .slice aP (dropP n k).pipes.length cP] 27) := ⟨_, rfl⟩
      rw [← hU] at HO2 HX2 HB2 HN2 hbo
      clear b2 b2' o2
      go_wp2_with fail
      rw [← hU]
      clear hU
      have HSS : Hid (∀ W, Below U.heap.size U W → W.cell? ⟨w.heap.size, 0, none⟩ = some (.slice a0 n.nodes.length k0) ∧ W.cell? ⟨w.heap.size, 1, none⟩ = some (.slice a1 n.pipes.length k1) ∧ W.cell? ⟨w2.heap.size, 0, none⟩ = some (.slice aN (dropP n k).nodes.length cN) ∧ W.cell? ⟨w2.heap.size, 1, none⟩ = some (.slice aP (dropP n k).pipes.length cP)) := fun W hW => by
        obtain ⟨e0, e1⟩ := (HX2.out.below hW).two
        obtain ⟨e2, e3⟩ := (hbo.below hW).two
        exact ⟨e0, e1, e2, e3⟩
      have hd0 := hid ((Below.refl U.heap.size U).drew)
      go_region_held3 (fun W => W.cell? ⟨w.heap.size, 0, none⟩ = some (.slice a0 n.nodes.length k0) ∧ W.cell? ⟨w.heap.size, 1, none⟩ = some (.slice a1 n.pipes.length k1) ∧ W.cell? ⟨w2.heap.size, 0, none⟩ = some (.slice aN (dropP n k).nodes.length cN) ∧ W.cell? ⟨w2.heap.size, 1, none⟩ = some (.slice aP (dropP n k).pipes.length cP))
        (first | exact HSS.out _ B4 | exact HSS.out _ B3 | exact HSS.out _ hd0.out)
        (first
          | (go_at_call 126; refine (HC1.out _ (HB2.out.trans (B3.mono HB2.out.size))).mono ?_; rintro e W4 ⟨rfl, b4⟩; have B4 := B3.trans (b4.mono B3.size))
          | (go_at_call 126; refine (HC2.out _ _ _ (HN2.out.below hd0.out)).mono ?_; rintro e W3 ⟨rfl, b3⟩; have B3 := below_undrew b3))
      have HO4 := hid (HO2.out.below B4)
      have HX4 := hid (HX2.out.below B4)
      have HB4 := hid (HB2.out.trans (B4.mono HB2.out.size))
      by_cases hRR : R < R'
      · have hlI : (R : Int) < R' := by omega
        have hz : Hid (bridgesTo n (k + 1) = bridgesTo n k ++ [(k : Int)]) := by
          have h2 := hS.out
          rw [HBR.out.2 hRR] at h2
          exact (by simpa using h2 : bridgesTo n (k + 1) = bridgesTo n k ++ [(k : Int)])
        have hzz : w.heap.size + 1 ≤ W4.heap.size := by have := HX4.out.1; omega
        clear hRR
        go_wp2_with (at_builtin; refine wpList_app1 rfl (.tmp 30) (.tmp 32) rfl (w.heap.size + 1) u4 _ rfl (HO4.out.alloc _) W4.heap.size (k : Int) rfl ?c1 ?c2 ?c3 ?_)
        case c1 => simp
        case c2 => omega
        case c3 => simp; omega
        intro v1 w5 hv1 hk1 hb1
        have hlo := HO4.out.lt
        have kk : Kept (fun c => w.heap.size + 1 ≤ c) W4 w5 := ((Kept.refl (fun c => w.heap.size + 1 ≤ c) W4).alloc (.cells #[.int .i64 k] 2)).trans (hk1.mono (fun c _ h => (hlo c h).1))
        have HX5 := hid (HX4.out.kept kk (by omega))
        have HB5 := hid (HB4.out.trans (kk.below HB4.out.size (fun c h => by omega)))
        have HV := hid hv1
        clear hv1 hk1 hb1 kk hlo
        go_wp2_with fail
        go_roundw
        case rel => exact ⟨k + 1, by go_num, by omega, by rw [hz.out]; exact HV.out, HX5.out, HB5.out⟩
        case measure => simp [intOf]; omega
      · have hlI : ¬ ((R : Int) < R') := by omega
        have hz : Hid (bridgesTo n (k + 1) = bridgesTo n k) := by
          have h2 := hS.out
          have : isBridge n k = false := by
            cases e : isBridge n k
            · rfl
            · exact absurd (HBR.out.1 e) hRR
          rw [this] at h2
          exact (by simpa using h2 : bridgesTo n (k + 1) = bridgesTo n k)
        clear hRR
        go_wp2_with fail
        go_roundw
        case rel => exact ⟨k + 1, by go_num, by omega, by rw [hz.out]; exact HO4.out, HX4.out, HB4.out⟩
        case measure => simp [intOf]; omega
    · obtain rfl : k = n.pipes.length := by omega
      have HO := hid ho
      have HB := hid hbel
      obtain ⟨_, ra, rc, rfl, _⟩ := ho.slc (by omega)
      clear ho bx hbel
      go_wp2_with fail
      go_ret2
      rw [hr.out]
      exact ⟨_, rfl, (HO.out.slc (by omega)).mono (fun c _ h => ⟨by have := h.1; omega, h.2⟩), HB.out⟩

end Go.Proofs.Ytdapdaadglaoiaa
