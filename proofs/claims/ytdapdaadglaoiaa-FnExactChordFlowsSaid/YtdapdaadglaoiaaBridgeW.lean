/- BridgesOf of both sides. -/
import Derived.Test.YtdapdaadglaoiaaDelS
import Derived.Test.YtdapdaadglaoiaaBridge
import Derived.Test.YtdapdaadglaoiaaCompOf
import Derived.Test.YtdapdaadglaoiaaReg
namespace Go.Proofs.Ytdapdaadglaoiaa
open Go.RowKit

def isBridge (n : Net) (k : Nat) : Bool := !decide ((comps (dropP n k)).getD (pAt n k).fr.toNat 0 = (comps (dropP n k)).getD (pAt n k).to.toNat 0)
def bridgesTo (n : Net) (k : Nat) : List Int := ((List.range k).filter (isBridge n)).map (fun i : Nat => (i : Int))
def brR (n : Net) : List Int × Int := if netB n = true then (bridgesTo n n.pipes.length, 0) else ([], 1)
theorem bridgesTo_succ (n : Net) (k : Nat) : bridgesTo n (k + 1) = bridgesTo n k ++ (if isBridge n k = true then [(k : Int)] else []) := by
  unfold bridgesTo
  rw [List.range_succ, List.filter_append, List.map_append]
  congr 1
  by_cases h : isBridge n k = true <;> simp [h]
theorem bridgesTo_len (n : Net) (k : Nat) : (bridgesTo n k).length ≤ k := by
  unfold bridgesTo
  rw [List.length_map]
  exact Nat.le_trans (List.length_filter_le _ _) (by simp)
theorem brR_len (n : Net) : (brR n).1.length ≤ 2000000 := by
  unfold brR
  split
  · next h =>
    have := bridgesTo_len n n.pipes.length
    have := netB_t h
    simp only; omega
  · simp

def BrRel (n : Net) (l : List Value) (w : World) (i s : Value) (wr : World) : Prop :=
  ∃ k : Nat, i = .int .i64 k ∧ k ≤ n.pipes.length ∧ OwnI 2 (w.heap.size + 1) wr s (bridgesTo n k) ∧ Box wr w.heap.size l ∧ Below w.heap.size w wr

set_option maxHeartbeats 2000000 in
set_option maxRecDepth 100000 in
theorem impl_BridgesOf_any (nv pv : Value) (n : Net) (w : World) (h : NetAt w nv pv n) (hcap : CapOk nv) :
    Calls Try.prog 45 #[.agg #[nv, pv]] w (OutI w (brR n)) := by
  obtain ⟨a0, k0, rfl⟩ := h.1.shape
  obtain ⟨a1, k1, rfl⟩ := h.2.2.shape
  have HP := hid h
  have hWb := below_new w (.cells #[.slice a0 n.nodes.length k0, .slice a1 n.pipes.length k1] 27)
  have hbx := Box.new w #[.slice a0 n.nodes.length k0, .slice a1 n.pipes.length k1] 27
  have h := h.below hWb
  go_enter Try.func45, Try.ntmps45
  go_wp2_with fail
  refine (impl_IsNetwork_any _ _ n _ h hcap).mono ?_
  cases hb : netB n
  · have hr : Hid (brR n = ([], 1)) := by simp [Hid, brR, hb]
    rintro e w1 ⟨rfl, b1⟩
    have HB := hid (hWb.trans (b1.mono hWb.size))
    clear b1 hWb hbx
    go_wp2_with fail
    go_ret2
    rw [hr.out]
    exact ⟨_, rfl, Slc.nil _ _, HB.out⟩
  have hr : Hid (brR n = (bridgesTo n n.pipes.length, 0)) := by simp [Hid, brR, hb]
  have hnl := netB_t hb
  rintro e w1 ⟨rfl, b1⟩
  have HB := hid (hWb.trans (b1.mono hWb.size))
  have HX := hid (hbx.below b1)
  obtain ⟨c0, c1⟩ := (hbx.below b1).two
  have z1 := b1.size
  simp only [World.size_alloc] at z1
  clear b1 hWb hbx h
  go_wp2_with fail
  clear c0 c1
  go_loopw [13, 4] (fun i s wr => BrRel n [.slice a0 n.nodes.length k0, .slice a1 n.pipes.length k1] w i s wr) (fun i _ _ => n.pipes.length - (intOf i).toNat)
  case atStart => exact ⟨0, rfl, by omega, OwnI.nil _ _ _, HX.out, HB.out⟩
  case round =>
    clear HX HB
    obtain ⟨k, rfl, hk, ho, bx, hbel⟩ := hrel
    have hln := bridgesTo_len n k
    by_cases hlt : k < n.pipes.length
    · obtain ⟨pb, po, rfl, hpl, hpc⟩ := (HP.out.below hbel).2.2.at' (by omega)
      obtain ⟨x0, x1, x2, x3, x4⟩ := cellsP (hpc k hlt)
      have hb' := netB_drop hb hlt
      have hcl := comps_len (dropP n k)
      have hdn : (dropP n k).nodes.length = n.nodes.length := rfl
      obtain ⟨f0, f1, t0, t1, hne⟩ := netB_pipe hb (List.getElem_mem hlt)
      obtain ⟨x, hx⟩ : ∃ x : Nat, n.pipes[k].fr = x := ⟨n.pipes[k].fr.toNat, by omega⟩
      obtain ⟨y, hy⟩ : ∃ y : Nat, n.pipes[k].to = y := ⟨n.pipes[k].to.toNat, by omega⟩
      have hbr : Hid (isBridge n k = !decide ((comps (dropP n k)).getD x 0 = (comps (dropP n k)).getD y 0)) := by unfold Hid isBridge; rw [pAt_nat hlt, hx, hy, Int.toNat_natCast, Int.toNat_natCast]
      have hS := hid (bridgesTo_succ n k)
      have HWP : Hid (∀ W : World, Below w.heap.size w W → _) := fun W hW => withoutPipe_any _ _ n k W (HP.out.below hW) (by omega) (by omega) hlt
      have HCO : Hid (∀ (W : World) nv' pv', NetAt W nv' pv' (dropP n k) → _) := fun W nv' pv' hW => componentsOf_any nv' pv' (dropP n k) W hW hb'
      obtain ⟨A, hA⟩ : ∃ A, (comps (dropP n k)).getD x 0 = A := ⟨_, rfl⟩
      obtain ⟨B, hB⟩ : ∃ B, (comps (dropP n k)).getD y 0 = B := ⟨_, rfl⟩
      rw [hx] at x0
      rw [hy] at x1
      rw [hA, hB] at hbr
      obtain ⟨c0, c1⟩ := bx.two
      have HO := hid ho
      have HX := hid bx
      have HB := hid hbel
      have hxl : x < (comps (dropP n k)).length := by omega
      have hyl : y < (comps (dropP n k)).length := by omega
      have hxI : (x : Int) < ((comps (dropP n k)).length : Int) := by omega
      have hyI : (y : Int) < ((comps (dropP n k)).length : Int) := by omega
      have hA' : (comps (dropP n k))[x] = A := by rw [← hA]; simp [List.getD, hxl]
      have hB' : (comps (dropP n k))[y] = B := by rw [← hB]; simp [List.getD, hyl]
      have HA := hid hA'
      have HBB := hid hB'
      have hwb := bx.1
      clear ho bx hbel hpc hA hB hA' hB' hcl hdn
      go_wp2_with fail
      obtain ⟨U, hU⟩ : ∃ U, U = wr.alloc (.cells #[.int .i64 x, .int .i64 y, .int .i64 n.pipes[k].k, .int .i64 n.pipes[k].vol, .int .i64 n.pipes[k].lim] 73) := ⟨_, rfl⟩
      have bU : Below wr.heap.size wr U := by rw [hU]; exact below_new _ _
      have hbp : Box U wr.heap.size [.int .i64 x, .int .i64 y, .int .i64 n.pipes[k].k, .int .i64 n.pipes[k].vol, .int .i64 n.pipes[k].lim] := by rw [hU]; exact Box.new _ _ _
      rw [← hU]
      have HBU := hid (HB.out.trans (bU.mono HB.out.size))
      have HSS : Hid (∀ W, Below U.heap.size U W → W.cell? ⟨w.heap.size, 0, none⟩ = some (.slice a0 n.nodes.length k0) ∧ W.cell? ⟨w.heap.size, 1, none⟩ = some (.slice (some ⟨pb, po, none⟩) n.pipes.length k1) ∧ W.cell? ⟨wr.heap.size, 0, none⟩ = some (.int .i64 x) ∧ W.cell? ⟨wr.heap.size, 1, none⟩ = some (.int .i64 y)) := fun W hW => by
        obtain ⟨e0, e1⟩ := ((HX.out.below bU).below hW).two
        have hp := hbp.below hW
        exact ⟨e0, e1, hp.2 0 (by simp), hp.2 1 (by simp)⟩
      have hd0 := hid ((Below.refl U.heap.size U).drew)
      have HOU := hid (HO.out.below bU)
      have HXU := hid (HX.out.below bU)
      clear hU bU hbp c0 c1 x0 x1 x2 x3 x4
      refine wp_region_held_drew (S := fun W => W.cell? ⟨w.heap.size, 0, none⟩ = some (.slice a0 n.nodes.length k0) ∧ W.cell? ⟨w.heap.size, 1, none⟩ = some (.slice (some ⟨pb, po, none⟩) n.pipes.length k1) ∧ W.cell? ⟨wr.heap.size, 0, none⟩ = some (.int .i64 x) ∧ W.cell? ⟨wr.heap.size, 1, none⟩ = some (.int .i64 y)) (by kernel_rfl) ?_ (fun hHeld => ?_)
      · exact HSS.out _ hd0.out
      refine wpAnyH_take (i := 0) (v := .agg #[.slice a0 n.nodes.length k0, .slice (some ⟨pb, po, none⟩) n.pipes.length k1]) rfl (by kernel_rfl) (by kernel_rfl) (by kernel_rfl) (fun _ _ _ h => h) (Or.inl ⟨by rfl, ?_⟩) (by assumption) ?_
      · intro wq hSw
        try dsimp only at hSw
        go_simp
      try simp only [Act.put]
      refine wpAnyH_take (i := 1) (v := .int .i64 k) rfl (by kernel_rfl) (by kernel_rfl) (by kernel_rfl) (fun _ _ _ h => h) (Or.inl ⟨by rfl, ?_⟩) (by assumption) ?_
      · intro wq hSw
        try dsimp only at hSw
        go_simp
      try simp only [Act.put]
      refine wpAnyH_take (i := 4) (v := .pointer (some ⟨wr.heap.size, 0, none⟩)) rfl (by kernel_rfl) (by kernel_rfl) (by kernel_rfl) (fun _ _ _ h => h) (Or.inl ⟨by rfl, ?_⟩) (by assumption) ?_
      · intro wq hSw
        try dsimp only at hSw
        go_simp
      try simp only [Act.put]
      refine wpAnyH_take (i := 5) (v := .int .i64 x) rfl (by kernel_rfl) (by kernel_rfl) (by kernel_rfl) (fun _ _ _ h => h) (Or.inl ⟨by rfl, ?_⟩) (by assumption) ?_
      · intro wq hSw
        try dsimp only at hSw
        go_simp
      try simp only [Act.put]
      refine wpAnyH_take (i := 8) (v := .agg #[.slice a0 n.nodes.length k0, .slice (some ⟨pb, po, none⟩) n.pipes.length k1]) rfl (by kernel_rfl) (by kernel_rfl) (by kernel_rfl) (fun _ _ _ h => h) (Or.inl ⟨by rfl, ?_⟩) (by assumption) ?_
      · intro wq hSw
        try dsimp only at hSw
        go_simp
      try simp only [Act.put]
      refine wpAnyH_take (i := 9) (v := .int .i64 k) rfl (by kernel_rfl) (by kernel_rfl) (by kernel_rfl) (fun _ _ _ h => h) (Or.inl ⟨by rfl, ?_⟩) (by assumption) ?_
      · intro wq hSw
        try dsimp only at hSw
        go_simp
      try simp only [Act.put]
      refine wpAnyH_take (i := 12) (v := .pointer (some ⟨wr.heap.size, 1, none⟩)) rfl (by kernel_rfl) (by kernel_rfl) (by kernel_rfl) (fun _ _ _ h => h) (Or.inl ⟨by rfl, ?_⟩) (by assumption) ?_
      · intro wq hSw
        try dsimp only at hSw
        go_simp
      try simp only [Act.put]
      refine wpAnyH_take (i := 13) (v := .int .i64 y) rfl (by kernel_rfl) (by kernel_rfl) (by kernel_rfl) (fun _ _ _ h => h) (Or.inl ⟨by rfl, ?_⟩) (by assumption) ?_
      · intro wq hSw
        try dsimp only at hSw
        go_simp
      try simp only [Act.put]
      refine wpAnyH_ready (rs := [2]) (by kernel_rfl) (by simp) ?_
      refine AllReadyH.cons rfl (fun K hK => ?_) AllReadyH.nil
      go_simp
      refine (HWP.out _ (HBU.out.trans (hd0.out.mono HBU.out.size))).mono ?_
      rintro e W1 ⟨nv1, pv1, rfl, o1, _, b1⟩
      have B1 := below_undrew b1
      refine hK.out _ _ ?_ (fun hHeld => ?_)
      · exact HSS.out _ B1
      clear hK K
      try simp only [Act.put]
      refine wpAnyH_ready (rs := [3]) (by kernel_rfl) (by simp) ?_
      refine AllReadyH.cons rfl (fun K hK => ?_) AllReadyH.nil
      go_simp
      refine (HCO.out _ _ _ o1.at).mono ?_
      rintro e W2 ⟨r2, rfl, S2, b2⟩
      have B2 := B1.trans (b2.mono B1.size)
      obtain ⟨_, a2, c2, rfl, _⟩ := id S2
      obtain ⟨g2, f2, rfl, _, hg2, _, hc2⟩ := S2.at (by omega)
      have Q2 := hc2 x hxl
      rw [HA.out] at Q2
      refine hK.out _ _ ?_ (fun hHeld => ?_)
      · exact HSS.out _ B2
      clear hK K
      try simp only [Act.put]
      refine wpAnyH_take (i := 6) (v := .pointer (some ⟨g2, f2 + x, none⟩)) rfl (by kernel_rfl) (by kernel_rfl) (by kernel_rfl) (fun _ _ _ h => h) (Or.inl ⟨by rfl, ?_⟩) (by assumption) ?_
      · intro wq hSw
        try dsimp only at hSw
        go_simp
      try simp only [Act.put]
      refine wpAnyH_strong (S' := fun W => (W.cell? ⟨w.heap.size, 0, none⟩ = some (.slice a0 n.nodes.length k0) ∧ W.cell? ⟨w.heap.size, 1, none⟩ = some (.slice (some ⟨pb, po, none⟩) n.pipes.length k1) ∧ W.cell? ⟨wr.heap.size, 0, none⟩ = some (.int .i64 x) ∧ W.cell? ⟨wr.heap.size, 1, none⟩ = some (.int .i64 y)) ∧ W.cell? ⟨g2, f2 + x, none⟩ = some (.int .i64 A)) (fun W h => h.1) ?_
      have hHeld := And.intro (HSS.out _ B2) Q2
      refine wpAnyH_take (i := 7) (v := .int .i64 A) rfl (by kernel_rfl) (by kernel_rfl) (by kernel_rfl) (fun _ _ _ h => h) (Or.inl ⟨by rfl, ?_⟩) (by assumption) ?_
      · intro wq hSw
        try dsimp only at hSw
        go_simp
      try simp only [Act.put]
      refine wpAnyH_ready (rs := [10]) (by kernel_rfl) (by simp) ?_
      refine AllReadyH.cons rfl (fun K hK => ?_) AllReadyH.nil
      go_simp
      refine (HWP.out _ (HBU.out.trans (B2.mono HBU.out.size))).mono ?_
      rintro e W3 ⟨nv3, pv3, rfl, o3, _, b3⟩
      have B3 := B2.trans (b3.mono B2.size)
      have Q2 := (b3.cell (p := ⟨g2, f2 + x, none⟩) hg2).trans Q2
      have hg23 := Nat.lt_of_lt_of_le hg2 b3.size
      refine hK.out _ _ ?_ (fun hHeld => ?_)
      · exact ⟨HSS.out _ B3, Q2⟩
      clear hK K
      try simp only [Act.put]
      refine wpAnyH_ready (rs := [11]) (by kernel_rfl) (by simp) ?_
      refine AllReadyH.cons rfl (fun K hK => ?_) AllReadyH.nil
      go_simp
      refine (HCO.out _ _ _ o3.at).mono ?_
      rintro e W4 ⟨r4, rfl, S4, b4⟩
      have B4 := B3.trans (b4.mono B3.size)
      have Q2 := (b4.cell (p := ⟨g2, f2 + x, none⟩) hg23).trans Q2
      obtain ⟨_, a4, c4, rfl, _⟩ := id S4
      obtain ⟨g4, f4, rfl, _, hg4, _, hc4⟩ := S4.at (by omega)
      have Q4 := hc4 y hyl
      rw [HBB.out] at Q4
      refine hK.out _ _ ?_ (fun hHeld => ?_)
      · exact ⟨HSS.out _ B4, Q2⟩
      clear hK K
      try simp only [Act.put]
      refine wpAnyH_take (i := 14) (v := .pointer (some ⟨g4, f4 + y, none⟩)) rfl (by kernel_rfl) (by kernel_rfl) (by kernel_rfl) (fun _ _ _ h => h) (Or.inl ⟨by rfl, ?_⟩) (by assumption) ?_
      · intro wq hSw
        try dsimp only at hSw
        go_simp
      try simp only [Act.put]
      refine wpAnyH_strong (S' := fun W => ((W.cell? ⟨w.heap.size, 0, none⟩ = some (.slice a0 n.nodes.length k0) ∧ W.cell? ⟨w.heap.size, 1, none⟩ = some (.slice (some ⟨pb, po, none⟩) n.pipes.length k1) ∧ W.cell? ⟨wr.heap.size, 0, none⟩ = some (.int .i64 x) ∧ W.cell? ⟨wr.heap.size, 1, none⟩ = some (.int .i64 y)) ∧ W.cell? ⟨g2, f2 + x, none⟩ = some (.int .i64 A)) ∧ W.cell? ⟨g4, f4 + y, none⟩ = some (.int .i64 B)) (fun W h => h.1) ?_
      have hHeld := And.intro (And.intro (HSS.out _ B4) Q2) Q4
      refine wpAnyH_take (i := 15) (v := .int .i64 B) rfl (by kernel_rfl) (by kernel_rfl) (by kernel_rfl) (fun _ _ _ h => h) (Or.inl ⟨by rfl, ?_⟩) (by assumption) ?_
      · intro wq hSw
        try dsimp only at hSw
        go_simp
      try simp only [Act.put]
      refine wpAnyH_take (i := 16) (v := .bool (A != B)) rfl (by kernel_rfl) (by kernel_rfl) (by kernel_rfl) (fun _ _ _ h => h) (Or.inl ⟨by rfl, ?_⟩) (by assumption) ?_
      · intro wq hSw
        try dsimp only at hSw
        go_simp
      try simp only [Act.put]
      refine wpAnyH_done (by kernel_rfl) ?_ _
      all_goals
        have HO4 := hid (HOU.out.below B4)
        have HX4 := hid (HXU.out.below B4)
        have HB4 := hid (HBU.out.trans (B4.mono HBU.out.size))
        have z4 := HB4.out.size
        by_cases hAB : A = B
        · have hbt : (A != B) = false := by simp [hAB]
          have hz : Hid (bridgesTo n (k + 1) = bridgesTo n k) := by
            have := hbr.out
            rw [decide_eq_true hAB] at this
            have h2 := hS.out
            rw [this] at h2
            exact (by simpa using h2 : bridgesTo n (k + 1) = bridgesTo n k)
          clear hAB
          go_wp2_with fail
          go_roundw
          case rel => exact ⟨k + 1, by go_num, by omega, by rw [hz.out]; exact HO4.out, HX4.out, HB4.out⟩
          case measure => simp [intOf]; omega
        · have hbt : (A != B) = true := by simp [hAB]
          have hz : Hid (bridgesTo n (k + 1) = bridgesTo n k ++ [(k : Int)]) := by
            have := hbr.out
            rw [decide_eq_false hAB] at this
            have h2 := hS.out
            rw [this] at h2
            exact (by simpa using h2 : bridgesTo n (k + 1) = bridgesTo n k ++ [(k : Int)])
          clear hAB
          have hzz : w.heap.size + 1 ≤ W4.heap.size := by have := HX4.out.1; omega
          go_wp2_with (at_builtin; refine wpList_app1 rfl (.tmp 35) (.tmp 37) rfl (w.heap.size + 1) u4 _ rfl (HO4.out.alloc _) W4.heap.size (k : Int) rfl ?c1 ?c2 ?c3 ?_)
          case c2 => omega
          intro v1 w5 hv1 hk1 hb1
          have hlo := HO4.out.lt
          have kk : Kept (fun c => w.heap.size + 1 ≤ c) W4 w5 := ((Kept.refl (fun c => w.heap.size + 1 ≤ c) W4).alloc (.cells #[.int .i64 k] 2)).trans (hk1.mono (fun c _ h => (hlo c h).1))
          have HX5 := hid (HX4.out.kept kk (by omega))
          have HB5 := hid (HB4.out.trans (kk.below HB4.out.size (fun c h => by omega)))
          have HV := hid hv1
          clear hv1 hk1 hb1 kk hlo
          go_wp2_with fail
          go_roundw
          case rel => exact ⟨k + 1, by go_num, by omega, by rw [hz.out]; exact HV.out, HX5.out, HB5.out⟩
          case measure => simp [intOf]; omega
    · obtain rfl : k = n.pipes.length := by omega
      have HO := hid ho
      have HB := hid hbel
      obtain ⟨_, ra, rc, rfl, _⟩ := ho.slc (by omega)
      clear ho bx hbel
      go_wp2_with fail
      go_ret2
      rw [hr.out]
      exact ⟨_, rfl, (HO.out.slc (by omega)).mono (fun c _ h => ⟨by have := h.1; omega, h.2⟩), HB.out⟩

end Go.Proofs.Ytdapdaadglaoiaa
