/- RenameNode of both sides. -/
import Derived.Test.YtdapdaadglaoiaaTurn
namespace Go.Proofs.Ytdapdaadglaoiaa
open Go.RowKit

def renN (n : Net) (k : Nat) (s : ByteArray) : Net := ⟨n.nodes.set k ⟨s, (n.nodes.getD k zN).low, (n.nodes.getD k zN).high⟩, n.pipes⟩
def rnR (n : Net) (x : Int) (s : ByteArray) : Net × Int := if codeNs n [x] = 0 then (if netB (renN n x.toNat s) = true then (renN n x.toNat s, 0) else (zNet, 5)) else (zNet, codeNs n [x])
theorem rnR_len (n : Net) (x : Int) (s : ByteArray) (h1 : n.nodes.length ≤ 2000000) (h2 : n.pipes.length ≤ 2000000) : (rnR n x s).1.nodes.length ≤ 2000000 ∧ (rnR n x s).1.pipes.length ≤ 2000000 := by
  unfold rnR
  split
  · split
    · exact ⟨by simpa [renN] using h1, h2⟩
    · simp [zNet]
  · simp [zNet]
theorem codeNs_one' {n : Net} {v : Int} (h : codeNs n [v] = 0) : netB n = true ∧ 0 ≤ v ∧ v < n.nodes.length := by
  unfold codeNs at h
  split at h
  · next hb =>
    split at h
    · next hv =>
      have := inB_t (by simpa using hv : inB v 0 ((n.nodes.length : Int) - 1) = true)
      exact ⟨hb, by omega, by omega⟩
    · cases h
  · cases h

set_option maxHeartbeats 1000000 in
set_option maxRecDepth 100000 in
theorem impl_RenameNode_any (nv pv : Value) (n : Net) (x : Int) (s : ByteArray) (w : World) (h : NetAt w nv pv n) (hcap : CapOk nv) (hss : s.size ≤ 9223372036854775807) :
    Calls Try.prog 69 #[.agg #[nv, pv], .int .i64 x, .string s] w (OutN w (rnR n x s)) := by
  obtain ⟨a0, k0, rfl⟩ := h.1.shape
  obtain ⟨a1, k1, rfl⟩ := h.2.2.shape
  have hl2 := h.2.2.1
  obtain ⟨W0, hW0⟩ : ∃ W0, W0 = (w.alloc (.cells #[.slice a0 n.nodes.length k0, .slice a1 n.pipes.length k1] 27)).alloc (.cells #[.slice none 0 0, .slice none 0 0] 27) := ⟨_, rfl⟩
  have hWb : Below w.heap.size w W0 := by rw [hW0]; exact (below_new w _).alloc (by simp) _
  have hsz : W0.heap.size = w.heap.size + 1 + 1 := by rw [hW0]; simp
  have HC : Hid (∀ W, Below W0.heap.size W0 W → _) := fun W hW => two_boxes hW0 hW
  have HN : Hid (∀ W, Below W0.heap.size W0 W → NetAt W (.slice a0 n.nodes.length k0) (.slice a1 n.pipes.length k1) n) := fun W hW => (h.below hWb).below hW
  obtain ⟨c0, c1, r0, r1, f0, f1⟩ := HC.out W0 (Below.refl _ _)
  have HW := hid hWb
  clear h hWb
  go_enter Try.func69, Try.ntmps69
  go_wp2_with fail
  rw [← hW0]
  have HW0 := hid hW0
  clear hW0
  have hvb := Box.new W0 #[.int .i64 x] 2
  rw [hsz] at hvb
  have bW := below_new W0 (.cells #[.int .i64 x] 2)
  have hcell : ∀ j (hj : j < [x].length), (W0.alloc (.cells #[.int .i64 x] 2)).cell? ⟨w.heap.size + 1 + 1, j, none⟩ = some (.int .i64 [x][j]) := fun j hj => by
    obtain rfl : j = 0 := by simpa using hj
    exact hvb.2 0 (by simp)
  refine (checkNodes_any _ _ n (w.heap.size + 1 + 1) [x] 1 _ (HN.out _ bW) hcap hvb.1 hcell (by simp)).mono ?_
  clear hcell hvb
  by_cases hc : codeNs n [x] = 0
  case neg =>
    have hr : Hid (rnR n x s = (zNet, codeNs n [x])) := by simp [Hid, rnR, hc]
    obtain ⟨c, hcc⟩ : ∃ c, codeNs n [x] = c := ⟨_, rfl⟩
    rw [hcc] at hr hc ⊢
    have hc' : (c != 0) = true := by simpa using hc
    rintro e w1 ⟨rfl, b1⟩
    have b1 := bW.trans (b1.mono bW.size)
    obtain ⟨d0, d1, r0', r1', f0', f1'⟩ := HC.out _ b1
    have HB := hid (HW.out.trans (b1.mono HW.out.size))
    clear b1 c0 c1 r0 r1 f0 f1 hcc
    go_wp2_with fail
    refine bodyPost_ret (v := .tuple #[.agg #[.slice none 0 0, .slice none 0 0], .int .i64 c]) (by simp [results, Try.results69, go_sem, r0', r1']) rfl ?_
    rw [hr.out]
    exact ⟨_, _, rfl, NetApart.zero _ _ _, ⟨CapOk.mk (Nat.le_refl _), CapOk.mk (Nat.le_refl _)⟩, HB.out.trans ((kept_two _ _ _).below HB.out.size (fun b hb => by omega))⟩
  obtain ⟨hb, hx0, hx1⟩ := codeNs_one' hc
  have hnl := netB_t hb
  obtain ⟨k, rfl⟩ : ∃ k : Nat, x = k := ⟨x.toNat, by omega⟩
  have hk : k < n.nodes.length := by omega
  have hr0 : Hid (rnR n k s = if netB (renN n k s) = true then (renN n k s, 0) else (zNet, 5)) := by simp [Hid, rnR, hc]
  rw [hc]
  rintro e w2 ⟨rfl, b2⟩
  have b2 := bW.trans (b2.mono bW.size)
  obtain ⟨d0, d1, r0', r1', f0', f1'⟩ := HC.out _ b2
  clear c0 c1 r0 r1 f0 f1
  go_wp2_with fail
  refine (cloneNetwork_any _ _ n _ (HN.out _ b2) (by omega) (by omega)).mono ?_
  clear d0 d1 r0' r1' f0' f1'
  rintro e w3 ⟨nv', pv', rfl, oo, ⟨q0, q1⟩, b3⟩
  have B3 := b2.trans (b3.mono b2.size)
  obtain ⟨X, Y, hX, hY, hd, oN, hok, oP⟩ := oo
  obtain ⟨aN, cN, rfl⟩ := oN.at.shape
  obtain ⟨aP, cP, rfl⟩ := oP.at.shape
  obtain ⟨pb, po, rfl, hpl, hXp, hpf, hpc⟩ := oN.at' (by omega)
  have z2 := b2.size
  have z3 := b3.size
  obtain ⟨d0, d1, r0', r1', f0', f1'⟩ := HC.out _ B3
  obtain ⟨x0, x1, x2⟩ := cellsN (hpc k hk)
  have p0 := hpf (po + k * 3)
  have HB3 := hid (HW.out.trans (B3.mono HW.out.size))
  have hyb := hX pb hXp
  have hkI : (k : Int) < n.nodes.length := by omega
  have HREN : Hid (renN n k s = ⟨n.nodes.set k ⟨s, n.nodes[k].low, n.nodes[k].high⟩, n.pipes⟩) := by simp [Hid, renN, List.getD, hk]
  -- the world in which the copy has its new name
  obtain ⟨W4, hW4⟩ : ∃ W4, W4 = w3.setCell ⟨pb, po + k * 3, none⟩ (.string s) := ⟨_, rfl⟩
  have K1 : Kept (fun b => b = pb) w3 W4 := by rw [hW4]; exact (Kept.refl (fun b => b = pb) w3).setCell (p := ⟨pb, po + k * 3, none⟩) rfl _
  have oN4 : RowsOwn encN 3 X W4 (.slice (some ⟨pb, po, none⟩) n.nodes.length cN) (renN n k s).nodes := by rw [HREN.out, hW4]; exact oN.setName k hk s
  have oP4 : RowsOwn encP 5 Y W4 (.slice aP n.pipes.length cP) (renN n k s).pipes := by rw [HREN.out]; exact oP.kept K1 (fun b _ hb e => hd pb hXp (e ▸ hb))
  have hok4 : NamesOk (renN n k s).nodes := by
    rw [HREN.out]
    intro y hy
    rcases List.mem_or_eq_of_mem_set hy with h | h
    · exact hok y h
    · rw [h]; exact hss
  have hO := (below_new W4 (.cells #[.slice (some ⟨pb, po, none⟩) n.nodes.length cN, .slice aP n.pipes.length cP] 27))
  have HNX := hid (show NetAt (W4.alloc (.cells #[.slice (some ⟨pb, po, none⟩) n.nodes.length cN, .slice aP n.pipes.length cP] 27)) (.slice (some ⟨pb, po, none⟩) n.nodes.length cN) (.slice aP n.pipes.length cP) (renN n k s) from ⟨(oN4.below hO).at, hok4, (oP4.below hO).at⟩)
  have HO4 := hid oN4
  have HP4 := hid oP4
  have HK4 := hid hok4
  have h1s : w.heap.size < w3.heap.size := by omega
  have h2s : w.heap.size + 1 < w3.heap.size := by omega
  have HW4 := hid hW4
  have hz4 : W4.heap.size = w3.heap.size := by rw [hW4]; simp
  clear b2 b3 B3 oN oP oN4 oP4 hok4 hpc hpf hx0 hx1 hO
  go_wp2_with fail
  rw [← hW4]
  clear hW4
  refine (impl_IsNetwork_any _ _ (renN n k s) _ HNX.out q0).mono ?_
  have z4 := K1.size
  have e0 := K1.cell r0' (by simp only; omega)
  have e1 := K1.cell r1' (by simp only; omega)
  have u0 := (World.frozen?_of_block (w := w3) (a := ⟨w.heap.size + 1, 0, none⟩) (K1.block _ h2s (by show ¬ (w.heap.size + 1 = pb); omega))).trans f0'
  have u1 := (World.frozen?_of_block (w := w3) (a := ⟨w.heap.size + 1, 1, none⟩) (K1.block _ h2s (by show ¬ (w.heap.size + 1 = pb); omega))).trans f1'
  have hbo := Box.new W4 #[.slice (some ⟨pb, po, none⟩) n.nodes.length cN, .slice aP n.pipes.length cP] 27
  have HBo := hid hbo
  have hz := HB3.out.size
  have HBW := hid (HB3.out.trans (K1.below hz (fun b hb => by omega)))
  have h3s : w.heap.size + 1 < W4.heap.size := by omega
  have KK := hid K1
  clear d0 d1 r0' r1' f0' f1' K1 hbo x0 x1 x2 p0
  cases hv : netB (renN n k s)
  · have hr : Hid (rnR n k s = (zNet, 5)) := hr0.out.trans (if_neg (by rw [hv]; decide))
    rintro e w5 ⟨rfl, b5⟩
    have b5' : Below W4.heap.size W4 w5 := (below_new W4 _).trans (b5.mono (by simp))
    have g0 := (b5'.cell (p := ⟨w.heap.size + 1, 0, none⟩) h3s).trans e0
    have g1 := (b5'.cell (p := ⟨w.heap.size + 1, 1, none⟩) h3s).trans e1
    have v0 := (b5'.frozen (p := ⟨w.heap.size + 1, 0, none⟩) h3s).trans u0
    have v1 := (b5'.frozen (p := ⟨w.heap.size + 1, 1, none⟩) h3s).trans u1
    have HB := hid (HBW.out.trans (b5'.mono HBW.out.size))
    clear b5 b5' e0 e1 u0 u1
    go_wp2_with fail
    refine bodyPost_ret (v := .tuple #[.agg #[.slice none 0 0, .slice none 0 0], .int .i64 5]) (by simp [results, Try.results69, go_sem, g0, g1]) rfl ?_
    rw [hr.out]
    exact ⟨_, _, rfl, NetApart.zero _ _ _, ⟨CapOk.mk (Nat.le_refl _), CapOk.mk (Nat.le_refl _)⟩, HB.out.trans ((kept_two _ _ _).below HB.out.size (fun b hb => by omega))⟩
  · have hr : Hid (rnR n k s = (renN n k s, 0)) := hr0.out.trans (if_pos hv)
    rintro e w5 ⟨rfl, b5⟩
    have b5' : Below W4.heap.size W4 w5 := (below_new W4 _).trans (b5.mono (by simp))
    have g0 := (b5'.cell (p := ⟨w.heap.size + 1, 0, none⟩) h3s).trans e0
    have g1 := (b5'.cell (p := ⟨w.heap.size + 1, 1, none⟩) h3s).trans e1
    have v0 := (b5'.frozen (p := ⟨w.heap.size + 1, 0, none⟩) h3s).trans u0
    have v1 := (b5'.frozen (p := ⟨w.heap.size + 1, 1, none⟩) h3s).trans u1
    obtain ⟨o0, o1⟩ := (HBo.out.below b5).two
    rw [hz4] at o0 o1
    have HB := hid (HBW.out.trans (b5'.mono HBW.out.size))
    have HO5 := hid (HO4.out.below b5')
    have HP5 := hid (HP4.out.below b5')
    have z5 := b5'.size
    clear b5 b5' e0 e1 u0 u1
    go_wp2_with fail
    have K2 := kept_two (w := w5) (w.heap.size + 1) (.slice (some ⟨pb, po, none⟩) n.nodes.length cN) (.slice aP n.pipes.length cP)
    obtain ⟨t0, t1⟩ := (box_two_set (x := .slice (some ⟨pb, po, none⟩) n.nodes.length cN) (y := .slice aP n.pipes.length cP) g0 g1).two
    refine bodyPost_ret (v := .tuple #[.agg #[.slice (some ⟨pb, po, none⟩) n.nodes.length cN, .slice aP n.pipes.length cP], .int .i64 0]) (by simp only [results, Try.results69]; simp [go_sem, t0, t1]) rfl ?_
    rw [hr.out]
    refine ⟨_, _, rfl, ⟨X, Y, fun b hb => ⟨by have := hX b hb; omega, by have := hX b hb; simp only [World.size_setCell]; omega⟩, fun b hb => ⟨by have := hY b hb; omega, by have := hY b hb; simp only [World.size_setCell]; omega⟩, hd, ?_, HK4.out, ?_⟩, ⟨q0, q1⟩, HB.out.trans (K2.below HB.out.size (fun b hb => by omega))⟩
    · exact HO5.out.kept K2 (fun b _ hb e => by have := hX b hb; omega)
    · exact HP5.out.kept K2 (fun b _ hb e => by have := hY b hb; omega)

set_option maxHeartbeats 1000000 in
set_option maxRecDepth 100000 in
theorem spec_RenameNode_any (nv pv : Value) (n : Net) (x : Int) (s : ByteArray) (w : World) (h : NetAt w nv pv n) (hss : s.size ≤ 9223372036854775807) :
    Calls Try.prog 70 #[.agg #[nv, pv], .int .i64 x, .string s] w (OutN w (rnR n x s)) := by
  obtain ⟨a0, k0, rfl⟩ := h.1.shape
  obtain ⟨a1, k1, rfl⟩ := h.2.2.shape
  have hl2 := h.2.2.1
  obtain ⟨W0, hW0⟩ : ∃ W0, W0 = (w.alloc (.cells #[.slice a0 n.nodes.length k0, .slice a1 n.pipes.length k1] 27)).alloc (.cells #[.slice none 0 0, .slice none 0 0] 27) := ⟨_, rfl⟩
  have hWb : Below w.heap.size w W0 := by rw [hW0]; exact (below_new w _).alloc (by simp) _
  have hsz : W0.heap.size = w.heap.size + 1 + 1 := by rw [hW0]; simp
  have HC : Hid (∀ W, Below W0.heap.size W0 W → _) := fun W hW => two_boxes hW0 hW
  have HN : Hid (∀ W, Below W0.heap.size W0 W → NetAt W (.slice a0 n.nodes.length k0) (.slice a1 n.pipes.length k1) n) := fun W hW => (h.below hWb).below hW
  obtain ⟨c0, c1, r0, r1, f0, f1⟩ := HC.out W0 (Below.refl _ _)
  have HW := hid hWb
  clear h hWb
  go_enter Try.func70, Try.ntmps70
  go_wp2_with fail
  rw [← hW0]
  have HW0 := hid hW0
  clear hW0
  refine (l02NodeCode_any _ _ n x _ (HN.out _ (Below.refl _ _))).mono ?_
  by_cases hc : codeNs n [x] = 0
  case neg =>
    have hr : Hid (rnR n x s = (zNet, codeNs n [x])) := by simp [Hid, rnR, hc]
    obtain ⟨c, hcc⟩ : ∃ c, codeNs n [x] = c := ⟨_, rfl⟩
    rw [hcc] at hr hc ⊢
    have hc' : (c != 0) = true := by simpa using hc
    rintro e w1 ⟨rfl, b1⟩
    obtain ⟨d0, d1, r0', r1', f0', f1'⟩ := HC.out _ b1
    have HB := hid (HW.out.trans (b1.mono HW.out.size))
    clear b1 c0 c1 r0 r1 f0 f1 hcc
    go_wp2_with fail
    refine bodyPost_ret (v := .tuple #[.agg #[.slice none 0 0, .slice none 0 0], .int .i64 c]) (by simp [results, Try.results70, go_sem, r0', r1']) rfl ?_
    rw [hr.out]
    exact ⟨_, _, rfl, NetApart.zero _ _ _, ⟨CapOk.mk (Nat.le_refl _), CapOk.mk (Nat.le_refl _)⟩, HB.out.trans ((kept_two _ _ _).below HB.out.size (fun b hb => by omega))⟩
  obtain ⟨hb, hx0, hx1⟩ := codeNs_one' hc
  have hnl := netB_t hb
  obtain ⟨k, rfl⟩ : ∃ k : Nat, x = k := ⟨x.toNat, by omega⟩
  have hk : k < n.nodes.length := by omega
  have hr0 : Hid (rnR n k s = if netB (renN n k s) = true then (renN n k s, 0) else (zNet, 5)) := by simp [Hid, rnR, hc]
  rw [hc]
  rintro e w2 ⟨rfl, b2⟩
  obtain ⟨d0, d1, r0', r1', f0', f1'⟩ := HC.out _ b2
  clear c0 c1 r0 r1 f0 f1
  go_wp2_with fail
  refine (l02Own_any _ _ n _ (HN.out _ b2) (by omega) (by omega)).mono ?_
  clear d0 d1 r0' r1' f0' f1'
  rintro e w3 ⟨nv', pv', rfl, oo, ⟨q0, q1⟩, b3⟩
  have B3 := b2.trans (b3.mono b2.size)
  obtain ⟨X, Y, hX, hY, hd, oN, hok, oP⟩ := oo
  obtain ⟨aN, cN, rfl⟩ := oN.at.shape
  obtain ⟨aP, cP, rfl⟩ := oP.at.shape
  obtain ⟨pb, po, rfl, hpl, hXp, hpf, hpc⟩ := oN.at' (by omega)
  have z2 := b2.size
  have z3 := b3.size
  obtain ⟨d0, d1, r0', r1', f0', f1'⟩ := HC.out _ B3
  obtain ⟨x0, x1, x2⟩ := cellsN (hpc k hk)
  have p0 := hpf (po + k * 3)
  have HB3 := hid (HW.out.trans (B3.mono HW.out.size))
  have hyb := hX pb hXp
  have hkI : (k : Int) < n.nodes.length := by omega
  have HREN : Hid (renN n k s = ⟨n.nodes.set k ⟨s, n.nodes[k].low, n.nodes[k].high⟩, n.pipes⟩) := by simp [Hid, renN, List.getD, hk]
  -- the world in which the copy has its new name
  obtain ⟨W4, hW4⟩ : ∃ W4, W4 = w3.setCell ⟨pb, po + k * 3, none⟩ (.string s) := ⟨_, rfl⟩
  have K1 : Kept (fun b => b = pb) w3 W4 := by rw [hW4]; exact (Kept.refl (fun b => b = pb) w3).setCell (p := ⟨pb, po + k * 3, none⟩) rfl _
  have oN4 : RowsOwn encN 3 X W4 (.slice (some ⟨pb, po, none⟩) n.nodes.length cN) (renN n k s).nodes := by rw [HREN.out, hW4]; exact oN.setName k hk s
  have oP4 : RowsOwn encP 5 Y W4 (.slice aP n.pipes.length cP) (renN n k s).pipes := by rw [HREN.out]; exact oP.kept K1 (fun b _ hb e => hd pb hXp (e ▸ hb))
  have hok4 : NamesOk (renN n k s).nodes := by
    rw [HREN.out]
    intro y hy
    rcases List.mem_or_eq_of_mem_set hy with h | h
    · exact hok y h
    · rw [h]; exact hss
  have hO := (below_new W4 (.cells #[.slice (some ⟨pb, po, none⟩) n.nodes.length cN, .slice aP n.pipes.length cP] 27))
  have HNX := hid (show NetAt (W4.alloc (.cells #[.slice (some ⟨pb, po, none⟩) n.nodes.length cN, .slice aP n.pipes.length cP] 27)) (.slice (some ⟨pb, po, none⟩) n.nodes.length cN) (.slice aP n.pipes.length cP) (renN n k s) from ⟨(oN4.below hO).at, hok4, (oP4.below hO).at⟩)
  have HO4 := hid oN4
  have HP4 := hid oP4
  have HK4 := hid hok4
  have h1s : w.heap.size < w3.heap.size := by omega
  have h2s : w.heap.size + 1 < w3.heap.size := by omega
  have HW4 := hid hW4
  have hz4 : W4.heap.size = w3.heap.size := by rw [hW4]; simp
  clear b2 b3 B3 oN oP oN4 oP4 hok4 hpc hpf hx0 hx1 hO
  go_wp2_with fail
  rw [← hW4]
  clear hW4
  refine (spec_IsNetwork_any _ _ (renN n k s) _ HNX.out).mono ?_
  have z4 := K1.size
  have e0 := K1.cell r0' (by simp only; omega)
  have e1 := K1.cell r1' (by simp only; omega)
  have u0 := (World.frozen?_of_block (w := w3) (a := ⟨w.heap.size + 1, 0, none⟩) (K1.block _ h2s (by show ¬ (w.heap.size + 1 = pb); omega))).trans f0'
  have u1 := (World.frozen?_of_block (w := w3) (a := ⟨w.heap.size + 1, 1, none⟩) (K1.block _ h2s (by show ¬ (w.heap.size + 1 = pb); omega))).trans f1'
  have hbo := Box.new W4 #[.slice (some ⟨pb, po, none⟩) n.nodes.length cN, .slice aP n.pipes.length cP] 27
  have HBo := hid hbo
  have hz := HB3.out.size
  have HBW := hid (HB3.out.trans (K1.below hz (fun b hb => by omega)))
  have h3s : w.heap.size + 1 < W4.heap.size := by omega
  have KK := hid K1
  clear d0 d1 r0' r1' f0' f1' K1 hbo x0 x1 x2 p0
  cases hv : netB (renN n k s)
  · have hr : Hid (rnR n k s = (zNet, 5)) := hr0.out.trans (if_neg (by rw [hv]; decide))
    rintro e w5 ⟨rfl, b5⟩
    have b5' : Below W4.heap.size W4 w5 := (below_new W4 _).trans (b5.mono (by simp))
    have g0 := (b5'.cell (p := ⟨w.heap.size + 1, 0, none⟩) h3s).trans e0
    have g1 := (b5'.cell (p := ⟨w.heap.size + 1, 1, none⟩) h3s).trans e1
    have v0 := (b5'.frozen (p := ⟨w.heap.size + 1, 0, none⟩) h3s).trans u0
    have v1 := (b5'.frozen (p := ⟨w.heap.size + 1, 1, none⟩) h3s).trans u1
    have HB := hid (HBW.out.trans (b5'.mono HBW.out.size))
    clear b5 b5' e0 e1 u0 u1
    go_wp2_with fail
    refine bodyPost_ret (v := .tuple #[.agg #[.slice none 0 0, .slice none 0 0], .int .i64 5]) (by simp [results, Try.results70, go_sem, g0, g1]) rfl ?_
    rw [hr.out]
    exact ⟨_, _, rfl, NetApart.zero _ _ _, ⟨CapOk.mk (Nat.le_refl _), CapOk.mk (Nat.le_refl _)⟩, HB.out.trans ((kept_two _ _ _).below HB.out.size (fun b hb => by omega))⟩
  · have hr : Hid (rnR n k s = (renN n k s, 0)) := hr0.out.trans (if_pos hv)
    rintro e w5 ⟨rfl, b5⟩
    have b5' : Below W4.heap.size W4 w5 := (below_new W4 _).trans (b5.mono (by simp))
    have g0 := (b5'.cell (p := ⟨w.heap.size + 1, 0, none⟩) h3s).trans e0
    have g1 := (b5'.cell (p := ⟨w.heap.size + 1, 1, none⟩) h3s).trans e1
    have v0 := (b5'.frozen (p := ⟨w.heap.size + 1, 0, none⟩) h3s).trans u0
    have v1 := (b5'.frozen (p := ⟨w.heap.size + 1, 1, none⟩) h3s).trans u1
    obtain ⟨o0, o1⟩ := (HBo.out.below b5).two
    rw [hz4] at o0 o1
    have HB := hid (HBW.out.trans (b5'.mono HBW.out.size))
    have HO5 := hid (HO4.out.below b5')
    have HP5 := hid (HP4.out.below b5')
    have z5 := b5'.size
    clear b5 b5' e0 e1 u0 u1
    go_wp2_with fail
    have K2 := kept_two (w := w5) (w.heap.size + 1) (.slice (some ⟨pb, po, none⟩) n.nodes.length cN) (.slice aP n.pipes.length cP)
    obtain ⟨t0, t1⟩ := (box_two_set (x := .slice (some ⟨pb, po, none⟩) n.nodes.length cN) (y := .slice aP n.pipes.length cP) g0 g1).two
    refine bodyPost_ret (v := .tuple #[.agg #[.slice (some ⟨pb, po, none⟩) n.nodes.length cN, .slice aP n.pipes.length cP], .int .i64 0]) (by simp only [results, Try.results70]; simp [go_sem, t0, t1]) rfl ?_
    rw [hr.out]
    refine ⟨_, _, rfl, ⟨X, Y, fun b hb => ⟨by have := hX b hb; omega, by have := hX b hb; simp only [World.size_setCell]; omega⟩, fun b hb => ⟨by have := hY b hb; omega, by have := hY b hb; simp only [World.size_setCell]; omega⟩, hd, ?_, HK4.out, ?_⟩, ⟨q0, q1⟩, HB.out.trans (K2.below HB.out.size (fun b hb => by omega))⟩
    · exact HO5.out.kept K2 (fun b _ hb e => by have := hX b hb; omega)
    · exact HP5.out.kept K2 (fun b _ hb e => by have := hY b hb; omega)

end Go.Proofs.Ytdapdaadglaoiaa
