/- WithoutPipe of the reference. -/
import Derived.Test.YtdapdaadglaoiaaDel
namespace Go.Proofs.Ytdapdaadglaoiaa
open Go.RowKit

/-- A slice's tail. -/
theorem rows_tail {w : World} {b off cap : Nat} {xs : List Pp} (h : RowsAt encP 5 w (.slice (some ⟨b, off, none⟩) xs.length cap) xs) (hcap : xs.length ≤ cap) (k : Nat) (hk : k < xs.length) (A : Addr) (hA : (if cap = k + 1 then some (⟨b, off, none⟩ : Addr) else some ⟨b, off + (k + 1) * 5, none⟩) = some A) (c : Nat) :
    RowsAt encP 5 w (.slice (some A) (xs.length - (k + 1)) c) (xs.drop (k + 1)) := by
  obtain ⟨b', off', ha, hbl, hcc⟩ := h.at' (by omega)
  simp only [Option.some.injEq, Addr.mk.injEq, and_true] at ha
  obtain ⟨rfl, rfl⟩ := ha
  refine ⟨by have := h.1; simp; omega, some A, c, by simp, ?_⟩
  by_cases hc : cap = k + 1
  · exact Or.inl (List.drop_of_length_le (by omega))
  · rw [if_neg hc] at hA
    refine Or.inr ⟨b, off + (k + 1) * 5, hA.symm, hbl, fun i hi => ?_⟩
    have hi' : i < xs.length - (k + 1) := by simpa using hi
    have := hcc (k + 1 + i) (by omega)
    rw [(by omega : off + (k + 1) * 5 + i * 5 = off + (k + 1 + i) * 5), List.getElem_drop]
    exact this

set_option maxHeartbeats 1000000 in
set_option maxRecDepth 100000 in
theorem spec_WithoutPipe_any (nv pv : Value) (n : Net) (x : Int) (w : World) (h : NetAt w nv pv n) (hcap : CapOk pv) :
    Calls Try.prog 67 #[.agg #[nv, pv], .int .i64 x] w (OutN w (wpR n x)) := by
  obtain ⟨a0, k0, rfl⟩ := h.1.shape
  obtain ⟨a1, k1, rfl⟩ := h.2.2.shape
  have hl2 := h.2.2.1
  have hcl := hcap.le
  obtain ⟨W0, hW0⟩ : ∃ W0, W0 = (w.alloc (.cells #[.slice a0 n.nodes.length k0, .slice a1 n.pipes.length k1] 27)).alloc (.cells #[.slice none 0 0, .slice none 0 0] 27) := ⟨_, rfl⟩
  have hWb : Below w.heap.size w W0 := by rw [hW0]; exact (below_new w _).alloc (by simp) _
  have hsz : W0.heap.size = w.heap.size + 1 + 1 := by rw [hW0]; simp
  have HC : Hid (∀ W, Below W0.heap.size W0 W → _) := fun W hW => two_boxes hW0 hW
  have HN : Hid (∀ W, Below W0.heap.size W0 W → NetAt W (.slice a0 n.nodes.length k0) (.slice a1 n.pipes.length k1) n) := fun W hW => (h.below hWb).below hW
  obtain ⟨c0, c1, r0, r1, f0, f1⟩ := HC.out W0 (Below.refl _ _)
  have HW := hid hWb
  have HNW := hid h
  clear h hWb
  go_enter Try.func67, Try.ntmps67
  go_wp2_with fail
  rw [← hW0]
  have HW0 := hid hW0
  clear hW0
  refine (l02PipeCode_any _ _ n x _ (HN.out _ (Below.refl _ _))).mono ?_
  by_cases hc : codeOf n n.pipes.length x = 0
  case neg =>
    have hr : Hid (wpR n x = (zNet, codeOf n n.pipes.length x)) := by simp [Hid, wpR, hc]
    obtain ⟨c, hcc⟩ : ∃ c, codeOf n n.pipes.length x = c := ⟨_, rfl⟩
    rw [hcc] at hr hc ⊢
    have hc' : (c != 0) = true := by simpa using hc
    rintro e w1 ⟨rfl, b1⟩
    obtain ⟨d0, d1, r0', r1', f0', f1'⟩ := HC.out _ b1
    have HB := hid (HW.out.trans (b1.mono HW.out.size))
    clear b1 c0 c1 r0 r1 f0 f1 hcc
    go_wp2_with fail
    refine bodyPost_ret (v := .tuple #[.agg #[.slice none 0 0, .slice none 0 0], .int .i64 c]) (by simp [results, Try.results67, go_sem, r0', r1']) rfl ?_
    rw [hr.out]
    exact ⟨_, _, rfl, NetApart.zero _ _ _, ⟨CapOk.mk (Nat.le_refl _), CapOk.mk (Nat.le_refl _)⟩, HB.out.trans ((kept_two _ _ _).below HB.out.size (fun b hb => by omega))⟩
  obtain ⟨hb, hx0, hx1⟩ := codeOf_zero hc
  have hnl := netB_t hb
  obtain ⟨k, rfl⟩ : ∃ k : Nat, x = k := ⟨x.toNat, by omega⟩
  have hk : k < n.pipes.length := by omega
  have hr : Hid (wpR n k = (dropNet n k, 0)) := by simp [Hid, wpR, hc]
  rw [hc]
  rintro e w2 ⟨rfl, b2⟩
  obtain ⟨d0, d1, r0', r1', f0', f1'⟩ := HC.out _ b2
  obtain ⟨sb, so, rfl, hsl, _⟩ := (HN.out _ b2).2.2.at' (by omega)
  have z2 := b2.size
  have hkI : (k : Int) < n.pipes.length := by omega
  have hkc : k ≤ k1 := by omega
  have hI0 : (0 : Int) ≤ (k : Int) + 1 := by omega
  have hI1 : (k : Int) + 1 ≤ (n.pipes.length : Int) := by omega
  obtain ⟨A, hA⟩ : ∃ A : Addr, (if k1 = k + 1 then some (⟨sb, so, none⟩ : Addr) else some ⟨sb, so + (k + 1) * 5, none⟩) = some A := by
    split
    · exact ⟨_, rfl⟩
    · exact ⟨_, rfl⟩
  have hsum : IntKind.i64.wrap ((k : Int) + 1) = (k : Int) + 1 := IntWalk.i64_in _ (by omega)
  have HB2 := hid (HW.out.trans (b2.mono HW.out.size))
  have HPT := hid ((HN.out _ b2).2.2.take k (by omega) k1)
  have HBB := hid b2
  have h1s : w.heap.size < w2.heap.size := by omega
  have h2s : w.heap.size + 1 < w2.heap.size := by omega
  have hlt : (n.pipes.take k).length = k := by simp; omega
  have HPT2 : Hid (RowsAt encP 5 w2 (.slice (some ⟨sb, so, none⟩) k k1) (n.pipes.take k)) := HPT.out
  clear c0 c1 r0 r1 f0 f1 hx0 hx1 b2 HPT
  go_wp2_with (at_builtin; refine wpList_appP rfl (.tmp 15) (.tmp 19) rfl w2.heap.size (.slice (some ⟨w2.heap.size, 0, none⟩) 0 0) _ [] (n.pipes.take k) rfl rfl (OwnR.made _ _ _ _ _ (Nat.le_refl _)) (HPT2.out.below (below_new _ _)) ?c1 ?c2 ?_)
  case c1 => simp; omega
  case c2 => simp
  intro v7 w3 hv7 hk7 hb7
  have hk7' : Kept (fun b => w2.heap.size ≤ b) w2 w3 := (Kept.of_below (below_new w2 _)).trans (hk7.mono (fun b _ hb => by simp [Value.ownBlock] at hb; omega))
  have OW3 : Ow (w.heap.size + 1) w2.heap.size w2 w3 := Ow.grow ⟨Kept.refl _ _, Nat.le_refl _, ⟨f0', f1'⟩, ⟨_, r0'⟩, ⟨_, r1'⟩⟩ h2s hk7'
  obtain ⟨g7, hg7, hg7a, hg7b⟩ : ∃ g7, v7.ownBlock = some g7 ∧ w2.heap.size ≤ g7 ∧ g7 < w3.heap.size := by
    rcases hb7 with h | h
    · exact ⟨_, h, (hv7.lt _ h)⟩
    · exact ⟨_, h, (hv7.lt _ h)⟩
  obtain ⟨a7, c7, rfl, _⟩ := hv7.shape lenP
  rw [hlt] at hv7 hg7
  have HV7 := hid hv7
  have hSS : Hid (∀ W, Ow (w.heap.size + 1) w2.heap.size w2 W → W.cell? ⟨w.heap.size, 0, none⟩ = some (.slice a0 n.nodes.length k0) ∧ W.cell? ⟨w.heap.size, 1, none⟩ = some (.slice (some ⟨sb, so, none⟩) n.pipes.length k1) ∧ Ow (w.heap.size + 1) w2.heap.size w2 W) := fun W hW =>
    ⟨hW.1.cell d0 (by simp only; omega), hW.1.cell d1 (by simp only; omega), hW⟩
  have hNs : Hid (∀ W, Ow (w.heap.size + 1) w2.heap.size w2 W → RowsAt encN 3 W (.slice a0 n.nodes.length k0) n.nodes) := fun W hW => rows_of_kept HNW.out.1 HB2.out hW.1 (fun b hb => by omega)
  have hPs : Hid (∀ W, Ow (w.heap.size + 1) w2.heap.size w2 W → RowsAt encP 5 W (.slice (some A) (n.pipes.length - (k + 1)) (k1 - (k + 1))) (n.pipes.drop (k + 1))) := fun W hW => rows_tail (rows_of_kept HNW.out.2.2 HB2.out hW.1 (fun b hb => by omega)) hcl k hk A hA _
  have hok := hid HNW.out.2.1
  have ow0 := hid OW3.drew
  obtain ⟨C0, C1, _⟩ := hSS.out _ OW3.drew
  obtain ⟨E0, E1, _⟩ := hSS.out _ OW3
  have hld : (n.pipes.drop (k + 1)).length = n.pipes.length - (k + 1) := by simp
  have z3 := OW3.2.1
  have hrH := h2s
  clear hv7 hk7 hb7 hk7' r0' r1' f0' f1' d0 d1
  go_wp2_with fail
  go_region_held3 (fun W => W.cell? ⟨w.heap.size, 0, none⟩ = some (.slice a0 n.nodes.length k0) ∧ W.cell? ⟨w.heap.size, 1, none⟩ = some (.slice (some ⟨sb, so, none⟩) n.pipes.length k1) ∧ Ow (w.heap.size + 1) w2.heap.size w2 W)
    (first | exact ⟨C0, C1, ow0.out⟩ | exact hSS.out _ OW2 | exact hSS.out _ (OW2.store _ _) | exact hSS.out _ OW1 | exact hSS.out _ (Ow.alloc (And.right (And.right (by assumption))) hrH _))
    (first
      | (refine step_appP rfl (.tmp 25) (.tmp 30) rfl w2.heap.size (.slice a7 k c7) (.slice (some A) (n.pipes.length - (k + 1)) (k1 - (k + 1))) (n.pipes.take k) (n.pipes.drop (k + 1)) rfl rfl ((HV7.out.below ((Below.refl _ _).drew.alloc (Nat.le_refl _) _)).kept kN (fun b hb e => ?_)) (hPs.out _ OW1) ?_ OW1.2.1 ?_; (· rw [hg7] at hb; simp at hb; omega); (· omega); intro vP wP oP kP gP; have kP' : Kept (fun b => b = g7) wN wP := kP.mono (fun b _ hb => by rw [hg7] at hb; simp at hb; omega); have OW2 := OW1.grow hrH (kP'.mono (fun b _ hb => by omega)); obtain ⟨aP, cP, rfl, _⟩ := oP.shape lenP; have OWc := OW2; obtain ⟨_, _, ⟨f0, f1⟩, ⟨x0, e0⟩, ⟨x1, e1⟩⟩ := OWc)
      | (refine step_ownN rfl (.tmp 21) (.tmp 23) rfl (w.heap.size + 1) w2.heap.size w2 hrH _ (.slice a0 n.nodes.length k0) n.nodes rfl rfl (hNs.out _ (And.right (And.right (by assumption)))) (And.right (And.right (by assumption))) ?_ ?_ ?_ ?_; (· exact heap_at2 _ _ _ (by first | rfl | omega | (simp; done) | (simp; omega))); (· first | exact Nat.le_refl _ | omega | (simp; done) | (simp; omega)); (· omega); intro vN wN oN kN gN OW1; obtain ⟨aN, cN, rfl, _⟩ := oN.shape lenN; have zN := OW1.2.1; have yN := kN.size))
  have HF : Hid (NetApart w.heap.size wP.heap.size ((wP.setCell ⟨w.heap.size + 1, 0, none⟩ (.slice aN n.nodes.length cN)).setCell ⟨w.heap.size + 1, 1, none⟩ (.slice aP (k + (n.pipes.length - (k + 1))) cP)) (.slice aN n.nodes.length cN) (.slice aP (k + (n.pipes.length - (k + 1))) cP) (dropNet n k) ∧ (CapOk (.slice aN n.nodes.length cN) ∧ CapOk (.slice aP (k + (n.pipes.length - (k + 1))) cP))) := by
    rw [hg7] at gP
    have hLL : (n.pipes.take k ++ n.pipes.drop (k + 1)).length = k + (n.pipes.length - (k + 1)) := by rw [List.length_append, hld, hlt]
    rw [hLL] at gP oP
    refine own_fin (n := dropNet n k) (H := w2.heap.size) (r := w.heap.size + 1) oN oP kP' gP (Nat.le_refl _) (fun hb => ?_) hrH (by omega) hok.out (by simp only [dropNet]; omega) (by simp only [dropNet, List.length_append, hld, hlt]; omega)
    rcases gN with h | h
    · rw [h] at hb; simp at hb; omega
    · rw [h] at hb; simp at hb; omega
  have HB : Hid (Below w.heap.size w ((wP.setCell ⟨w.heap.size + 1, 0, none⟩ (.slice aN n.nodes.length cN)).setCell ⟨w.heap.size + 1, 1, none⟩ (.slice aP (k + (n.pipes.length - (k + 1))) cP))) := HB2.out.trans ((OW2.store _ _).1.below HB2.out.size (fun b hb => by omega))
  obtain ⟨t0, t1⟩ := (box_two_set (x := .slice aN n.nodes.length cN) (y := .slice aP (k + (n.pipes.length - (k + 1))) cP) e0 e1).two
  clear oN oP kN kP kP' OW1 OW2 OW3
  go_wp2_with fail
  refine bodyPost_ret (v := .tuple #[.agg #[.slice aN n.nodes.length cN, .slice aP (k + (n.pipes.length - (k + 1))) cP], .int .i64 0]) (by simp only [results, Try.results67]; simp [go_sem, t0, t1]) rfl ?_
  rw [hr.out]
  exact ⟨_, _, rfl, by simpa only [World.size_setCell] using HF.out.1, HF.out.2, HB.out⟩

end Go.Proofs.Ytdapdaadglaoiaa
