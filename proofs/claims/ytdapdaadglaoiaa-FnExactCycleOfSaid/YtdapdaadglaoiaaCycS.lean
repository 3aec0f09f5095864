/- spec.l05Cycle: the cycle of a chord along the tree. -/
import Derived.Test.YtdapdaadglaoiaaTree
import Derived.Test.YtdapdaadglaoiaaCycQ
import Derived.Test.YtdapdaadglaoiaaPathS
import Derived.StillTailTactics
import Derived.Deep.QuietTactic
namespace Go.Proofs.Ytdapdaadglaoiaa
open Go.RowKit

def CyRel (n : Net) (c t f : Nat) (l0 qv : Value) (w : World) (bT lo hi : Nat) (fv pv : Value) (i a : Value) (wr : World) : Prop :=
  ∃ k x : Nat, i = .int .i64 k ∧ k ≤ (pathOf (treeN n) t f).length ∧ a = .int .i64 x ∧ x < n.nodes.length ∧ (csAt n c k).2 = x ∧ IntBlk 2 wr (w.heap.size + 1) (csAt n c k).1 ∧ Box wr bT [l0, qv] ∧
    RowsOwn encP 5 (fun b => lo ≤ b ∧ b < hi) wr qv (treeN n).pipes ∧ Slc (fun b => lo ≤ b ∧ b < hi) wr fv (forest n) ∧ Slc (fun b => lo ≤ b ∧ b < hi) wr pv (pathOf (treeN n) t f) ∧ Below w.heap.size w wr ∧ hi ≤ wr.heap.size

set_option maxHeartbeats 2000000 in
set_option maxRecDepth 100000 in
theorem l05Cycle_any (nv pv : Value) (n : Net) (c : Nat) (w : World) (h : NetAt w nv pv n) (hb : netB n = true) (hc : c < n.pipes.length) :
    Calls Try.prog 133 #[.agg #[nv, pv], .int .i64 c] w fun e w' => ∃ r, e = .returned r ∧ Slc (fun b => w.heap.size ≤ b ∧ b < w'.heap.size) w' r (cyS n c) ∧ Below w.heap.size w w' := by
  obtain ⟨a0, k0, rfl⟩ := h.1.shape
  obtain ⟨a1, k1, rfl⟩ := h.2.2.shape
  have hnl := netB_t hb
  have HP := hid h
  have hbt := netB_tree hb
  obtain ⟨t, f, ht, hf, htl, hfl, htf, hdn, hAT, hEL⟩ := cyc_path hb hc
  have HAT := hid hAT
  have HEL := hid hEL
  have hpn : pathOf (treeN n) (pAt n c).to (pAt n c).fr = pathOf (treeN n) t f := by rw [pAt_nat hc, ht, hf]
  have HPN := hid hpn
  have htn : (treeN n).nodes.length = n.nodes.length := rfl
  have htp : (treeN n).pipes.length = (forest n).length := by simp [treeN]
  have hfle := forest_le n
  have hplen : (pathOf (treeN n) t f).length ≤ 1000 := by
    rw [pathOf_len, Int.toNat_natCast]
    have g := good_srch hbt (v := (t : Int)) (by omega) (by omega)
    have h1 := g.hi f
    have h2 := g.le_nodes
    omega
  clear hAT hEL hpn
  have hcI : (c : Int) < n.pipes.length := by omega
  have hmk := run_make_row' (P := Try.prog) 33 2 (.int .i64 0) 8 Try.underlying33 info64 rfl .i64 .i64 n.pipes.length (by omega) (by omega)
  have hWb := below_new w (.cells #[.slice a0 n.nodes.length k0, .slice a1 n.pipes.length k1] 27)
  have hbx := Box.new w #[.slice a0 n.nodes.length k0, .slice a1 n.pipes.length k1] 27
  obtain ⟨c0, c1⟩ := hbx.two
  go_enter Try.func133, Try.ntmps133
  go_upto_region 2 with fail
  have hI0 := IntBlk.made 2 (w.alloc (.cells #[.slice a0 n.nodes.length k0, .slice a1 n.pipes.length k1] 27)) n.pipes.length
  rw [World.size_alloc] at hI0
  have hW1 := hWb.alloc (by simp) (.cells (madeCells #[.int .i64 0] n.pipes.length) 2)
  have hbx1 := hbx.below (below_new _ (.cells (madeCells #[.int .i64 0] n.pipes.length) 2))
  have hz1 : ((w.alloc (.cells #[.slice a0 n.nodes.length k0, .slice a1 n.pipes.length k1] 27)).alloc (.cells (madeCells #[.int .i64 0] n.pipes.length) 2)).heap.size = w.heap.size + 1 + 1 := by simp
  obtain ⟨W1, hW1e⟩ : ∃ W1, (w.alloc (.cells #[.slice a0 n.nodes.length k0, .slice a1 n.pipes.length k1] 27)).alloc (.cells (madeCells #[.int .i64 0] n.pipes.length) 2) = W1 := ⟨_, rfl⟩
  rw [hW1e] at hI0 hW1 hbx1 hz1 ⊢
  have q0 := hI0.cell c (by simpa using hc)
  have f0 := hI0.frozen c
  have I1 := hid (hI0.set c 1)
  have kk1 : Kept (fun b => b = w.heap.size + 1) W1 (W1.setCell ⟨w.heap.size + 1, c, none⟩ (.int .i64 1)) := (Kept.refl (fun b => b = w.heap.size + 1) _).setCell (p := ⟨w.heap.size + 1, c, none⟩) rfl _
  have X1 := hid (hbx1.kept kk1 (by omega))
  have B1 := hid (hW1.trans (kk1.below hW1.size (fun b hb => by omega)))
  have N1 := hid (HP.out.below B1.out)
  have zz1 : (W1.setCell ⟨w.heap.size + 1, c, none⟩ (.int .i64 1)).heap.size = w.heap.size + 1 + 1 := by simp [hz1]
  obtain ⟨d0, d1⟩ := X1.out.two
  clear hmk hWb hbx hbx1 c0 c1 hW1 hW1e hI0 kk1
  go_wp2_with fail
  refine (l05Tree_any _ _ n _ N1.out hb).mono ?_
  rintro e w2 ⟨qv, fv, rfl, hq, hfv, b2⟩
  have z2 := b2.size
  obtain ⟨qa, qc, hqe⟩ := hq.at.shape
  rw [htp] at hqe
  subst hqe
  obtain ⟨_, fa, fc, hfe, _⟩ := id hfv
  subst hfe
  rw [zz1] at z2
  have I2 := hid (I1.out.kept (Kept.of_below (X := fun _ => False) b2) (fun e => e))
  have X2 := hid (X1.out.below b2)
  have B2 := hid (B1.out.trans (b2.mono B1.out.size))
  have Q2 := hid (hq.mono (Y := fun b => w.heap.size + 2 ≤ b ∧ b < w2.heap.size) (fun b _ h1 => ⟨by have := h1.1; omega, h1.2⟩))
  have F2 := hid (hfv.mono (Q := fun b => w.heap.size + 2 ≤ b ∧ b < w2.heap.size) (fun b _ h1 => ⟨by have := h1.1; omega, h1.2⟩))
  clear hq hfv b2 d0 d1 X1 B1 N1 I1 q0 f0
  go_upto_region 4 with fail
  have b3 := below_new w2 (.cells #[.slice a0 n.nodes.length k0, .slice qa (forest n).length qc] 27)
  have T3 := hid (Box.new w2 #[.slice a0 n.nodes.length k0, .slice qa (forest n).length qc] 27)
  have hz3 : (w2.alloc (.cells #[.slice a0 n.nodes.length k0, .slice qa (forest n).length qc] 27)).heap.size = w2.heap.size + 1 := by simp
  obtain ⟨W3, hW3⟩ : ∃ W3, w2.alloc (.cells #[.slice a0 n.nodes.length k0, .slice qa (forest n).length qc] 27) = W3 := ⟨_, rfl⟩
  rw [hW3] at b3 T3 hz3 ⊢
  have I3 := hid (I2.out.kept (Kept.of_below (X := fun _ => False) b3) (fun e => e))
  have X3 := hid (X2.out.below b3)
  have B3 := hid (B2.out.trans (b3.mono B2.out.size))
  have Q3 := hid (Q2.out.kept (Y := fun _ => False) (Kept.of_below b3) (fun _ _ _ e => e))
  have F3 := hid (F2.out.below b3)
  clear b3 hW3 I2 X2 B2 Q2 F2
  obtain ⟨d0, d1⟩ := X3.out.two
  obtain ⟨g0, g1⟩ := T3.out.two
  obtain ⟨pb0, poff, hpa, hpl, hpc⟩ := (HP.out.below B3.out).2.2.at' (by omega)
  subst hpa
  obtain ⟨x0, x1, x2, x3, x4⟩ := cellsP (hpc c hc)
  rw [hf] at x0
  rw [ht] at x1
  have hpth := fun W (hW : Below W3.heap.size W3 W) => l04Path_any _ _ (treeN n) t f W (treeAt HP.out (B3.out.trans (hW.mono B3.out.size)) (Q3.out.kept (Y := fun _ => False) (Kept.of_below hW) (fun _ _ _ e => e))) hbt (by omega) (by omega) (by omega) hdn
  have HPT := hid hpth
  clear hpth hpc
  go_wp2_with fail
  go_still_tail 8, (by kernel_rfl)
  change wpList _ _ _ _ _ (World.drew _)
  go_wp2_with fail
  refine (HPT.out _ (Below.refl _ _).drew).mono ?_
  rintro e w4 ⟨pv, rfl, hpv, b4⟩
  have b4 := below_undrew b4
  have z4 := b4.size
  obtain ⟨_, pa, pc, hpve, _⟩ := id hpv
  subst hpve
  have I4 := hid (I3.out.kept (Kept.of_below (X := fun _ => False) b4) (fun e => e))
  have T4 := hid (T3.out.below b4)
  have B4 := hid (B3.out.trans (b4.mono B3.out.size))
  have zw := B3.out.size
  have Q4 := hid ((Q3.out.kept (Y := fun _ => False) (Kept.of_below b4) (fun _ _ _ e => e)).mono (Y := fun b => w.heap.size + 2 ≤ b ∧ b < w4.heap.size) (fun b _ h1 => ⟨h1.1, by have := h1.2; omega⟩))
  have F4 := hid ((F3.out.below b4).mono (Q := fun b => w.heap.size + 2 ≤ b ∧ b < w4.heap.size) (fun b _ h1 => ⟨h1.1, by have := h1.2; omega⟩))
  have P4 := hid (hpv.mono (Q := fun b => w.heap.size + 2 ≤ b ∧ b < w4.heap.size) (fun b _ h1 => ⟨by have h2 := h1.1; simp only [World.drew] at h2; omega, h1.2⟩))
  have hz3b : w2.heap.size < w4.heap.size := by omega
  clear hpv b4 I3 T3 B3 Q3 F3 HPT x0 x1 x2 x3 x4 d0 d1 g0 g1 X3
  go_wp2_with fail
  go_loopw [10, 8] (fun i a wr => CyRel n c t f (.slice a0 n.nodes.length k0) (.slice qa (forest n).length qc) w w2.heap.size (w.heap.size + 2) w4.heap.size (.slice fa (forest n).length fc) (.slice pa (pathOf (treeN n) t f).length pc) i a wr) (fun i _ _ => (pathOf (treeN n) t f).length - (intOf i).toNat)
  case atStart =>
    refine ⟨0, t, rfl, by omega, rfl, htl, ?_, ?_, T4.out, Q4.out, F4.out, P4.out, B4.out, Nat.le_refl _⟩
    · show (pAt n c).to = t
      rw [pAt_nat hc, ht]
    · exact I4.out
  case round =>
    clear I4 T4 B4 Q4 F4 P4
    obtain ⟨k, x, rfl, hk, rfl, hxl, hx, hI, hT, hQ, hF, hP, hbel, hsz⟩ := hrel
    have hol := csAt_len n c k
    by_cases hlt : k < (pathOf (treeN n) t f).length
    · obtain ⟨j, q, e1, hj, e2, hq, e3⟩ := HEL.out k hlt
      obtain ⟨x', hx', hxl'⟩ := HAT.out (k + 1) (by omega)
      have hstep := csAt_succ' HPN.out hlt
      rw [e1, csStep_nat hj hq e2 e3 hx] at hstep
      obtain ⟨hs1, hs2⟩ := Prod.ext_iff.1 hstep
      have hnx : n.pipes[q].fr + n.pipes[q].to - (x : Int) = x' := by rw [← hx', hs2]
      obtain ⟨f0, f1, t0, t1, _⟩ := netB_pipe hb (List.getElem_mem hq)
      obtain ⟨F, hF0⟩ : ∃ F, n.pipes[q].fr = F := ⟨_, rfl⟩
      obtain ⟨T, hT0⟩ : ∃ T, n.pipes[q].to = T := ⟨_, rfl⟩
      rw [hF0] at hs1 hnx f0 f1
      rw [hT0] at hnx t0 t1
      have hjf : j < (forest n).length := by rw [← htp]; exact hj
      have hjI : (j : Int) < (forest n).length := by omega
      have hkI : (k : Int) < (pathOf (treeN n) t f).length := by omega
      have hqI : (q : Int) < n.pipes.length := by omega
      obtain ⟨qb, qo, hqa, hqbl, hqX, _, hqc⟩ := hQ.at' (by omega)
      subst hqa
      obtain ⟨y0, y1, _, _, _⟩ := cellsP (hqc j hj)
      rw [e3, hF0] at y0
      rw [e3, hT0] at y1
      obtain ⟨fb, fo, hfa, hfX, hfbl, _, hfcc⟩ := hF.at (by omega)
      subst hfa
      have u0 := hfcc j hjf
      have hfg : (forest n)[j] = q := by rw [← e2]; simp [List.getD, hjf]
      rw [hfg] at u0
      obtain ⟨bb, bo, hpaa, hpX, hpbl, _, hpcc⟩ := hP.at (by omega)
      subst hpaa
      have v0 := hpcc k hlt
      rw [e1] at v0
      obtain ⟨g0, g1⟩ := hT.two
      have o0 := hI.cell q (by rw [hol]; exact hq)
      have o1 := hI.frozen q
      obtain ⟨O, hO⟩ : ∃ O, (csAt n c k).1[q]'(by rw [hol]; exact hq) = O := ⟨_, rfl⟩
      rw [hO] at o0
      have HI := hid hI
      have HT := hid hT
      have HQ := hid hQ
      have HF := hid hF
      have HPP := hid hP
      have HB := hid hbel
      have HS1 := hid hs1
      have HX' := hid hx'
      have HNX := hid hnx
      have HF0 := hid hF0
      have HT0 := hid hT0
      have HE3 := hid e3
      clear hI hT hQ hF hP hbel hs1 hs2 hstep hx' hnx hF0 hT0 e1 e2 e3 hqc hfcc hpcc hfg hO hx
      have fin : ∀ sg : Int, (if F = (x : Int) then (1 : Int) else -1) = sg → ∀ W, Below (wr.setCell ⟨w.heap.size + 1, q, none⟩ (.int .i64 sg)).heap.size (wr.setCell ⟨w.heap.size + 1, q, none⟩ (.int .i64 sg)) W →
          CyRel n c t f (.slice a0 n.nodes.length k0) (.slice (some ⟨qb, qo, none⟩) (forest n).length qc) w w2.heap.size (w.heap.size + 2) w4.heap.size (.slice (some ⟨fb, fo, none⟩) (forest n).length fc) (.slice (some ⟨bb, bo, none⟩) (pathOf (treeN n) t f).length pc) (.int .i64 (k + 1 : Nat)) (.int .i64 x') W := fun sg hsg W hW => by
        have kk : Kept (fun b => b = w.heap.size + 1) wr (wr.setCell ⟨w.heap.size + 1, q, none⟩ (.int .i64 sg)) := (Kept.refl (fun b => b = w.heap.size + 1) _).setCell (p := ⟨w.heap.size + 1, q, none⟩) rfl _
        have k2 := kk.trans (Kept.of_below (X := fun b => b = w.heap.size + 1) hW)
        refine ⟨k + 1, x', rfl, by omega, rfl, hxl', HX'.out, ?_, HT.out.kept k2 (by omega), HQ.out.kept k2 (fun b _ h1 h2 => by omega), HF.out.kept k2 (fun b _ h1 h2 => by omega), HPP.out.kept k2 (fun b _ h1 h2 => by omega), HB.out.trans (k2.below HB.out.size (fun b h1 => by omega)), Nat.le_trans hsz k2.size⟩
        rw [HS1.out, hsg]
        exact (HI.out.set q sg).kept (Kept.of_below (X := fun _ => False) hW) (fun e => e)
      have HFIN := hid fin
      clear fin
      have HOT : Hid (∀ (sg : Int) (W : World), Below (wr.setCell ⟨w.heap.size + 1, q, none⟩ (.int .i64 sg)).heap.size (wr.setCell ⟨w.heap.size + 1, q, none⟩ (.int .i64 sg)) W →
          Calls Try.prog 98 #[.agg #[.slice a0 n.nodes.length k0, .slice (some ⟨qb, qo, none⟩) (forest n).length qc], .int .i64 j, .int .i64 x] W fun e w' => e = .returned (.int .i64 x') ∧ Below W.heap.size W w') := fun sg W hW => by
        have kk : Kept (fun b => b = w.heap.size + 1) wr (wr.setCell ⟨w.heap.size + 1, q, none⟩ (.int .i64 sg)) := (Kept.refl (fun b => b = w.heap.size + 1) _).setCell (p := ⟨w.heap.size + 1, q, none⟩) rfl _
        have k2 := kk.trans (Kept.of_below (X := fun b => b = w.heap.size + 1) hW)
        have hB2 := HB.out.trans (k2.below HB.out.size (fun b h1 => by omega))
        have ho := l02Other_any _ _ (treeN n) j x W (treeAt HP.out hB2 (HQ.out.kept k2 (fun b _ h1 h2 => by omega))) hj (by rw [HE3.out, HF0.out]; exact f0) (by rw [HE3.out, HF0.out]; omega) (by rw [HE3.out, HT0.out]; exact t0) (by rw [HE3.out, HT0.out]; omega) (by omega) (by omega)
        rw [HE3.out, HF0.out, HT0.out, HNX.out] at ho
        exact ho
      by_cases hsg : F = (x : Int)
      · have hbq : (F != (x : Int)) = false := by simpa using hsg
        have HSG := hid hsg
        clear hsg
        have sc0 := (cell_far2 (w := wr) (b := w.heap.size + 1) (o := q) (b' := w2.heap.size) (o' := 0) (u := .int .i64 1) (.inl (by omega))).trans g0
        have sc1 := (cell_far2 (w := wr) (b := w.heap.size + 1) (o := q) (b' := w2.heap.size) (o' := 1) (u := .int .i64 1) (.inl (by omega))).trans g1
        have sv0 := (cell_far2 (w := wr) (b := w.heap.size + 1) (o := q) (b' := bb) (o' := bo + k) (u := .int .i64 1) (.inl (by omega))).trans v0
        go_wp2_with fail
        go_quiet (fail)
        go_upto_region 13 with fail
        obtain ⟨W9, hW9⟩ : ∃ W9, (wr.drewN nq).setCell ⟨w.heap.size + 1, q, none⟩ (.int .i64 1) = W9 := ⟨_, rfl⟩
        have sc0 : W9.cell? ⟨w2.heap.size, 0, none⟩ = some (.slice a0 n.nodes.length k0) := by rw [← hW9]; exact sc0
        have sc1 : W9.cell? ⟨w2.heap.size, 1, none⟩ = some (.slice (some ⟨qb, qo, none⟩) (forest n).length qc) := by rw [← hW9]; exact sc1
        have sv0 : W9.cell? ⟨bb, bo + k, none⟩ = some (.int .i64 j) := by rw [← hW9]; exact sv0
        rw [hW9]
        have HW9 := hid hW9
        clear hW9
        go_still_tail 6, (by kernel_rfl)
        change wpList _ _ _ _ _ (World.drew _)
        go_wp2_with fail
        rw [← HW9.out]
        refine (HOT.out 1 (((wr.drewN nq).setCell ⟨w.heap.size + 1, q, none⟩ (.int .i64 1)).drew) ⟨rfl, rfl, rfl, Nat.le_refl _, fun _ _ => rfl⟩).mono ?_
        rintro e w5 ⟨rfl, b5⟩
        have b5 := (show Below (wr.setCell ⟨w.heap.size + 1, q, none⟩ (.int .i64 1)).heap.size (wr.setCell ⟨w.heap.size + 1, q, none⟩ (.int .i64 1)) w5 from ⟨b5.os, b5.tape, b5.output, b5.size, b5.block⟩)
        have R5 := hid (HFIN.out 1 (if_pos HSG.out) _ b5)
        clear b5 sc0 sc1 sv0 hbq
        go_wp2_with fail
        go_roundw
        case rel => exact R5.out
        case measure => simp [intOf]; omega
      · have hbq : (F != (x : Int)) = true := by simpa using hsg
        have HSG := hid hsg
        clear hsg
        have sc0 := (cell_far2 (w := wr) (b := w.heap.size + 1) (o := q) (b' := w2.heap.size) (o' := 0) (u := .int .i64 (-1)) (.inl (by omega))).trans g0
        have sc1 := (cell_far2 (w := wr) (b := w.heap.size + 1) (o := q) (b' := w2.heap.size) (o' := 1) (u := .int .i64 (-1)) (.inl (by omega))).trans g1
        have sv0 := (cell_far2 (w := wr) (b := w.heap.size + 1) (o := q) (b' := bb) (o' := bo + k) (u := .int .i64 (-1)) (.inl (by omega))).trans v0
        go_wp2_with fail
        go_quiet (fail)
        go_upto_region 13 with fail
        obtain ⟨W9, hW9⟩ : ∃ W9, (wr.drewN nq).setCell ⟨w.heap.size + 1, q, none⟩ (.int .i64 (-1)) = W9 := ⟨_, rfl⟩
        have sc0 : W9.cell? ⟨w2.heap.size, 0, none⟩ = some (.slice a0 n.nodes.length k0) := by rw [← hW9]; exact sc0
        have sc1 : W9.cell? ⟨w2.heap.size, 1, none⟩ = some (.slice (some ⟨qb, qo, none⟩) (forest n).length qc) := by rw [← hW9]; exact sc1
        have sv0 : W9.cell? ⟨bb, bo + k, none⟩ = some (.int .i64 j) := by rw [← hW9]; exact sv0
        rw [hW9]
        have HW9 := hid hW9
        clear hW9
        go_still_tail 6, (by kernel_rfl)
        change wpList _ _ _ _ _ (World.drew _)
        go_wp2_with fail
        rw [← HW9.out]
        refine (HOT.out (-1) (((wr.drewN nq).setCell ⟨w.heap.size + 1, q, none⟩ (.int .i64 (-1))).drew) ⟨rfl, rfl, rfl, Nat.le_refl _, fun _ _ => rfl⟩).mono ?_
        rintro e w5 ⟨rfl, b5⟩
        have b5 := (show Below (wr.setCell ⟨w.heap.size + 1, q, none⟩ (.int .i64 (-1))).heap.size (wr.setCell ⟨w.heap.size + 1, q, none⟩ (.int .i64 (-1))) w5 from ⟨b5.os, b5.tape, b5.output, b5.size, b5.block⟩)
        have R5 := hid (HFIN.out (-1) (if_neg HSG.out) _ b5)
        clear b5 sc0 sc1 sv0 hbq
        go_wp2_with fail
        go_roundw
        case rel => exact R5.out
        case measure => simp [intOf]; omega
    · obtain rfl : k = (pathOf (treeN n) t f).length := by omega
      have hend := csAt_end n c
      rw [HPN.out] at hend
      have HR := hid (hI.slc (P := fun b => w.heap.size ≤ b ∧ b < wr.heap.size) (cap := n.pipes.length) ⟨by omega, hI.lt⟩ (by omega))
      rw [hol, hend] at HR
      have HB := hid hbel
      clear hI hT hQ hF hP hbel hend
      go_wp2_with fail
      go_ret
      exact ⟨_, rfl, HR.out, HB.out⟩

end Go.Proofs.Ytdapdaadglaoiaa
