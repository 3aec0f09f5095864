/- impl.cycleOf. -/
import Derived.Test.YtdapdaadglaoiaaFfl
import Derived.Test.YtdapdaadglaoiaaCycP
namespace Go.Proofs.Ytdapdaadglaoiaa
open Go.RowKit

theorem sup_bnd {n : Net} (t f : Nat) (i : Nat) : -1 ≤ (((List.replicate n.nodes.length (0 : Int)).set t 1).set f (-1)).getD i 0 ∧ (((List.replicate n.nodes.length (0 : Int)).set t 1).set f (-1)).getD i 0 ≤ 1 := by
  by_cases h1 : f = i
  · subst h1
    by_cases h2 : f < (((List.replicate n.nodes.length (0 : Int)).set t 1)).length
    · rw [getD_set_same' h2]; omega
    · rw [List.getD_eq_getElem?_getD, List.getElem?_eq_none (by simpa using h2)]; simp
  · rw [getD_set_ne' h1]
    by_cases h3 : t = i
    · subst h3
      by_cases h2 : t < (List.replicate n.nodes.length (0 : Int)).length
      · rw [getD_set_same' h2]; omega
      · rw [List.getD_eq_getElem?_getD, List.getElem?_eq_none (by simpa using h2)]; simp
    · rw [getD_set_ne' h3, rep0]; omega

set_option maxHeartbeats 1000000 in
set_option maxRecDepth 100000 in
theorem cycleOf_any (nv pv : Value) (n : Net) (c : Nat) (w : World) (h : NetAt w nv pv n) (hb : netB n = true) (hc : c < n.pipes.length) :
    Calls Try.prog 129 #[.agg #[nv, pv], .int .i64 c] w fun e w' => ∃ r, e = .returned r ∧ Slc (fun b => w.heap.size ≤ b ∧ b < w'.heap.size) w' r (cyI n c) ∧ Below w.heap.size w w' := by
  obtain ⟨a0, k0, rfl⟩ := h.1.shape
  obtain ⟨a1, k1, rfl⟩ := h.2.2.shape
  have hnl := netB_t hb
  have HP := hid h
  obtain ⟨f0, f1, t0, t1, hne⟩ := netB_pipe hb (List.getElem_mem hc)
  obtain ⟨f, hf⟩ : ∃ f : Nat, n.pipes[c].fr = f := ⟨n.pipes[c].fr.toNat, by omega⟩
  obtain ⟨t, ht⟩ : ∃ t : Nat, n.pipes[c].to = t := ⟨n.pipes[c].to.toNat, by omega⟩
  rw [ht] at t0 t1 hne
  rw [hf] at f0 f1 hne
  have htl : t < n.nodes.length := by omega
  have hfl : f < n.nodes.length := by omega
  have htf : t ≠ f := by omega
  have hcI : (c : Int) < n.pipes.length := by omega
  have hmk := run_make_row' (P := Try.prog) 33 2 (.int .i64 0) 8 Try.underlying33 info64 rfl .i64 .i64 n.nodes.length (by omega) (by omega)
  have hWb := below_new w (.cells #[.slice a0 n.nodes.length k0, .slice a1 n.pipes.length k1] 27)
  have hbx := Box.new w #[.slice a0 n.nodes.length k0, .slice a1 n.pipes.length k1] 27
  obtain ⟨c0, c1⟩ := hbx.two
  go_enter Try.func129, Try.ntmps129
  go_upto_region 2 with fail
  have hI0 := IntBlk.made 2 (w.alloc (.cells #[.slice a0 n.nodes.length k0, .slice a1 n.pipes.length k1] 27)) n.nodes.length
  rw [World.size_alloc] at hI0
  have hW1 := hWb.alloc (by simp) (.cells (madeCells #[.int .i64 0] n.nodes.length) 2)
  have hbx1 := hbx.below (below_new _ (.cells (madeCells #[.int .i64 0] n.nodes.length) 2))
  have hz1 : ((w.alloc (.cells #[.slice a0 n.nodes.length k0, .slice a1 n.pipes.length k1] 27)).alloc (.cells (madeCells #[.int .i64 0] n.nodes.length) 2)).heap.size = w.heap.size + 1 + 1 := by simp
  obtain ⟨W1, hW1e⟩ : ∃ W1, (w.alloc (.cells #[.slice a0 n.nodes.length k0, .slice a1 n.pipes.length k1] 27)).alloc (.cells (madeCells #[.int .i64 0] n.nodes.length) 2) = W1 := ⟨_, rfl⟩
  rw [hW1e] at hI0 hW1 hbx1 hz1 ⊢
  have q0 : W1.cell? ⟨w.heap.size + 1, t, none⟩ = some (.int .i64 0) := by rw [hI0.cell t (by simpa using htl)]; simp
  have q1 : W1.cell? ⟨w.heap.size + 1, f, none⟩ = some (.int .i64 0) := by rw [hI0.cell f (by simpa using hfl)]; simp
  have ff0 := hI0.frozen t
  have ff1 := hI0.frozen f
  have q2 := (cell_far (w := W1) (b := w.heap.size + 1) (o := t) (b' := w.heap.size + 1) (o' := f) (u := .int .i64 1) (.inr htf)).trans q1
  have I1 := hid ((hI0.set t 1).set f (-1))
  have kk1 : Kept (fun b => b = w.heap.size + 1) W1 (W1.setCell ⟨w.heap.size + 1, t, none⟩ (.int .i64 1)) := (Kept.refl (fun b => b = w.heap.size + 1) _).setCell (p := ⟨w.heap.size + 1, t, none⟩) rfl _
  have kk2 : Kept (fun b => b = w.heap.size + 1) W1 ((W1.setCell ⟨w.heap.size + 1, t, none⟩ (.int .i64 1)).setCell ⟨w.heap.size + 1, f, none⟩ (.int .i64 (-1))) := kk1.setCell (p := ⟨w.heap.size + 1, f, none⟩) rfl _
  have X2 := hid (hbx1.kept kk2 (by omega))
  have B2 := hid (hW1.trans (kk2.below hW1.size (fun b hb => by omega)))
  have N2 := hid (HP.out.below B2.out)
  have zz2 : ((W1.setCell ⟨w.heap.size + 1, t, none⟩ (.int .i64 1)).setCell ⟨w.heap.size + 1, f, none⟩ (.int .i64 (-1))).heap.size = w.heap.size + 1 + 1 := by simp [hz1]
  obtain ⟨d0, d1⟩ := hbx1.two
  obtain ⟨e0, e1⟩ := (hbx1.kept kk1 (by omega)).two
  obtain ⟨g0, g1⟩ := X2.out.two
  obtain ⟨pb0, poff, hpa, hpl, hpc⟩ := (HP.out.below hW1).2.2.at' (by omega)
  subst hpa
  obtain ⟨x0, x1, x2, x3, x4⟩ := cellsP (hpc c hc)
  rw [hf] at x0
  rw [ht] at x1
  have hpbne : pb0 ≠ w.heap.size + 1 := by
    intro e
    obtain ⟨pb1, _, hpa1, hpl1, _⟩ := HP.out.2.2.at' (by omega)
    simp only [Option.some.injEq, Addr.mk.injEq] at hpa1
    omega
  have y0 := (cell_far (w := W1) (b := w.heap.size + 1) (o := t) (b' := pb0) (o' := poff + c * 5) (u := .int .i64 1) (.inl (fun e => hpbne e.symm))).trans x0
  clear hmk hWb hbx c0 c1 hW1e hpc
  go_wp2_with fail
  have hsup : supOf n c = ((List.replicate n.nodes.length (0 : Int)).set t 1).set f (-1) := by
    unfold supOf
    rw [pAt_nat hc, ht, hf, Int.toNat_natCast, Int.toNat_natCast]
  have hev := fun r hr (_ : isRoot n r = true) => sup_even hb hc (r := r) hr
  rw [hsup] at hev
  have hsl := I1.out.slc (P := fun b => w.heap.size < b) (cap := n.nodes.length) (by omega) (by simp; omega)
  have hlen : (((List.replicate n.nodes.length (0 : Int)).set t 1).set f (-1)).length = n.nodes.length := by simp
  rw [hlen] at hsl
  refine (forestFlows_any _ _ _ _ n _ _ N2.out hb hsl hlen hev (sup_bnd t f)).mono ?_
  rintro e w3 ⟨b, rfl, hr, hbl, b3⟩
  rw [← hsup] at hr
  have hll : (fflows n (supOf n c)).length = n.pipes.length := (ff_len (supOf n c) (by rw [hsup]; exact hlen) n.nodes.length).1
  have hcl : c < (fflows n (supOf n c)).length := by rw [hll]; exact hc
  obtain ⟨z0, z1⟩ := hr c hcl
  have z1 := z1 c
  obtain ⟨o, ho⟩ : ∃ o, (fflows n (supOf n c))[c] = o := ⟨_, rfl⟩
  rw [ho] at z0
  have hcy : cyI n c = (fflows n (supOf n c)).set c 1 := by unfold cyI; rw [Int.toNat_natCast]
  have HR := hid (hr.set c 1)
  rw [← hcy] at HR
  have hlcy : (cyI n c).length = n.pipes.length := by rw [hcy]; simpa using hll
  rw [zz2] at hbl
  have HB := hid ((B2.out.trans (b3.mono B2.out.size)).setCell (p := ⟨b, c, none⟩) (by simp only; omega) (.int .i64 1))
  have hz3 := b3.size
  have hblt := hr.lt (by omega)
  have HS : Hid (Slc (fun b' => w.heap.size ≤ b' ∧ b' < (w3.setCell ⟨b, c, none⟩ (.int .i64 1)).heap.size) (w3.setCell ⟨b, c, none⟩ (.int .i64 1)) (.slice (some ⟨b, 0, none⟩) n.pipes.length n.pipes.length) (cyI n c)) := by
    have h1 := HR.out.slc (P := fun b' => w.heap.size ≤ b' ∧ b' < (w3.setCell ⟨b, c, none⟩ (.int .i64 1)).heap.size) (cap := n.pipes.length) (fun _ => ⟨by omega, by simpa using hblt⟩) (by omega)
    rw [hlcy] at h1
    exact h1
  clear hr hsup hev hsl b3 hcy I1 X2 B2 N2 d0 d1 e0 e1 g0 g1 x0 x1 x2 x3 x4 y0 q0 q1 q2 kk1 kk2 ho HR hW1 hbx1 hI0 hlcy hll
  go_wp2_with fail
  go_ret
  exact ⟨_, rfl, HS.out, HB.out⟩

end Go.Proofs.Ytdapdaadglaoiaa
