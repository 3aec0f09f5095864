/- The line of a pipe, the program's. -/
import Derived.Test.YtdbgncinaacheaaGreatDoorPFct
namespace Go.Proofs.YtdbgncinaacheaaGreatDoor
open Go.RowKit
open Go.Lib hiding intOf

set_option maxHeartbeats 8000000 in
set_option maxRecDepth 100000 in
theorem pipeLine_any (nv pv : Value) (n : Net) (i : Nat) (w : World) (h : NetAt w nv pv n) (hb : netB n = true) (hi : i < n.pipes.length) (htab : Tab w) :
    Calls Tryz.prog 25 #[.agg #[nv, pv], .int .i64 i] w fun e w' => e = .returned (.string (tb (ppL n.nodes n.pipes[i]))) ∧ Below w.heap.size w w' := by
  obtain ⟨f, t, hf, ht, ef, et, na, nb, s1, s2, k0, k1, v0, v1, l0, l1⟩ := pipe_facts hb (List.getElem_mem hi)
  have HR := hid (ppL_tbI na nb)
  obtain ⟨A, hA⟩ : ∃ A, n.nodes[f].name = A := ⟨_, rfl⟩
  obtain ⟨B, hB⟩ : ∃ B, n.nodes[t].name = B := ⟨_, rfl⟩
  rw [hA, hB] at HR
  rw [hA] at s1
  rw [hB] at s2
  have hlen : n.nodes.length ≤ 24 := (netB_t hb).2.1
  have hlen2 : n.pipes.length ≤ 40 := (netB_t hb).2.2.1
  obtain ⟨a0, k0', rfl⟩ := h.1.shape
  obtain ⟨a1, k1', rfl⟩ := h.2.2.shape
  obtain ⟨b0, off0, rfl, hlt0, hc⟩ := h.1.at' (by omega)
  obtain ⟨b1, off1, rfl, hlt1, hcp⟩ := h.2.2.at' (by omega)
  have q1 := (cellsN (hc f hf)).1
  have q2 := (cellsN (hc t ht)).1
  rw [hA] at q1
  rw [hB] at q2
  obtain ⟨r0, r1, r2, r3, r4⟩ := cellsP (hcp i hi)
  obtain ⟨p, hp⟩ : ∃ p, n.pipes[i] = p := ⟨_, rfl⟩
  rw [hp] at HR r0 r1 r2 r3 r4 ef et k0 k1 v0 v1 l0 l1 ⊢
  obtain ⟨pf, pt, k, vol, lim⟩ := p
  simp only at ef et k0 k1 v0 v1 l0 l1 HR r0 r1 r2 r3 r4
  subst ef et
  have hW1 := below_new w (.cells #[.slice (some ⟨b0, off0, none⟩) n.nodes.length k0', .slice (some ⟨b1, off1, none⟩) n.pipes.length k1'] 34)
  obtain ⟨w1, hw1⟩ : ∃ w1, w1 = w.alloc (.cells #[.slice (some ⟨b0, off0, none⟩) n.nodes.length k0', .slice (some ⟨b1, off1, none⟩) n.pipes.length k1'] 34) := ⟨_, rfl⟩
  have hz1 : w1.heap.size = w.heap.size + 1 := by rw [hw1]; simp
  have x1 := Box.new w #[.slice (some ⟨b0, off0, none⟩) n.nodes.length k0', .slice (some ⟨b1, off1, none⟩) n.pipes.length k1'] 34
  rw [← hw1] at hW1 x1
  have hW2 := below_new w1 (.cells #[.int .i64 f, .int .i64 t, .int .i64 k, .int .i64 vol, .int .i64 lim] 54)
  have x2 := Box.new w1 #[.int .i64 f, .int .i64 t, .int .i64 k, .int .i64 vol, .int .i64 lim] 54
  have x1 := x1.below hW2
  have R0 := (hW1.cell (p := ⟨b1, off1 + i * 5, none⟩) hlt1).trans r0
  have R1 := (hW1.cell (p := ⟨b1, off1 + i * 5 + 1, none⟩) hlt1).trans r1
  have R2 := (hW1.cell (p := ⟨b1, off1 + i * 5 + 2, none⟩) hlt1).trans r2
  have R3 := (hW1.cell (p := ⟨b1, off1 + i * 5 + 3, none⟩) hlt1).trans r3
  have R4 := (hW1.cell (p := ⟨b1, off1 + i * 5 + 4, none⟩) hlt1).trans r4
  rw [hw1] at R0 R1 R2 R3 R4
  have q1 := (hW1.cell (p := ⟨b0, off0 + f * 3, none⟩) hlt0).trans q1
  have q2 := (hW1.cell (p := ⟨b0, off0 + t * 3, none⟩) hlt0).trans q2
  have q1 := (hW2.cell (p := ⟨b0, off0 + f * 3, none⟩) (Nat.lt_of_lt_of_le hlt0 hW1.size)).trans q1
  have q2 := (hW2.cell (p := ⟨b0, off0 + t * 3, none⟩) (Nat.lt_of_lt_of_le hlt0 hW1.size)).trans q2
  obtain ⟨w2, hw2⟩ : ∃ w2, w2 = w1.alloc (.cells #[.int .i64 f, .int .i64 t, .int .i64 k, .int .i64 vol, .int .i64 lim] 54) := ⟨_, rfl⟩
  have hz2 : w2.heap.size = w.heap.size + 1 + 1 := by rw [hw2]; simp [hz1]
  rw [← hw2] at hW2 x1 x2 q1 q2
  rw [hz1] at x2
  have HW := hid (hW1.trans (hW2.mono (by omega)))
  have hbn := x1.1
  have hbp := x2.1
  have hlt2 : b0 < w2.heap.size := by omega
  obtain ⟨c0, c1⟩ := x1.two
  obtain ⟨d0, d1, d2, d3, d4⟩ := x2.five
  have HI : Hid (In64' [k, vol, lim]) := fun z hz => by
    simp only [List.mem_cons, List.not_mem_nil, or_false] at hz
    omega
  have lW : (tb (join ([k, vol, lim].map itoa) [32])).size ≤ 70 := by
    rw [tb_size]
    have h1 := lens_le HI.out
    simp only [List.map_cons, List.map_nil, List.length_cons, List.length_nil] at h1 ⊢
    rw [join_length]
    simp only [List.length_cons, List.length_nil]
    omega
  have HI3 : Hid (Ints .i64 (w2.alloc (.cells #[.int .i64 k, .int .i64 vol, .int .i64 lim] 2)) (.slice (some ⟨w2.heap.size, 0, none⟩) 3 3) [k, vol, lim]) := by
    have := ints_three w2 2 k vol lim
    exact this
  have HZ2 := hid hz2
  have HE : Hid (w2 = (w.alloc (.cells #[.slice (some ⟨b0, off0, none⟩) n.nodes.length k0', .slice (some ⟨b1, off1, none⟩) n.pipes.length k1'] 34)).alloc (.cells #[.int .i64 f, .int .i64 t, .int .i64 k, .int .i64 vol, .int .i64 lim] 54)) := by rw [Hid, hw2, hw1]
  have z1 : ¬ (9223372036854775807 < 5 + A.size) := by omega
  have z2 : ¬ (9223372036854775807 < 5 + A.size + 1) := by omega
  have z3 : ¬ (9223372036854775807 < 5 + A.size + 1 + B.size) := by omega
  have z4 : ¬ (9223372036854775807 < 5 + A.size + 1 + B.size + 1) := by omega
  have z5 : ¬ (9223372036854775807 < 5 + A.size + 1 + B.size + 1 + (tb (join ([k, vol, lim].map itoa) [32])).size) := by omega
  have HT2 : Hid (Tab (w2.alloc (.cells #[.int .i64 k, .int .i64 vol, .int .i64 lim] 2)).drew) := (htab.below HW.out).below (below_drew (below_new w2 (.cells #[.int .i64 k, .int .i64 vol, .int .i64 lim] 2)))
  obtain ⟨J, hJ⟩ : ∃ J, tb (join ([k, vol, lim].map itoa) [32]) = J := ⟨_, rfl⟩
  have HCJ := joinNumbers_any _ [k, vol, lim] (w2.alloc (.cells #[.int .i64 k, .int .i64 vol, .int .i64 lim] 2)).drew HI3.out HI.out (by simp) HT2.out
  rw [hJ] at HCJ z5 HR
  replace HCJ := hid HCJ
  clear hJ lW
  replace hbn := hid hbn
  replace hbp := hid hbp
  replace hlt2 := hid hlt2
  clear hp
  clear h hb hA hB htab hcp hlen2 r0 r1 r2 r3 r4 na nb hc hW1 hW2 hw1 hw2 x1 x2 hz1 hz2 s1 s2 k0 k1 v0 v1 l0 l1 hlen hlt0 hlt1 c1
  go_enter Tryz.func25, Tryz.ntmps25
  go_wp2_with fail
  rw [← HE.out]
  clear R0 R1 R2 R3 R4 hi
  go_region_held3 (fun W => W.cell? ⟨w.heap.size, 0, none⟩ = some (.slice (some ⟨b0, off0, none⟩) n.nodes.length k0') ∧ W.cell? ⟨w.heap.size + 1, 0, none⟩ = some (.int .i64 f) ∧ W.cell? ⟨w.heap.size + 1, 1, none⟩ = some (.int .i64 t) ∧ W.cell? ⟨w.heap.size + 1, 2, none⟩ = some (.int .i64 k) ∧ W.cell? ⟨w.heap.size + 1, 3, none⟩ = some (.int .i64 vol) ∧ W.cell? ⟨w.heap.size + 1, 4, none⟩ = some (.int .i64 lim) ∧ W.cell? ⟨b0, off0 + f * 3, none⟩ = some (.string A) ∧ W.cell? ⟨b0, off0 + t * 3, none⟩ = some (.string B))
    (first | exact ⟨c0, d0, d1, d2, d3, d4, q1, q2⟩ | exact ⟨C0, D0, D1, D2, D3, D4, Q1, Q2⟩ | exact ⟨cell_al c0, cell_al d0, cell_al d1, cell_al d2, cell_al d3, cell_al d4, cell_al q1, cell_al q2⟩)
    (first
      | (go_at_call 43; refine HCJ.out.mono ?_; rintro e w3 ⟨rfl, b3⟩; have b3 := (below_new w2 (.cells #[.int .i64 k, .int .i64 vol, .int .i64 lim] 2)).trans ((below_undrew b3).mono (by simp)); have C0 := (b3.cell (p := ⟨w.heap.size, 0, none⟩) hbn.out).trans c0; have D0 := (b3.cell (p := ⟨w.heap.size + 1, 0, none⟩) hbp.out).trans d0; have D1 := (b3.cell (p := ⟨w.heap.size + 1, 1, none⟩) hbp.out).trans d1; have D2 := (b3.cell (p := ⟨w.heap.size + 1, 2, none⟩) hbp.out).trans d2; have D3 := (b3.cell (p := ⟨w.heap.size + 1, 3, none⟩) hbp.out).trans d3; have D4 := (b3.cell (p := ⟨w.heap.size + 1, 4, none⟩) hbp.out).trans d4; have Q1 := (b3.cell (p := ⟨b0, off0 + f * 3, none⟩) hlt2.out).trans q1; have Q2 := (b3.cell (p := ⟨b0, off0 + t * 3, none⟩) hlt2.out).trans q2; have HB3 := hid (HW.out.trans (b3.mono HW.out.size))))
  go_wp2_with fail
  go_ret
  rw [HR.out]
  exact ⟨rfl, HB3.out⟩

end Go.Proofs.YtdbgncinaacheaaGreatDoor
