/- The line of a pipe, the reference's. -/
import Derived.Test.YtdbgncinaacheaaGreatDoorPFct
namespace Go.Proofs.YtdbgncinaacheaaGreatDoor
open Go.RowKit
open Go.Lib hiding intOf

set_option maxHeartbeats 8000000 in
set_option maxRecDepth 100000 in
theorem l03Pipe_any (nv pv : Value) (n : Net) (p : Pp) (w : World) (h : NetAt w nv pv n) (hb : netB n = true) (hp : p ∈ n.pipes) :
    Calls Tryz.prog 27 #[.agg #[nv, pv], .agg #[.int .i64 p.fr, .int .i64 p.to, .int .i64 p.k, .int .i64 p.vol, .int .i64 p.lim]] w fun e w' => e = .returned (.string (tb (ppL n.nodes p))) ∧ Below w.heap.size w w' := by
  obtain ⟨f, t, hf, ht, ef, et, na, nb, s1, s2, k0, k1, v0, v1, l0, l1⟩ := pipe_facts hb hp
  have HR := hid (ppL_tbS na nb)
  obtain ⟨A, hA⟩ : ∃ A, n.nodes[f].name = A := ⟨_, rfl⟩
  obtain ⟨B, hB⟩ : ∃ B, n.nodes[t].name = B := ⟨_, rfl⟩
  rw [hA, hB] at HR
  rw [hA] at s1
  rw [hB] at s2
  have hlen : n.nodes.length ≤ 24 := (netB_t hb).2.1
  obtain ⟨a0, k0', rfl⟩ := h.1.shape
  obtain ⟨a1, k1', rfl⟩ := h.2.2.shape
  obtain ⟨b0, off0, rfl, hlt0, hc⟩ := h.1.at' (by omega)
  have q1 := (cellsN (hc f hf)).1
  have q2 := (cellsN (hc t ht)).1
  rw [hA] at q1
  rw [hB] at q2
  obtain ⟨pf, pt, k, vol, lim⟩ := p
  simp only at ef et k0 k1 v0 v1 l0 l1 HR
  subst ef et
  have hW1 := below_new w (.cells #[.slice (some ⟨b0, off0, none⟩) n.nodes.length k0', .slice a1 n.pipes.length k1'] 34)
  obtain ⟨w1, hw1⟩ : ∃ w1, w1 = w.alloc (.cells #[.slice (some ⟨b0, off0, none⟩) n.nodes.length k0', .slice a1 n.pipes.length k1'] 34) := ⟨_, rfl⟩
  have hz1 : w1.heap.size = w.heap.size + 1 := by rw [hw1]; simp
  have x1 := Box.new w #[.slice (some ⟨b0, off0, none⟩) n.nodes.length k0', .slice a1 n.pipes.length k1'] 34
  rw [← hw1] at hW1 x1
  have hW2 := below_new w1 (.cells #[.int .i64 f, .int .i64 t, .int .i64 k, .int .i64 vol, .int .i64 lim] 54)
  have x2 := Box.new w1 #[.int .i64 f, .int .i64 t, .int .i64 k, .int .i64 vol, .int .i64 lim] 54
  have x1 := x1.below hW2
  have q1 := (hW1.cell (p := ⟨b0, off0 + f * 3, none⟩) hlt0).trans q1
  have q2 := (hW1.cell (p := ⟨b0, off0 + t * 3, none⟩) hlt0).trans q2
  have q1 := (hW2.cell (p := ⟨b0, off0 + f * 3, none⟩) (Nat.lt_of_lt_of_le hlt0 hW1.size)).trans q1
  have q2 := (hW2.cell (p := ⟨b0, off0 + t * 3, none⟩) (Nat.lt_of_lt_of_le hlt0 hW1.size)).trans q2
  obtain ⟨w2, hw2⟩ : ∃ w2, w2 = w1.alloc (.cells #[.int .i64 f, .int .i64 t, .int .i64 k, .int .i64 vol, .int .i64 lim] 54) := ⟨_, rfl⟩
  have hz2 : w2.heap.size = w.heap.size + 1 + 1 := by rw [hw2]; simp [hz1]
  rw [← hw2] at hW2 x1 x2 q1 q2
  rw [hz1] at x2
  have HW := hid (hW1.trans (hW2.mono (by omega)))
  have hbn := x1.1
  have hbp := x2.1
  have hlt2 : b0 < w2.heap.size := by omega
  obtain ⟨c0, c1⟩ := x1.two
  obtain ⟨d0, d1, d2, d3, d4⟩ := x2.five
  have HI : Hid (In64 [k, vol, lim]) := fun z hz => by
    simp only [List.mem_cons, List.not_mem_nil, or_false] at hz
    omega
  have lW : (tb (wordsT [k, vol, lim])).size ≤ 66 := by
    rw [tb_size]
    have := wordsT_len HI.out 3
    simpa using this
  have HI3 : Hid (Ints .i64 (w2.alloc (.cells #[.int .i64 k, .int .i64 vol, .int .i64 lim] 2)) (.slice (some ⟨w2.heap.size, 0, none⟩) 3 3) [k, vol, lim]) := by
    have := ints_three w2 2 k vol lim
    exact this
  have HZ2 := hid hz2
  have HE : Hid (w2 = (w.alloc (.cells #[.slice (some ⟨b0, off0, none⟩) n.nodes.length k0', .slice a1 n.pipes.length k1'] 34)).alloc (.cells #[.int .i64 f, .int .i64 t, .int .i64 k, .int .i64 vol, .int .i64 lim] 54)) := by rw [Hid, hw2, hw1]
  have z1 : ¬ (9223372036854775807 < 5 + A.size) := by omega
  have z2 : ¬ (9223372036854775807 < 5 + A.size + 1) := by omega
  have z3 : ¬ (9223372036854775807 < 5 + A.size + 1 + B.size) := by omega
  have z4 : ¬ (9223372036854775807 < 5 + A.size + 1 + B.size + (tb (wordsT [k, vol, lim])).size) := by omega
  have hbn := hid hbn
  have hbp := hid hbp
  have hlt2 := hid hlt2
  clear h hb hp hA hB na nb hc hW1 hW2 hw1 hw2 x1 x2 hz1 hz2 s1 s2 k0 k1 v0 v1 l0 l1 lW hlen hlt0 c1
  go_enter Tryz.func27, Tryz.ntmps27
  go_wp2_with fail
  rw [← HE.out]
  go_region_held3 (fun W => W.cell? ⟨w.heap.size, 0, none⟩ = some (.slice (some ⟨b0, off0, none⟩) n.nodes.length k0') ∧ W.cell? ⟨w.heap.size + 1, 0, none⟩ = some (.int .i64 f) ∧ W.cell? ⟨w.heap.size + 1, 1, none⟩ = some (.int .i64 t) ∧ W.cell? ⟨w.heap.size + 1, 2, none⟩ = some (.int .i64 k) ∧ W.cell? ⟨w.heap.size + 1, 3, none⟩ = some (.int .i64 vol) ∧ W.cell? ⟨w.heap.size + 1, 4, none⟩ = some (.int .i64 lim) ∧ W.cell? ⟨b0, off0 + f * 3, none⟩ = some (.string A) ∧ W.cell? ⟨b0, off0 + t * 3, none⟩ = some (.string B))
    (first | exact ⟨c0, d0, d1, d2, d3, d4, q1, q2⟩ | exact ⟨C0, D0, D1, D2, D3, D4, Q1, Q2⟩ | exact ⟨cell_al c0, cell_al d0, cell_al d1, cell_al d2, cell_al d3, cell_al d4, cell_al q1, cell_al q2⟩)
    (first
      | (go_at_call 20; refine (l03Words_any _ [k, vol, lim] (w2.alloc (.cells #[.int .i64 k, .int .i64 vol, .int .i64 lim] 2)).drew HI3.out HI.out (by simp)).mono ?_; rintro e w3 ⟨rfl, b3⟩; have b3 := (below_new w2 (.cells #[.int .i64 k, .int .i64 vol, .int .i64 lim] 2)).trans ((below_undrew b3).mono (by simp)); have C0 := (b3.cell (p := ⟨w.heap.size, 0, none⟩) hbn.out).trans c0; have D0 := (b3.cell (p := ⟨w.heap.size + 1, 0, none⟩) hbp.out).trans d0; have D1 := (b3.cell (p := ⟨w.heap.size + 1, 1, none⟩) hbp.out).trans d1; have D2 := (b3.cell (p := ⟨w.heap.size + 1, 2, none⟩) hbp.out).trans d2; have D3 := (b3.cell (p := ⟨w.heap.size + 1, 3, none⟩) hbp.out).trans d3; have D4 := (b3.cell (p := ⟨w.heap.size + 1, 4, none⟩) hbp.out).trans d4; have Q1 := (b3.cell (p := ⟨b0, off0 + f * 3, none⟩) hlt2.out).trans q1; have Q2 := (b3.cell (p := ⟨b0, off0 + t * 3, none⟩) hlt2.out).trans q2; have HB3 := hid (HW.out.trans (b3.mono HW.out.size))))
  go_wp2_with fail
  go_ret
  rw [HR.out]
  exact ⟨rfl, HB3.out⟩

end Go.Proofs.YtdbgncinaacheaaGreatDoor
