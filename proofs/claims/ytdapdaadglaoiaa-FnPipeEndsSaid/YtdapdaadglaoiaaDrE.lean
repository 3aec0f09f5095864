/- The draw of a network, a pipe and a node. -/
import Derived.Test.YtdapdaadglaoiaaDrS
import Derived.Deep.RegionHeld3
namespace Go.Proofs.Ytdapdaadglaoiaa
open Go.RowKit

theorem ints2_mem {z : Value} {a b : Int} (h : z ∈ [Value.int .i64 a, .int .i64 b]) : ∃ b : Int, z = .int .i64 b := by
  simp only [List.mem_cons, List.not_mem_nil, or_false] at h
  rcases h with rfl | rfl <;> exact ⟨_, rfl⟩

set_option maxHeartbeats 4000000 in
set_option maxRecDepth 100000 in
theorem DrawOtherEnd_any (a : Option Addr) (len cap : Nat) (w : World) (h : Bytes w a len w.heap.size) :
    Calls Try.prog 19 #[.slice a len cap] w fun e w' => ∃ nv pv n, ∃ r q : Int, e = .returned (.tuple #[.agg #[nv, pv], .int .i64 r, .int .i64 q]) ∧ Dn w w' nv pv n := by
  have hW0 := (Kept.refl (fun _ => False) w).alloc (.cells #[.slice none 0 0, .slice none 0 0] 27)
  have hbx := Blk.new w #[.slice none 0 0, .slice none 0 0] 27
  have h := h.kept hW0 (fun k e => e.elim)
  obtain ⟨W0, hWe⟩ : ∃ W0, w.alloc (.cells #[.slice none 0 0, .slice none 0 0] 27) = W0 := ⟨_, rfl⟩
  have hz0 : W0.heap.size = w.heap.size + 1 := by rw [← hWe]; simp
  rw [hWe] at hW0 hbx h
  have h : Bytes W0 a len W0.heap.size := by
    obtain ⟨h1, h2⟩ := h
    exact ⟨h1, h2.imp id (fun ⟨b, off, e1, e2, e3⟩ => ⟨b, off, e1, by omega, e3⟩)⟩
  go_enter Try.func19, Try.ntmps19
  go_wp2_with fail
  clear hWe
  refine (l01From_any a len cap W0 h).mono ?_
  rintro e w1 ⟨rfl, hs1, hb1⟩
  rw [hz0] at hs1
  have z1 := hb1.size
  go_wp2_with fail
  refine (l02DrawAny_any _ _ hs1).mono ?_
  rintro e w2 ⟨nv, pv, n, rfl, hd⟩
  have hbx1 := hbx.below hb1
  have HX2 := hid (hbx1.kept hd.kp (by omega))
  have HD := hid hd
  have HW0 := hid hW0
  have HB1 := hid hb1
  have hs1l := hs1.lt
  have hs2 := hd.src
  obtain ⟨a0, k0, rfl⟩ := hd.ap.at.1.shape
  obtain ⟨a1, k1, rfl⟩ := hd.ap.at.2.2.shape
  have hl1 := hd.l1
  have hl2 := hd.l2
  clear hW0 hbx hbx1 h hs1 hd
  have HX3 := hid (HX2.out.below (below_new w2 (.cells #[.slice a0 n.nodes.length k0, .slice a1 n.pipes.length k1] 27)))
  have HN3 := hid (Blk.new w2 #[.slice a0 n.nodes.length k0, .slice a1 n.pipes.length k1] 27)
  have hs3 := hs2.alloc (.cells #[.slice a0 n.nodes.length k0, .slice a1 n.pipes.length k1] 27)
  have zx := HX2.out.lt
  have hs2l := hs2.lt
  obtain ⟨W3, hW3⟩ : ∃ W3, w2.alloc (.cells #[.slice a0 n.nodes.length k0, .slice a1 n.pipes.length k1] 27) = W3 := ⟨_, rfl⟩
  have b3 : Below w2.heap.size w2 W3 := by rw [← hW3]; exact below_new _ _
  rw [hW3] at HX3 HN3 hs3
  have c0 := HN3.out.cell 0 (by simp)
  have c1 := HN3.out.cell 1 (by simp)
  have HS3 := hid hs3
  have q0' := HX3.out.cell 0 (by simp)
  have q1' := HX3.out.cell 1 (by simp)
  have g0 := HX3.out.frozen 0
  have g1 := HX3.out.frozen 1
  have HN := hid (HD.out.ap.below b3)
  have HKP : Hid (∀ W, Kept (fun b => b = w.heap.size + 1 ∨ b = w.heap.size) W3 W → W.cell? ⟨w2.heap.size, 0, none⟩ = some (.slice a0 n.nodes.length k0) ∧ W.cell? ⟨w2.heap.size, 1, none⟩ = some (.slice a1 n.pipes.length k1)) := fun W hW =>
    ⟨hW.cell c0 (by simp only; omega), hW.cell c1 (by simp only; omega)⟩
  clear hs2 hs3
  go_wp2_with fail
  clear hW3
  refine (l02DrawIndex_any _ _ _ (by omega) (by omega) HS3.out).mono ?_
  rintro e w4 ⟨r, rfl, r0, r1, hs4, hk4⟩
  have HC0 := hid (hk4.cell c0 (by simp only; omega))
  have HC1 := hid (hk4.cell c1 (by simp only; omega))
  have hb1 : ((n.pipes.length : Int) - 1) ≤ 10 := by omega
  have d0 := HC0.out
  have d1 := HC1.out
  have K4 := hk4.mono (Y := fun b => b = w.heap.size + 1 ∨ b = w.heap.size) (fun b _ h => Or.inl h)
  clear c0 c1
  cases hin : inB r 0 ((n.pipes.length : Int) - 1)
  · go_wp2_with (go_at_call 91; refine (l01In_any _ _ _ _).mono ?_; rw [hin]; rintro e w' ⟨rfl, rfl⟩)
    go_region_held3 (fun W => W.cell? ⟨w2.heap.size, 0, none⟩ = some (.slice a0 n.nodes.length k0) ∧ W.cell? ⟨w2.heap.size, 1, none⟩ = some (.slice a1 n.pipes.length k1))
      (first | exact HKP.out _ K4.drew | exact HKP.out _ K6 | exact HKP.out _ (K6.setCell (p := ⟨w.heap.size, 0, none⟩) (Or.inr rfl) _) | exact HKP.out _ ((K6.setCell (p := ⟨w.heap.size, 0, none⟩) (Or.inr rfl) _).setCell (p := ⟨w.heap.size, 1, none⟩) (Or.inr rfl) _))
      (first
        | (go_at_call 90; refine (l02DrawIndex_any _ _ _ (by omega) (by omega) hs4.drew).mono ?_; rintro e w6 ⟨q, rfl, r2, r3, hs6, hk6⟩; have hk6 := hk4.trans hk6.undrew; have K6 := hk6.mono (Y := fun b => b = w.heap.size + 1 ∨ b = w.heap.size) (fun b _ h => Or.inl h); have Q0 := hk6.cell q0' (by simp only; omega); have Q1 := hk6.cell q1' (by simp only; omega); have G0 := (hk6.frozen (p := ⟨w.heap.size, 0, none⟩) (by have := b3.size; simp only; omega) (by simp only; omega)).trans g0; have G1 := (hk6.frozen (p := ⟨w.heap.size, 1, none⟩) (by have := b3.size; simp only; omega) (by simp only; omega)).trans g1))
    obtain ⟨W, hW, ⟨e0, e1⟩, hdn⟩ := draw_end HW0.out HB1.out hz0 rfl hs1l HD.out b3 hk6 (HX3.out.kept hk6 (by omega))
    rw [hW]
    go_wp2_with fail
    exact bodyPost_ret (v := .tuple #[.agg #[.slice a0 n.nodes.length k0, .slice a1 n.pipes.length k1], .int .i64 r, .int .i64 q]) (by simp [results, Try.results19, go_sem, e0, e1]) rfl ⟨_, _, _, _, _, rfl, hdn⟩
  · obtain ⟨h0, h1⟩ : 0 ≤ r ∧ r ≤ (n.pipes.length : Int) - 1 := by unfold inB at hin; simpa using hin
    obtain ⟨K, rfl⟩ : ∃ K : Nat, r = K := ⟨r.toNat, by omega⟩
    have hKI : (K : Int) < n.pipes.length := by omega
    have hK' : K < n.pipes.length := by omega
    obtain ⟨pb, poff, hpe, hpl, hpX, _, hpc⟩ := HN.out.own.2.2.at' (by omega)
    subst hpe
    obtain ⟨x0, x1, _, _, _⟩ := cellsP (hpc K hK')
    obtain ⟨FR, hFR⟩ : ∃ FR, n.pipes[K].fr = FR := ⟨_, rfl⟩
    obtain ⟨TO, hTO⟩ : ∃ TO, n.pipes[K].to = TO := ⟨_, rfl⟩
    rw [hFR] at x0
    rw [hTO] at x1
    have hpX1 := hpX.1
    have KP : Hid (∀ W, Kept (fun b => b = w.heap.size + 1 ∨ b = w.heap.size) W3 W → W.cell? ⟨w2.heap.size, 0, none⟩ = some (.slice a0 n.nodes.length k0) ∧ W.cell? ⟨w2.heap.size, 1, none⟩ = some (.slice (some ⟨pb, poff, none⟩) n.pipes.length k1) ∧ W.cell? ⟨pb, poff + K * 5, none⟩ = some (.int .i64 FR) ∧ W.cell? ⟨pb, poff + K * 5 + 1, none⟩ = some (.int .i64 TO)) := fun W hW =>
      ⟨(HKP.out W hW).1, (HKP.out W hW).2, hW.cell x0 (by simp only; omega), hW.cell x1 (by simp only; omega)⟩
    clear hpc hFR hTO x0 x1
    go_wp2_with (go_at_call 91; refine (l01In_any _ _ _ _).mono ?_; rw [hin]; rintro e w' ⟨rfl, rfl⟩)
    refine (l01Next_any _ 3 _ (by omega) (by omega) hs4).mono ?_
    rintro e w5 ⟨y, rfl, y0, y1, hs5, hk5⟩
    have hk5 := hk4.trans hk5
    have KA := hk5.mono (Y := fun b => b = w.heap.size + 1 ∨ b = w.heap.size) (fun b _ h => Or.inl h)
    have d0 := (HKP.out _ KA).1
    have d1 := (HKP.out _ KA).2
    by_cases hy : 0 < y
    · go_wp2_with fail
      refine wp_region_held_drew (S := fun W => W.cell? ⟨w2.heap.size, 0, none⟩ = some (.slice a0 n.nodes.length k0) ∧ W.cell? ⟨w2.heap.size, 1, none⟩ = some (.slice (some ⟨pb, poff, none⟩) n.pipes.length k1) ∧ W.cell? ⟨pb, poff + K * 5, none⟩ = some (.int .i64 FR) ∧ W.cell? ⟨pb, poff + K * 5 + 1, none⟩ = some (.int .i64 TO)) (by kernel_rfl) ?_ (fun hHeld => ?_)
      · exact KP.out _ KA.drew
      refine wpAnyH_take (i := 0) (v := .agg #[.slice a0 n.nodes.length k0, .slice (some ⟨pb, poff, none⟩) n.pipes.length k1]) rfl (by kernel_rfl) (by kernel_rfl) (by kernel_rfl) (fun _ _ _ h => h) (Or.inl ⟨by rfl, ?_⟩) (by assumption) ?_
      · intro wq hSw
        try dsimp only at hSw
        go_simp
      try simp only [Act.put]
      refine wpAnyH_take (i := 1) (v := .int .i64 K) rfl (by kernel_rfl) (by kernel_rfl) (by kernel_rfl) (fun _ _ _ h => h) (Or.inl ⟨by rfl, ?_⟩) (by assumption) ?_
      · intro wq hSw
        try dsimp only at hSw
        go_simp
      try simp only [Act.put]
      refine wpAnyH_take (i := 2) (v := .pointer (some ⟨w2.heap.size, 1, none⟩)) rfl (by kernel_rfl) (by kernel_rfl) (by kernel_rfl) (fun _ _ _ h => h) (Or.inl ⟨by rfl, ?_⟩) (by assumption) ?_
      · intro wq hSw
        try dsimp only at hSw
        go_simp
      try simp only [Act.put]
      refine wpAnyH_take (i := 3) (v := .slice (some ⟨pb, poff, none⟩) n.pipes.length k1) rfl (by kernel_rfl) (by kernel_rfl) (by kernel_rfl) (fun _ _ _ h => h) (Or.inl ⟨by rfl, ?_⟩) (by assumption) ?_
      · intro wq hSw
        try dsimp only at hSw
        go_simp
      try simp only [Act.put]
      refine wpAnyH_take (i := 4) (v := .int .i64 K) rfl (by kernel_rfl) (by kernel_rfl) (by kernel_rfl) (fun _ _ _ h => h) (Or.inl ⟨by rfl, ?_⟩) (by assumption) ?_
      · intro wq hSw
        try dsimp only at hSw
        go_simp
      try simp only [Act.put]
      refine wpAnyH_take (i := 5) (v := .pointer (some ⟨pb, poff + K * 5, none⟩)) rfl (by kernel_rfl) (by kernel_rfl) (by kernel_rfl) (fun _ _ _ h => h) (Or.inl ⟨by rfl, ?_⟩) (by assumption) ?_
      · intro wq hSw
        try dsimp only at hSw
        go_simp
      try simp only [Act.put]
      refine wpAnyH_take (i := 6) (v := .pointer (some ⟨pb, poff + K * 5, none⟩)) rfl (by kernel_rfl) (by kernel_rfl) (by kernel_rfl) (fun _ _ _ h => h) (Or.inl ⟨by rfl, ?_⟩) (by assumption) ?_
      · intro wq hSw
        try dsimp only at hSw
        go_simp
      try simp only [Act.put]
      refine wpAnyH_take (i := 7) (v := .int .i64 FR) rfl (by kernel_rfl) (by kernel_rfl) (by kernel_rfl) (fun _ _ _ h => h) (Or.inl ⟨by rfl, ?_⟩) (by assumption) ?_
      · intro wq hSw
        try dsimp only at hSw
        go_simp
      try simp only [Act.put]
      refine wpAnyH_take (i := 8) (v := .pointer (some ⟨w2.heap.size, 1, none⟩)) rfl (by kernel_rfl) (by kernel_rfl) (by kernel_rfl) (fun _ _ _ h => h) (Or.inl ⟨by rfl, ?_⟩) (by assumption) ?_
      · intro wq hSw
        try dsimp only at hSw
        go_simp
      try simp only [Act.put]
      refine wpAnyH_take (i := 9) (v := .slice (some ⟨pb, poff, none⟩) n.pipes.length k1) rfl (by kernel_rfl) (by kernel_rfl) (by kernel_rfl) (fun _ _ _ h => h) (Or.inl ⟨by rfl, ?_⟩) (by assumption) ?_
      · intro wq hSw
        try dsimp only at hSw
        go_simp
      try simp only [Act.put]
      refine wpAnyH_take (i := 10) (v := .int .i64 K) rfl (by kernel_rfl) (by kernel_rfl) (by kernel_rfl) (fun _ _ _ h => h) (Or.inl ⟨by rfl, ?_⟩) (by assumption) ?_
      · intro wq hSw
        try dsimp only at hSw
        go_simp
      try simp only [Act.put]
      refine wpAnyH_take (i := 11) (v := .pointer (some ⟨pb, poff + K * 5, none⟩)) rfl (by kernel_rfl) (by kernel_rfl) (by kernel_rfl) (fun _ _ _ h => h) (Or.inl ⟨by rfl, ?_⟩) (by assumption) ?_
      · intro wq hSw
        try dsimp only at hSw
        go_simp
      try simp only [Act.put]
      refine wpAnyH_take (i := 12) (v := .pointer (some ⟨pb, poff + K * 5 + 1, none⟩)) rfl (by kernel_rfl) (by kernel_rfl) (by kernel_rfl) (fun _ _ _ h => h) (Or.inl ⟨by rfl, ?_⟩) (by assumption) ?_
      · intro wq hSw
        try dsimp only at hSw
        go_simp
      try simp only [Act.put]
      refine wpAnyH_take (i := 13) (v := .int .i64 TO) rfl (by kernel_rfl) (by kernel_rfl) (by kernel_rfl) (fun _ _ _ h => h) (Or.inl ⟨by rfl, ?_⟩) (by assumption) ?_
      · intro wq hSw
        try dsimp only at hSw
        go_simp
      try simp only [Act.put]
      refine wpAnyH_take (i := 15) (v := .pointer (some ⟨w.heap.size + 1, 0, none⟩)) rfl (by kernel_rfl) (by kernel_rfl) (by kernel_rfl) (fun _ _ _ h => h) (Or.inl ⟨by rfl, ?_⟩) (by assumption) ?_
      · intro wq hSw
        try dsimp only at hSw
        go_simp
      try simp only [Act.put]
      refine wpAnyH_ready (rs := [14, 16]) (by kernel_rfl) (by simp) ?_
      refine (AllReadyH.cons rfl (fun KK hK => ?_) (AllReadyH.cons rfl (fun KK hK => ?_) AllReadyH.nil))
      · go_simp
        refine hK.out _ _ ?_ (fun hHeld => ?_)
        · exact KP.out _ (KA.alloc _).drew
        clear hK KK
        try simp only [Act.put]
        refine wpAnyH_ready (rs := [16]) (by kernel_rfl) (by simp) ?_
        refine (AllReadyH.cons rfl (fun KK hK => ?_) AllReadyH.nil)
        go_simp
        refine (l01Next_any _ 2 _ (by omega) (by omega) (hs5.alloc _).drew).mono ?_
        rintro e w6 ⟨q, rfl, q0, q1, hs6, hk6⟩
        have hk6 := hk6.undrew
        obtain ⟨z, hz', hzm⟩ := vals_at w5 [.int .i64 FR, .int .i64 TO] 2 q q0 q1
        have zb3 := b3.size
        have zz := hk5.size
        have hz := hk6.cell hz' (by simp only; omega)
        have hk6 := (hk5.alloc _).trans hk6
        have K6 := hk6.mono (Y := fun b => b = w.heap.size + 1 ∨ b = w.heap.size) (fun b _ h => Or.inl h)
        have Q0 := hk6.cell q0' (by simp only; omega)
        have Q1 := hk6.cell q1' (by simp only; omega)
        have G0 := (hk6.frozen (p := ⟨w.heap.size, 0, none⟩) (by have := b3.size; simp only; omega) (by simp only; omega)).trans g0
        have G1 := (hk6.frozen (p := ⟨w.heap.size, 1, none⟩) (by have := b3.size; simp only; omega) (by simp only; omega)).trans g1
        obtain ⟨zb, rfl⟩ := ints2_mem hzm
        refine hK.out _ _ ?_ (fun hHeld => ?_)
        · exact KP.out _ K6
        clear hK KK
        try simp only [Act.put]
        have hNE : w.heap.size ≠ w5.heap.size := by omega
        refine wpAnyH_strong (S' := fun W => (W.cell? ⟨w2.heap.size, 0, none⟩ = some (.slice a0 n.nodes.length k0) ∧ W.cell? ⟨w2.heap.size, 1, none⟩ = some (.slice (some ⟨pb, poff, none⟩) n.pipes.length k1) ∧ W.cell? ⟨pb, poff + K * 5, none⟩ = some (.int .i64 FR) ∧ W.cell? ⟨pb, poff + K * 5 + 1, none⟩ = some (.int .i64 TO)) ∧ W.cell? ⟨w5.heap.size, q.toNat, none⟩ = some (.int .i64 zb)) (fun W h => h.1) ?_
        have hHeld := And.intro hHeld hz
        refine wpAnyH_take (i := 17) (v := .pointer (some ⟨w5.heap.size, q.toNat, none⟩)) rfl (by kernel_rfl) (by kernel_rfl) (by kernel_rfl) (fun _ _ _ h => h) (Or.inl ⟨by rfl, ?_⟩) (by assumption) ?_
        · intro wq hSw
          try dsimp only at hSw
          go_simp
        try simp only [Act.put]
        refine wpAnyH_take (i := 18) (v := .int .i64 zb) rfl (by kernel_rfl) (by kernel_rfl) (by kernel_rfl) (fun _ _ _ h => h) (Or.inl ⟨by rfl, ?_⟩) (by assumption) ?_
        · intro wq hSw
          try dsimp only at hSw
          go_simp
        try simp only [Act.put]
        refine wpAnyH_ready (rs := [19]) (by kernel_rfl) (by simp) ?_
        refine (AllReadyH.cons rfl (fun KK hK => ?_) AllReadyH.nil)
        go_simp
        refine hK.out _ _ ?_ (fun hHeld => ?_)
        · exact ⟨KP.out _ ((K6.setCell (p := ⟨w.heap.size, 0, none⟩) (Or.inr rfl) _).setCell (p := ⟨w.heap.size, 1, none⟩) (Or.inr rfl) _), (cell_off2 (Or.inl hNE)).trans ((cell_off2 (Or.inl hNE)).trans hz)⟩
        clear hK KK
        try simp only [Act.put]
        refine wpAnyH_take (i := 20) (v := .int .i64 K) rfl (by kernel_rfl) (by kernel_rfl) (by kernel_rfl) (fun _ _ _ h => h) (Or.inl ⟨by rfl, ?_⟩) (by assumption) ?_
        · intro wq hSw
          try dsimp only at hSw
          go_simp
        try simp only [Act.put]
        refine wpAnyH_take (i := 21) (v := .int .i64 zb) rfl (by kernel_rfl) (by kernel_rfl) (by kernel_rfl) (fun _ _ _ h => h) (Or.inl ⟨by rfl, ?_⟩) (by assumption) ?_
        · intro wq hSw
          try dsimp only at hSw
          go_simp
        try simp only [Act.put]
        simp only [List.getElem_toArray, List.getElem_cons_succ, List.getElem_cons_zero, List.setIfInBounds_toArray, List.set_cons_zero, List.set_cons_succ]
        refine wpAnyH_done (by kernel_rfl) ?_ _
        obtain ⟨W, hW, ⟨e0, e1⟩, hdn⟩ := draw_end HW0.out HB1.out hz0 rfl hs1l HD.out b3 hk6 (HX3.out.kept hk6 (by omega))
        rw [hW]
        go_wp2_with fail
        exact bodyPost_ret (v := .tuple #[.agg #[.slice a0 n.nodes.length k0, .slice (some ⟨pb, poff, none⟩) n.pipes.length k1], .int .i64 K, .int .i64 zb]) (by simp [results, Try.results19, go_sem, e0, e1]) rfl ⟨_, _, _, _, _, rfl, hdn⟩
      · go_simp
        refine (l01Next_any _ 2 _ (by omega) (by omega) hs5.drew).mono ?_
        rintro e w6 ⟨q, rfl, q0, q1, hs6, hk6⟩
        have hk6 := hk6.undrew
        have hk6 := hk5.trans hk6
        have K6 := hk6.mono (Y := fun b => b = w.heap.size + 1 ∨ b = w.heap.size) (fun b _ h => Or.inl h)
        have zz := hk6.size
        have zb3 := b3.size
        refine hK.out _ _ ?_ (fun hHeld => ?_)
        · exact KP.out _ K6
        clear hK KK
        try simp only [Act.put]
        refine wpAnyH_ready (rs := [14, 19]) (by kernel_rfl) (by simp) ?_
        refine (AllReadyH.cons rfl (fun KK hK => ?_) (AllReadyH.cons rfl (fun KK hK => ?_) AllReadyH.nil))
        · go_simp
          obtain ⟨z, hz', hzm⟩ := vals_at w6 [.int .i64 FR, .int .i64 TO] 2 q q0 q1
          obtain ⟨zb, rfl⟩ := ints2_mem hzm
          obtain ⟨W4, hW4, b4⟩ : ∃ W4, w6.alloc (.cells #[.int .i64 FR, .int .i64 TO] 2) = W4 ∧ Below w6.heap.size w6 W4 := ⟨_, rfl, below_new _ _⟩
          rw [hW4] at hz'
          try rw [hW4]
          have hk7 := hk6.trans (Kept.of_below b4)
          have K7 := K6.trans (Kept.of_below b4)
          have Q0 := hk7.cell q0' (by simp only; omega)
          have Q1 := hk7.cell q1' (by simp only; omega)
          have G0 := (hk7.frozen (p := ⟨w.heap.size, 0, none⟩) (by have := b3.size; simp only; omega) (by simp only; omega)).trans g0
          have G1 := (hk7.frozen (p := ⟨w.heap.size, 1, none⟩) (by have := b3.size; simp only; omega) (by simp only; omega)).trans g1
          refine hK.out _ _ ?_ (fun hHeld => ?_)
          · exact KP.out _ K7
          clear hK KK
          try simp only [Act.put]
          have hz := hz'
          have hNE : w.heap.size ≠ w6.heap.size := by omega
          refine wpAnyH_strong (S' := fun W => (W.cell? ⟨w2.heap.size, 0, none⟩ = some (.slice a0 n.nodes.length k0) ∧ W.cell? ⟨w2.heap.size, 1, none⟩ = some (.slice (some ⟨pb, poff, none⟩) n.pipes.length k1) ∧ W.cell? ⟨pb, poff + K * 5, none⟩ = some (.int .i64 FR) ∧ W.cell? ⟨pb, poff + K * 5 + 1, none⟩ = some (.int .i64 TO)) ∧ W.cell? ⟨w6.heap.size, q.toNat, none⟩ = some (.int .i64 zb)) (fun W h => h.1) ?_
          have hHeld := And.intro hHeld hz
          refine wpAnyH_take (i := 17) (v := .pointer (some ⟨w6.heap.size, q.toNat, none⟩)) rfl (by kernel_rfl) (by kernel_rfl) (by kernel_rfl) (fun _ _ _ h => h) (Or.inl ⟨by rfl, ?_⟩) (by assumption) ?_
          · intro wq hSw
            try dsimp only at hSw
            go_simp
          try simp only [Act.put]
          refine wpAnyH_take (i := 18) (v := .int .i64 zb) rfl (by kernel_rfl) (by kernel_rfl) (by kernel_rfl) (fun _ _ _ h => h) (Or.inl ⟨by rfl, ?_⟩) (by assumption) ?_
          · intro wq hSw
            try dsimp only at hSw
            go_simp
          try simp only [Act.put]
          refine wpAnyH_ready (rs := [19]) (by kernel_rfl) (by simp) ?_
          refine (AllReadyH.cons rfl (fun KK hK => ?_) AllReadyH.nil)
          go_simp
          refine hK.out _ _ ?_ (fun hHeld => ?_)
          · exact ⟨KP.out _ ((K7.setCell (p := ⟨w.heap.size, 0, none⟩) (Or.inr rfl) _).setCell (p := ⟨w.heap.size, 1, none⟩) (Or.inr rfl) _), (cell_off2 (Or.inl hNE)).trans ((cell_off2 (Or.inl hNE)).trans hz)⟩
          clear hK KK
          try simp only [Act.put]
          refine wpAnyH_take (i := 20) (v := .int .i64 K) rfl (by kernel_rfl) (by kernel_rfl) (by kernel_rfl) (fun _ _ _ h => h) (Or.inl ⟨by rfl, ?_⟩) (by assumption) ?_
          · intro wq hSw
            try dsimp only at hSw
            go_simp
          try simp only [Act.put]
          refine wpAnyH_take (i := 21) (v := .int .i64 zb) rfl (by kernel_rfl) (by kernel_rfl) (by kernel_rfl) (fun _ _ _ h => h) (Or.inl ⟨by rfl, ?_⟩) (by assumption) ?_
          · intro wq hSw
            try dsimp only at hSw
            go_simp
          try simp only [Act.put]
          simp only [List.getElem_toArray, List.getElem_cons_succ, List.getElem_cons_zero, List.setIfInBounds_toArray, List.set_cons_zero, List.set_cons_succ]
          refine wpAnyH_done (by kernel_rfl) ?_ _
          obtain ⟨W, hW, ⟨e0, e1⟩, hdn⟩ := draw_end HW0.out HB1.out hz0 rfl hs1l HD.out b3 hk7 (HX3.out.kept hk7 (by omega))
          rw [hW]
          go_wp2_with fail
          exact bodyPost_ret (v := .tuple #[.agg #[.slice a0 n.nodes.length k0, .slice (some ⟨pb, poff, none⟩) n.pipes.length k1], .int .i64 K, .int .i64 zb]) (by simp [results, Try.results19, go_sem, e0, e1]) rfl ⟨_, _, _, _, _, rfl, hdn⟩
        · have Q0 := hk6.cell q0' (by simp only; omega)
          have Q1 := hk6.cell q1' (by simp only; omega)
          have G0 := (hk6.frozen (p := ⟨w.heap.size, 0, none⟩) (by have := b3.size; simp only; omega) (by simp only; omega)).trans g0
          have G1 := (hk6.frozen (p := ⟨w.heap.size, 1, none⟩) (by have := b3.size; simp only; omega) (by simp only; omega)).trans g1
          go_simp
          obtain ⟨W, hW, ⟨e0, e1⟩, hdn⟩ := draw_end HW0.out HB1.out hz0 rfl hs1l HD.out b3 hk6 (HX3.out.kept hk6 (by omega))
          rw [hW]
          have KW := (K6.setCell (p := ⟨w.heap.size, 0, none⟩) (Or.inr rfl) (.slice a0 n.nodes.length k0)).setCell (p := ⟨w.heap.size, 1, none⟩) (Or.inr rfl) (.slice (some ⟨pb, poff, none⟩) n.pipes.length k1)
          rw [hW] at KW
          have zw := KW.size
          refine hK.out _ _ ?_ (fun hHeld => ?_)
          · exact KP.out _ KW
          clear hK KK
          try simp only [Act.put]
          refine wpAnyH_take (i := 20) (v := .int .i64 K) rfl (by kernel_rfl) (by kernel_rfl) (by kernel_rfl) (fun _ _ _ h => h) (Or.inl ⟨by rfl, ?_⟩) (by assumption) ?_
          · intro wq hSw
            try dsimp only at hSw
            go_simp
          try simp only [Act.put]
          refine wpAnyH_ready (rs := [14]) (by kernel_rfl) (by simp) ?_
          refine (AllReadyH.cons rfl (fun KK hK => ?_) AllReadyH.nil)
          go_simp
          obtain ⟨z, hz', hzm⟩ := vals_at W [.int .i64 FR, .int .i64 TO] 2 q q0 q1
          obtain ⟨zb, rfl⟩ := ints2_mem hzm
          have e0 := (below_new W (.cells #[.int .i64 FR, .int .i64 TO] 2)).cell (p := ⟨w.heap.size, 0, none⟩) (by simp only; omega) |>.trans e0
          have e1 := (below_new W (.cells #[.int .i64 FR, .int .i64 TO] 2)).cell (p := ⟨w.heap.size, 1, none⟩) (by simp only; omega) |>.trans e1
          have hdn := hdn.alloc (.cells #[.int .i64 FR, .int .i64 TO] 2)
          refine hK.out _ _ ?_ (fun hHeld => ?_)
          · exact KP.out _ (KW.alloc _)
          clear hK KK
          try simp only [Act.put]
          refine wpAnyH_strong (S' := fun W' => (W'.cell? ⟨w2.heap.size, 0, none⟩ = some (.slice a0 n.nodes.length k0) ∧ W'.cell? ⟨w2.heap.size, 1, none⟩ = some (.slice (some ⟨pb, poff, none⟩) n.pipes.length k1) ∧ W'.cell? ⟨pb, poff + K * 5, none⟩ = some (.int .i64 FR) ∧ W'.cell? ⟨pb, poff + K * 5 + 1, none⟩ = some (.int .i64 TO)) ∧ W'.cell? ⟨W.heap.size, q.toNat, none⟩ = some (.int .i64 zb)) (fun W h => h.1) ?_
          have hHeld := And.intro hHeld hz'
          refine wpAnyH_take (i := 17) (v := .pointer (some ⟨W.heap.size, q.toNat, none⟩)) rfl (by kernel_rfl) (by kernel_rfl) (by kernel_rfl) (fun _ _ _ h => h) (Or.inl ⟨by rfl, ?_⟩) (by assumption) ?_
          · intro wq hSw
            try dsimp only at hSw
            go_simp
          try simp only [Act.put]
          refine wpAnyH_take (i := 18) (v := .int .i64 zb) rfl (by kernel_rfl) (by kernel_rfl) (by kernel_rfl) (fun _ _ _ h => h) (Or.inl ⟨by rfl, ?_⟩) (by assumption) ?_
          · intro wq hSw
            try dsimp only at hSw
            go_simp
          try simp only [Act.put]
          refine wpAnyH_take (i := 21) (v := .int .i64 zb) rfl (by kernel_rfl) (by kernel_rfl) (by kernel_rfl) (fun _ _ _ h => h) (Or.inl ⟨by rfl, ?_⟩) (by assumption) ?_
          · intro wq hSw
            try dsimp only at hSw
            go_simp
          try simp only [Act.put]
          simp only [List.getElem_toArray, List.getElem_cons_succ, List.getElem_cons_zero, List.setIfInBounds_toArray, List.set_cons_zero, List.set_cons_succ]
          refine wpAnyH_done (by kernel_rfl) ?_ _
          go_wp2_with fail
          exact bodyPost_ret (v := .tuple #[.agg #[.slice a0 n.nodes.length k0, .slice (some ⟨pb, poff, none⟩) n.pipes.length k1], .int .i64 K, .int .i64 zb]) (by simp [results, Try.results19, go_sem, e0, e1]) rfl ⟨_, _, _, _, _, rfl, hdn⟩
    · go_wp2_with fail
      go_region_held3 (fun W => W.cell? ⟨w2.heap.size, 0, none⟩ = some (.slice a0 n.nodes.length k0) ∧ W.cell? ⟨w2.heap.size, 1, none⟩ = some (.slice (some ⟨pb, poff, none⟩) n.pipes.length k1))
        (first | exact HKP.out _ KA.drew | exact HKP.out _ K6 | exact HKP.out _ (K6.setCell (p := ⟨w.heap.size, 0, none⟩) (Or.inr rfl) _) | exact HKP.out _ ((K6.setCell (p := ⟨w.heap.size, 0, none⟩) (Or.inr rfl) _).setCell (p := ⟨w.heap.size, 1, none⟩) (Or.inr rfl) _))
        (first
          | (go_at_call 90; refine (l02DrawIndex_any _ _ _ (by omega) (by omega) hs5.drew).mono ?_; rintro e w6 ⟨q, rfl, r2, r3, hs6, hk6⟩; have hk6 := hk5.trans hk6.undrew; have K6 := hk6.mono (Y := fun b => b = w.heap.size + 1 ∨ b = w.heap.size) (fun b _ h => Or.inl h); have Q0 := hk6.cell q0' (by simp only; omega); have Q1 := hk6.cell q1' (by simp only; omega); have G0 := (hk6.frozen (p := ⟨w.heap.size, 0, none⟩) (by have := b3.size; simp only; omega) (by simp only; omega)).trans g0; have G1 := (hk6.frozen (p := ⟨w.heap.size, 1, none⟩) (by have := b3.size; simp only; omega) (by simp only; omega)).trans g1))
      obtain ⟨W, hW, ⟨e0, e1⟩, hdn⟩ := draw_end HW0.out HB1.out hz0 rfl hs1l HD.out b3 hk6 (HX3.out.kept hk6 (by omega))
      rw [hW]
      go_wp2_with fail
      exact bodyPost_ret (v := .tuple #[.agg #[.slice a0 n.nodes.length k0, .slice (some ⟨pb, poff, none⟩) n.pipes.length k1], .int .i64 K, .int .i64 q]) (by simp [results, Try.results19, go_sem, e0, e1]) rfl ⟨_, _, _, _, _, rfl, hdn⟩

end Go.Proofs.Ytdapdaadglaoiaa
