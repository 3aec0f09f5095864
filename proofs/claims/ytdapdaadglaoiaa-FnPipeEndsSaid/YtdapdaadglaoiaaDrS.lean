/- The draw of a network, an index and a name. -/
import Derived.Test.YtdapdaadglaoiaaDrI
import Derived.Test.YtdapdaadglaoiaaReg
import Derived.Deep.RegionHeld3
namespace Go.Proofs.Ytdapdaadglaoiaa
open Go.RowKit

theorem Dn.alloc {w W : World} {nv pv : Value} {n : Net} (h : Dn w W nv pv n) (x : Obj) : Dn w (W.alloc x) nv pv n :=
  ⟨(h.ap.below (below_new W x)).widen (Nat.le_refl _) (below_new W x).size, h.c1, h.c2, h.l1, h.l2, h.bel.trans ((below_new W x).mono h.bel.size)⟩
theorem strs7_mem {z : Value} (h : z ∈ [Value.string { data := #[120] }, .string { data := #[110, 48] }, .string { data := #[110, 49] }, .string { data := #[] }, .string { data := #[65] }, .string { data := #[101, 105, 103, 104, 116, 99, 104, 97] }, .string { data := #[110, 105, 110, 101, 99, 104, 97, 114, 115] }]) : ∃ t : ByteArray, z = .string t ∧ t.size ≤ 20 := by
  simp only [List.mem_cons, List.not_mem_nil, or_false] at h
  rcases h with rfl | rfl | rfl | rfl | rfl | rfl | rfl <;> exact ⟨_, rfl, by decide⟩

set_option maxHeartbeats 4000000 in
set_option maxRecDepth 100000 in
theorem DrawRenameNode_any (a : Option Addr) (len cap : Nat) (w : World) (h : Bytes w a len w.heap.size) :
    Calls Try.prog 68 #[.slice a len cap] w fun e w' => ∃ nv pv n, ∃ r : Int, ∃ t : ByteArray, e = .returned (.tuple #[.agg #[nv, pv], .int .i64 r, .string t]) ∧ t.size ≤ 20 ∧ Dn w w' nv pv n := by
  have hW0 := (Kept.refl (fun _ => False) w).alloc (.cells #[.slice none 0 0, .slice none 0 0] 27)
  have hbx := Blk.new w #[.slice none 0 0, .slice none 0 0] 27
  have h := h.kept hW0 (fun k e => e.elim)
  obtain ⟨W0, hWe⟩ : ∃ W0, w.alloc (.cells #[.slice none 0 0, .slice none 0 0] 27) = W0 := ⟨_, rfl⟩
  have hz0 : W0.heap.size = w.heap.size + 1 := by rw [← hWe]; simp
  rw [hWe] at hW0 hbx h
  have h : Bytes W0 a len W0.heap.size := by
    obtain ⟨h1, h2⟩ := h
    exact ⟨h1, h2.imp id (fun ⟨b, off, e1, e2, e3⟩ => ⟨b, off, e1, by omega, e3⟩)⟩
  go_enter Try.func68, Try.ntmps68
  go_wp2_with fail
  clear hWe
  refine (l01From_any a len cap W0 h).mono ?_
  rintro e w1 ⟨rfl, hs1, hb1⟩
  rw [hz0] at hs1
  have z1 := hb1.size
  go_wp2_with fail
  refine (l02DrawAny_any _ _ hs1).mono ?_
  rintro e w2 ⟨nv, pv, n, rfl, hd⟩
  have hbx1 := hbx.below hb1
  have HX2 := hid (hbx1.kept hd.kp (by omega))
  have HD := hid hd
  have HW0 := hid hW0
  have HB1 := hid hb1
  have hs1l := hs1.lt
  have hs2 := hd.src
  obtain ⟨a0, k0, rfl⟩ := hd.ap.at.1.shape
  obtain ⟨a1, k1, rfl⟩ := hd.ap.at.2.2.shape
  have hl1 := hd.l1
  have hl2 := hd.l2
  clear hW0 hbx hbx1 h hs1 hd
  have HX3 := hid (HX2.out.below (below_new w2 (.cells #[.slice a0 n.nodes.length k0, .slice a1 n.pipes.length k1] 27)))
  have HN3 := hid (Blk.new w2 #[.slice a0 n.nodes.length k0, .slice a1 n.pipes.length k1] 27)
  have hs3 := hs2.alloc (.cells #[.slice a0 n.nodes.length k0, .slice a1 n.pipes.length k1] 27)
  have zx := HX2.out.lt
  have hs2l := hs2.lt
  obtain ⟨W3, hW3⟩ : ∃ W3, w2.alloc (.cells #[.slice a0 n.nodes.length k0, .slice a1 n.pipes.length k1] 27) = W3 := ⟨_, rfl⟩
  have b3 : Below w2.heap.size w2 W3 := by rw [← hW3]; exact below_new _ _
  rw [hW3] at HX3 HN3 hs3
  have c0 := HN3.out.cell 0 (by simp)
  have c1 := HN3.out.cell 1 (by simp)
  go_wp2_with fail
  have KP : Hid (∀ W, Kept (fun b => b = w.heap.size + 1 ∨ b = w.heap.size) W3 W → W.cell? ⟨w2.heap.size, 0, none⟩ = some (.slice a0 n.nodes.length k0) ∧ W.cell? ⟨w2.heap.size, 1, none⟩ = some (.slice a1 n.pipes.length k1)) := fun W hW =>
    ⟨hW.cell c0 (by simp only; omega), hW.cell c1 (by simp only; omega)⟩
  have HS3 := hid hs3
  have q0' := HX3.out.cell 0 (by simp)
  have q1' := HX3.out.cell 1 (by simp)
  have g0 := HX3.out.frozen 0
  have g1 := HX3.out.frozen 1
  clear hs2 hs3 hW3
  refine wp_region_held_drew (S := fun W => W.cell? ⟨w2.heap.size, 0, none⟩ = some (.slice a0 n.nodes.length k0) ∧ W.cell? ⟨w2.heap.size, 1, none⟩ = some (.slice a1 n.pipes.length k1)) (by kernel_rfl) ?_ (fun hHeld => ?_)
  · exact KP.out _ (Kept.refl _ _).drew
  refine wpAnyH_take (i := 0) (v := .agg #[.slice a0 n.nodes.length k0, .slice a1 n.pipes.length k1]) rfl (by kernel_rfl) (by kernel_rfl) (by kernel_rfl) (fun _ _ _ h => h) (Or.inl ⟨by rfl, ?_⟩) (by assumption) ?_
  · intro wq hSw
    try dsimp only at hSw
    go_simp
  try simp only [Act.put]
  refine wpAnyH_take (i := 1) (v := .pointer (some ⟨w.heap.size + 1, 0, none⟩)) rfl (by kernel_rfl) (by kernel_rfl) (by kernel_rfl) (fun _ _ _ h => h) (Or.inl ⟨by rfl, ?_⟩) (by assumption) ?_
  · intro wq hSw
    try dsimp only at hSw
    go_simp
  try simp only [Act.put]
  refine wpAnyH_take (i := 2) (v := .pointer (some ⟨w2.heap.size, 0, none⟩)) rfl (by kernel_rfl) (by kernel_rfl) (by kernel_rfl) (fun _ _ _ h => h) (Or.inl ⟨by rfl, ?_⟩) (by assumption) ?_
  · intro wq hSw
    try dsimp only at hSw
    go_simp
  try simp only [Act.put]
  refine wpAnyH_take (i := 3) (v := .slice a0 n.nodes.length k0) rfl (by kernel_rfl) (by kernel_rfl) (by kernel_rfl) (fun _ _ _ h => h) (Or.inl ⟨by rfl, ?_⟩) (by assumption) ?_
  · intro wq hSw
    try dsimp only at hSw
    go_simp
  try simp only [Act.put]
  refine wpAnyH_take (i := 4) (v := .int .i64 n.nodes.length) rfl (by kernel_rfl) (by kernel_rfl) (by kernel_rfl) (fun _ _ _ h => h) (Or.inl ⟨by rfl, ?_⟩) (by assumption) ?_
  · intro wq hSw
    try dsimp only at hSw
    go_simp
  try simp only [Act.put]
  refine wpAnyH_take (i := 7) (v := .pointer (some ⟨w.heap.size + 1, 0, none⟩)) rfl (by kernel_rfl) (by kernel_rfl) (by kernel_rfl) (fun _ _ _ h => h) (Or.inl ⟨by rfl, ?_⟩) (by assumption) ?_
  · intro wq hSw
    try dsimp only at hSw
    go_simp
  try simp only [Act.put]
  refine wpAnyH_ready (rs := [5, 6]) (by kernel_rfl) (by simp) ?_
  refine (AllReadyH.cons rfl (fun K hK => ?_) (AllReadyH.cons rfl (fun K hK => ?_) AllReadyH.nil))
  · go_simp
    refine (l02DrawIndex_any _ _ _ (by omega) (by omega) HS3.out.drew).mono ?_
    rintro e w4 ⟨r, rfl, r0, r1, hs4, hk4⟩
    have hk4 := hk4.undrew
    have hk4 := hk4
    have K4 := hk4.mono (Y := fun b => b = w.heap.size + 1 ∨ b = w.heap.size) (fun b _ h => Or.inl h)
    refine hK.out _ _ ?_ (fun hHeld => ?_)
    · exact KP.out _ K4
    clear hK K
    try simp only [Act.put]
    refine wpAnyH_ready (rs := [6, 8]) (by kernel_rfl) (by simp) ?_
    refine (AllReadyH.cons rfl (fun K hK => ?_) (AllReadyH.cons rfl (fun K hK => ?_) AllReadyH.nil))
    · go_simp
      refine hK.out _ _ ?_ (fun hHeld => ?_)
      · exact KP.out _ (K4.alloc _)
      clear hK K
      try simp only [Act.put]
      refine wpAnyH_ready (rs := [8]) (by kernel_rfl) (by simp) ?_
      refine (AllReadyH.cons rfl (fun K hK => ?_) AllReadyH.nil)
      go_simp
      refine (l01Next_any _ 7 _ (by omega) (by omega) (hs4.alloc _)).mono ?_
      rintro e w6 ⟨q, rfl, q0, q1, hs6, hk6⟩
      obtain ⟨z, hz', hzm⟩ := vals_at w4 [.string { data := #[120] }, .string { data := #[110, 48] }, .string { data := #[110, 49] }, .string { data := #[] }, .string { data := #[65] }, .string { data := #[101, 105, 103, 104, 116, 99, 104, 97] }, .string { data := #[110, 105, 110, 101, 99, 104, 97, 114, 115] }] 9 q q0 q1
      have zz := hk4.size
      have zb3 := b3.size
      have hz := hk6.cell hz' (by simp only; omega)
      have hk6 := (hk4.alloc _).trans hk6
      have K6 := hk6.mono (Y := fun b => b = w.heap.size + 1 ∨ b = w.heap.size) (fun b _ h => Or.inl h)
      have Q0 := hk6.cell q0' (by simp only; omega)
      have Q1 := hk6.cell q1' (by simp only; omega)
      have G0 := (hk6.frozen (p := ⟨w.heap.size, 0, none⟩) (by have := b3.size; simp only; omega) (by simp only; omega)).trans g0
      have G1 := (hk6.frozen (p := ⟨w.heap.size, 1, none⟩) (by have := b3.size; simp only; omega) (by simp only; omega)).trans g1
      obtain ⟨zb, rfl, hzb⟩ := strs7_mem hzm
      refine hK.out _ _ ?_ (fun hHeld => ?_)
      · exact KP.out _ K6
      clear hK K
      try simp only [Act.put]
      have hNE : w.heap.size ≠ w4.heap.size := by omega
      refine wpAnyH_strong (S' := fun W => (W.cell? ⟨w2.heap.size, 0, none⟩ = some (.slice a0 n.nodes.length k0) ∧ W.cell? ⟨w2.heap.size, 1, none⟩ = some (.slice a1 n.pipes.length k1)) ∧ W.cell? ⟨w4.heap.size, q.toNat, none⟩ = some (.string zb)) (fun W h => h.1) ?_
      have hHeld := And.intro hHeld hz
      refine wpAnyH_take (i := 9) (v := .pointer (some ⟨w4.heap.size, q.toNat, none⟩)) rfl (by kernel_rfl) (by kernel_rfl) (by kernel_rfl) (fun _ _ _ h => h) (Or.inl ⟨by rfl, ?_⟩) (by assumption) ?_
      · intro wq hSw
        try dsimp only at hSw
        go_simp
      try simp only [Act.put]
      refine wpAnyH_take (i := 10) (v := .string zb) rfl (by kernel_rfl) (by kernel_rfl) (by kernel_rfl) (fun _ _ _ h => h) (Or.inl ⟨by rfl, ?_⟩) (by assumption) ?_
      · intro wq hSw
        try dsimp only at hSw
        go_simp
      try simp only [Act.put]
      refine wpAnyH_ready (rs := [11]) (by kernel_rfl) (by simp) ?_
      refine (AllReadyH.cons rfl (fun K hK => ?_) AllReadyH.nil)
      go_simp
      refine hK.out _ _ ?_ (fun hHeld => ?_)
      · exact ⟨KP.out _ ((K6.setCell (p := ⟨w.heap.size, 0, none⟩) (Or.inr rfl) _).setCell (p := ⟨w.heap.size, 1, none⟩) (Or.inr rfl) _), (cell_off2 (Or.inl hNE)).trans ((cell_off2 (Or.inl hNE)).trans hz)⟩
      clear hK K
      try simp only [Act.put]
      refine wpAnyH_take (i := 12) (v := .int .i64 r) rfl (by kernel_rfl) (by kernel_rfl) (by kernel_rfl) (fun _ _ _ h => h) (Or.inl ⟨by rfl, ?_⟩) (by assumption) ?_
      · intro wq hSw
        try dsimp only at hSw
        go_simp
      try simp only [Act.put]
      refine wpAnyH_take (i := 13) (v := .string zb) rfl (by kernel_rfl) (by kernel_rfl) (by kernel_rfl) (fun _ _ _ h => h) (Or.inl ⟨by rfl, ?_⟩) (by assumption) ?_
      · intro wq hSw
        try dsimp only at hSw
        go_simp
      try simp only [Act.put]
      simp only [List.getElem_toArray, List.getElem_cons_succ, List.getElem_cons_zero, List.setIfInBounds_toArray, List.set_cons_zero, List.set_cons_succ]
      refine wpAnyH_done (by kernel_rfl) ?_ _
      obtain ⟨W, hW, ⟨e0, e1⟩, hdn⟩ := draw_end HW0.out HB1.out hz0 rfl hs1l HD.out b3 hk6 (HX3.out.kept hk6 (by omega))
      rw [hW]
      go_wp2_with fail
      exact bodyPost_ret (v := .tuple #[.agg #[.slice a0 n.nodes.length k0, .slice a1 n.pipes.length k1], .int .i64 r, .string zb]) (by simp [results, Try.results68, go_sem, e0, e1]) rfl ⟨_, _, _, _, _, rfl, hzb, hdn⟩
    · go_simp
      refine (l01Next_any _ 7 _ (by omega) (by omega) hs4).mono ?_
      rintro e w6 ⟨q, rfl, q0, q1, hs6, hk6⟩
      have hk6 := hk4.trans hk6
      have K6 := hk6.mono (Y := fun b => b = w.heap.size + 1 ∨ b = w.heap.size) (fun b _ h => Or.inl h)
      have zz := hk6.size
      have zb3 := b3.size
      refine hK.out _ _ ?_ (fun hHeld => ?_)
      · exact KP.out _ K6
      clear hK K
      try simp only [Act.put]
      refine wpAnyH_ready (rs := [6, 11]) (by kernel_rfl) (by simp) ?_
      refine (AllReadyH.cons rfl (fun K hK => ?_) (AllReadyH.cons rfl (fun K hK => ?_) AllReadyH.nil))
      · go_simp
        obtain ⟨z, hz', hzm⟩ := vals_at w6 [.string { data := #[120] }, .string { data := #[110, 48] }, .string { data := #[110, 49] }, .string { data := #[] }, .string { data := #[65] }, .string { data := #[101, 105, 103, 104, 116, 99, 104, 97] }, .string { data := #[110, 105, 110, 101, 99, 104, 97, 114, 115] }] 9 q q0 q1
        obtain ⟨zb, rfl, hzb⟩ := strs7_mem hzm
        obtain ⟨W4, hW4, b4⟩ : ∃ W4, w6.alloc (.cells #[.string { data := #[120] }, .string { data := #[110, 48] }, .string { data := #[110, 49] }, .string { data := #[] }, .string { data := #[65] }, .string { data := #[101, 105, 103, 104, 116, 99, 104, 97] }, .string { data := #[110, 105, 110, 101, 99, 104, 97, 114, 115] }] 9) = W4 ∧ Below w6.heap.size w6 W4 := ⟨_, rfl, below_new _ _⟩
        rw [hW4] at hz'
        try rw [hW4]
        have hk7 := hk6.trans (Kept.of_below b4)
        have K7 := K6.trans (Kept.of_below b4)
        have Q0 := hk7.cell q0' (by simp only; omega)
        have Q1 := hk7.cell q1' (by simp only; omega)
        have G0 := (hk7.frozen (p := ⟨w.heap.size, 0, none⟩) (by have := b3.size; simp only; omega) (by simp only; omega)).trans g0
        have G1 := (hk7.frozen (p := ⟨w.heap.size, 1, none⟩) (by have := b3.size; simp only; omega) (by simp only; omega)).trans g1
        refine hK.out _ _ ?_ (fun hHeld => ?_)
        · exact KP.out _ K7
        clear hK K
        try simp only [Act.put]
        have hz := hz'
        have hNE : w.heap.size ≠ w6.heap.size := by omega
        refine wpAnyH_strong (S' := fun W => (W.cell? ⟨w2.heap.size, 0, none⟩ = some (.slice a0 n.nodes.length k0) ∧ W.cell? ⟨w2.heap.size, 1, none⟩ = some (.slice a1 n.pipes.length k1)) ∧ W.cell? ⟨w6.heap.size, q.toNat, none⟩ = some (.string zb)) (fun W h => h.1) ?_
        have hHeld := And.intro hHeld hz
        refine wpAnyH_take (i := 9) (v := .pointer (some ⟨w6.heap.size, q.toNat, none⟩)) rfl (by kernel_rfl) (by kernel_rfl) (by kernel_rfl) (fun _ _ _ h => h) (Or.inl ⟨by rfl, ?_⟩) (by assumption) ?_
        · intro wq hSw
          try dsimp only at hSw
          go_simp
        try simp only [Act.put]
        refine wpAnyH_take (i := 10) (v := .string zb) rfl (by kernel_rfl) (by kernel_rfl) (by kernel_rfl) (fun _ _ _ h => h) (Or.inl ⟨by rfl, ?_⟩) (by assumption) ?_
        · intro wq hSw
          try dsimp only at hSw
          go_simp
        try simp only [Act.put]
        refine wpAnyH_ready (rs := [11]) (by kernel_rfl) (by simp) ?_
        refine (AllReadyH.cons rfl (fun K hK => ?_) AllReadyH.nil)
        go_simp
        refine hK.out _ _ ?_ (fun hHeld => ?_)
        · exact ⟨KP.out _ ((K7.setCell (p := ⟨w.heap.size, 0, none⟩) (Or.inr rfl) _).setCell (p := ⟨w.heap.size, 1, none⟩) (Or.inr rfl) _), (cell_off2 (Or.inl hNE)).trans ((cell_off2 (Or.inl hNE)).trans hz)⟩
        clear hK K
        try simp only [Act.put]
        refine wpAnyH_take (i := 12) (v := .int .i64 r) rfl (by kernel_rfl) (by kernel_rfl) (by kernel_rfl) (fun _ _ _ h => h) (Or.inl ⟨by rfl, ?_⟩) (by assumption) ?_
        · intro wq hSw
          try dsimp only at hSw
          go_simp
        try simp only [Act.put]
        refine wpAnyH_take (i := 13) (v := .string zb) rfl (by kernel_rfl) (by kernel_rfl) (by kernel_rfl) (fun _ _ _ h => h) (Or.inl ⟨by rfl, ?_⟩) (by assumption) ?_
        · intro wq hSw
          try dsimp only at hSw
          go_simp
        try simp only [Act.put]
        simp only [List.getElem_toArray, List.getElem_cons_succ, List.getElem_cons_zero, List.setIfInBounds_toArray, List.set_cons_zero, List.set_cons_succ]
        refine wpAnyH_done (by kernel_rfl) ?_ _
        obtain ⟨W, hW, ⟨e0, e1⟩, hdn⟩ := draw_end HW0.out HB1.out hz0 rfl hs1l HD.out b3 hk7 (HX3.out.kept hk7 (by omega))
        rw [hW]
        go_wp2_with fail
        exact bodyPost_ret (v := .tuple #[.agg #[.slice a0 n.nodes.length k0, .slice a1 n.pipes.length k1], .int .i64 r, .string zb]) (by simp [results, Try.results68, go_sem, e0, e1]) rfl ⟨_, _, _, _, _, rfl, hzb, hdn⟩
      · have Q0 := hk6.cell q0' (by simp only; omega)
        have Q1 := hk6.cell q1' (by simp only; omega)
        have G0 := (hk6.frozen (p := ⟨w.heap.size, 0, none⟩) (by have := b3.size; simp only; omega) (by simp only; omega)).trans g0
        have G1 := (hk6.frozen (p := ⟨w.heap.size, 1, none⟩) (by have := b3.size; simp only; omega) (by simp only; omega)).trans g1
        go_simp
        obtain ⟨W, hW, ⟨e0, e1⟩, hdn⟩ := draw_end HW0.out HB1.out hz0 rfl hs1l HD.out b3 hk6 (HX3.out.kept hk6 (by omega))
        rw [hW]
        have KW := (K6.setCell (p := ⟨w.heap.size, 0, none⟩) (Or.inr rfl) (.slice a0 n.nodes.length k0)).setCell (p := ⟨w.heap.size, 1, none⟩) (Or.inr rfl) (.slice a1 n.pipes.length k1)
        rw [hW] at KW
        have zw := KW.size
        refine hK.out _ _ ?_ (fun hHeld => ?_)
        · exact KP.out _ KW
        clear hK K
        try simp only [Act.put]
        refine wpAnyH_take (i := 12) (v := .int .i64 r) rfl (by kernel_rfl) (by kernel_rfl) (by kernel_rfl) (fun _ _ _ h => h) (Or.inl ⟨by rfl, ?_⟩) (by assumption) ?_
        · intro wq hSw
          try dsimp only at hSw
          go_simp
        try simp only [Act.put]
        refine wpAnyH_ready (rs := [6]) (by kernel_rfl) (by simp) ?_
        refine (AllReadyH.cons rfl (fun K hK => ?_) AllReadyH.nil)
        go_simp
        obtain ⟨z, hz', hzm⟩ := vals_at W [.string { data := #[120] }, .string { data := #[110, 48] }, .string { data := #[110, 49] }, .string { data := #[] }, .string { data := #[65] }, .string { data := #[101, 105, 103, 104, 116, 99, 104, 97] }, .string { data := #[110, 105, 110, 101, 99, 104, 97, 114, 115] }] 9 q q0 q1
        obtain ⟨zb, rfl, hzb⟩ := strs7_mem hzm
        have e0 := (below_new W (.cells #[.string { data := #[120] }, .string { data := #[110, 48] }, .string { data := #[110, 49] }, .string { data := #[] }, .string { data := #[65] }, .string { data := #[101, 105, 103, 104, 116, 99, 104, 97] }, .string { data := #[110, 105, 110, 101, 99, 104, 97, 114, 115] }] 9)).cell (p := ⟨w.heap.size, 0, none⟩) (by simp only; omega) |>.trans e0
        have e1 := (below_new W (.cells #[.string { data := #[120] }, .string { data := #[110, 48] }, .string { data := #[110, 49] }, .string { data := #[] }, .string { data := #[65] }, .string { data := #[101, 105, 103, 104, 116, 99, 104, 97] }, .string { data := #[110, 105, 110, 101, 99, 104, 97, 114, 115] }] 9)).cell (p := ⟨w.heap.size, 1, none⟩) (by simp only; omega) |>.trans e1
        have hdn := hdn.alloc (.cells #[.string { data := #[120] }, .string { data := #[110, 48] }, .string { data := #[110, 49] }, .string { data := #[] }, .string { data := #[65] }, .string { data := #[101, 105, 103, 104, 116, 99, 104, 97] }, .string { data := #[110, 105, 110, 101, 99, 104, 97, 114, 115] }] 9)
        refine hK.out _ _ ?_ (fun hHeld => ?_)
        · exact KP.out _ (KW.alloc _)
        clear hK K
        try simp only [Act.put]
        refine wpAnyH_strong (S' := fun W' => (W'.cell? ⟨w2.heap.size, 0, none⟩ = some (.slice a0 n.nodes.length k0) ∧ W'.cell? ⟨w2.heap.size, 1, none⟩ = some (.slice a1 n.pipes.length k1)) ∧ W'.cell? ⟨W.heap.size, q.toNat, none⟩ = some (.string zb)) (fun W h => h.1) ?_
        have hHeld := And.intro hHeld hz'
        refine wpAnyH_take (i := 9) (v := .pointer (some ⟨W.heap.size, q.toNat, none⟩)) rfl (by kernel_rfl) (by kernel_rfl) (by kernel_rfl) (fun _ _ _ h => h) (Or.inl ⟨by rfl, ?_⟩) (by assumption) ?_
        · intro wq hSw
          try dsimp only at hSw
          go_simp
        try simp only [Act.put]
        refine wpAnyH_take (i := 10) (v := .string zb) rfl (by kernel_rfl) (by kernel_rfl) (by kernel_rfl) (fun _ _ _ h => h) (Or.inl ⟨by rfl, ?_⟩) (by assumption) ?_
        · intro wq hSw
          try dsimp only at hSw
          go_simp
        try simp only [Act.put]
        refine wpAnyH_take (i := 13) (v := .string zb) rfl (by kernel_rfl) (by kernel_rfl) (by kernel_rfl) (fun _ _ _ h => h) (Or.inl ⟨by rfl, ?_⟩) (by assumption) ?_
        · intro wq hSw
          try dsimp only at hSw
          go_simp
        try simp only [Act.put]
        simp only [List.getElem_toArray, List.getElem_cons_succ, List.getElem_cons_zero, List.setIfInBounds_toArray, List.set_cons_zero, List.set_cons_succ]
        refine wpAnyH_done (by kernel_rfl) ?_ _
        go_wp2_with fail
        exact bodyPost_ret (v := .tuple #[.agg #[.slice a0 n.nodes.length k0, .slice a1 n.pipes.length k1], .int .i64 r, .string zb]) (by simp [results, Try.results68, go_sem, e0, e1]) rfl ⟨_, _, _, _, _, rfl, hzb, hdn⟩
  · go_simp
    refine hK.out _ _ ?_ (fun hHeld => ?_)
    · exact KP.out _ ((Kept.refl _ _).alloc _).drew
    clear hK K
    try simp only [Act.put]
    refine wpAnyH_ready (rs := [5]) (by kernel_rfl) (by simp) ?_
    refine (AllReadyH.cons rfl (fun K hK => ?_) AllReadyH.nil)
    go_simp
    refine (l02DrawIndex_any _ _ _ (by omega) (by omega) (HS3.out.alloc _).drew).mono ?_
    rintro e w4 ⟨r, rfl, r0, r1, hs4, hk4⟩
    have hk4 := hk4.undrew
    have hk5 := ((Kept.refl (· = w.heap.size + 1) W3).alloc _).trans hk4
    have K4 := hk5.mono (Y := fun b => b = w.heap.size + 1 ∨ b = w.heap.size) (fun b _ h => Or.inl h)
    refine hK.out _ _ ?_ (fun hHeld => ?_)
    · exact KP.out _ K4
    clear hK K
    try simp only [Act.put]
    refine wpAnyH_ready (rs := [8]) (by kernel_rfl) (by simp) ?_
    refine (AllReadyH.cons rfl (fun K hK => ?_) AllReadyH.nil)
    go_simp
    refine (l01Next_any _ 7 _ (by omega) (by omega) hs4).mono ?_
    rintro e w6 ⟨q, rfl, q0, q1, hs6, hk6⟩
    obtain ⟨z, hz', hzm⟩ := vals_at W3 [.string { data := #[120] }, .string { data := #[110, 48] }, .string { data := #[110, 49] }, .string { data := #[] }, .string { data := #[65] }, .string { data := #[101, 105, 103, 104, 116, 99, 104, 97] }, .string { data := #[110, 105, 110, 101, 99, 104, 97, 114, 115] }] 9 q q0 q1
    have zb3 := b3.size
    have hz := (hk4.trans hk6).cell hz' (by simp only; omega)
    have hk6 := hk5.trans hk6
    have K6 := hk6.mono (Y := fun b => b = w.heap.size + 1 ∨ b = w.heap.size) (fun b _ h => Or.inl h)
    have Q0 := hk6.cell q0' (by simp only; omega)
    have Q1 := hk6.cell q1' (by simp only; omega)
    have G0 := (hk6.frozen (p := ⟨w.heap.size, 0, none⟩) (by have := b3.size; simp only; omega) (by simp only; omega)).trans g0
    have G1 := (hk6.frozen (p := ⟨w.heap.size, 1, none⟩) (by have := b3.size; simp only; omega) (by simp only; omega)).trans g1
    obtain ⟨zb, rfl, hzb⟩ := strs7_mem hzm
    refine hK.out _ _ ?_ (fun hHeld => ?_)
    · exact KP.out _ K6
    clear hK K
    try simp only [Act.put]
    have hNE : w.heap.size ≠ W3.heap.size := by omega
    refine wpAnyH_strong (S' := fun W => (W.cell? ⟨w2.heap.size, 0, none⟩ = some (.slice a0 n.nodes.length k0) ∧ W.cell? ⟨w2.heap.size, 1, none⟩ = some (.slice a1 n.pipes.length k1)) ∧ W.cell? ⟨W3.heap.size, q.toNat, none⟩ = some (.string zb)) (fun W h => h.1) ?_
    have hHeld := And.intro hHeld hz
    refine wpAnyH_take (i := 9) (v := .pointer (some ⟨W3.heap.size, q.toNat, none⟩)) rfl (by kernel_rfl) (by kernel_rfl) (by kernel_rfl) (fun _ _ _ h => h) (Or.inl ⟨by rfl, ?_⟩) (by assumption) ?_
    · intro wq hSw
      try dsimp only at hSw
      go_simp
    try simp only [Act.put]
    refine wpAnyH_take (i := 10) (v := .string zb) rfl (by kernel_rfl) (by kernel_rfl) (by kernel_rfl) (fun _ _ _ h => h) (Or.inl ⟨by rfl, ?_⟩) (by assumption) ?_
    · intro wq hSw
      try dsimp only at hSw
      go_simp
    try simp only [Act.put]
    refine wpAnyH_ready (rs := [11]) (by kernel_rfl) (by simp) ?_
    refine (AllReadyH.cons rfl (fun K hK => ?_) AllReadyH.nil)
    go_simp
    refine hK.out _ _ ?_ (fun hHeld => ?_)
    · exact ⟨KP.out _ ((K6.setCell (p := ⟨w.heap.size, 0, none⟩) (Or.inr rfl) _).setCell (p := ⟨w.heap.size, 1, none⟩) (Or.inr rfl) _), (cell_off2 (Or.inl hNE)).trans ((cell_off2 (Or.inl hNE)).trans hz)⟩
    clear hK K
    try simp only [Act.put]
    refine wpAnyH_take (i := 12) (v := .int .i64 r) rfl (by kernel_rfl) (by kernel_rfl) (by kernel_rfl) (fun _ _ _ h => h) (Or.inl ⟨by rfl, ?_⟩) (by assumption) ?_
    · intro wq hSw
      try dsimp only at hSw
      go_simp
    try simp only [Act.put]
    refine wpAnyH_take (i := 13) (v := .string zb) rfl (by kernel_rfl) (by kernel_rfl) (by kernel_rfl) (fun _ _ _ h => h) (Or.inl ⟨by rfl, ?_⟩) (by assumption) ?_
    · intro wq hSw
      try dsimp only at hSw
      go_simp
    try simp only [Act.put]
    simp only [List.getElem_toArray, List.getElem_cons_succ, List.getElem_cons_zero, List.setIfInBounds_toArray, List.set_cons_zero, List.set_cons_succ]
    refine wpAnyH_done (by kernel_rfl) ?_ _
    obtain ⟨W, hW, ⟨e0, e1⟩, hdn⟩ := draw_end HW0.out HB1.out hz0 rfl hs1l HD.out b3 hk6 (HX3.out.kept hk6 (by omega))
    rw [hW]
    go_wp2_with fail
    exact bodyPost_ret (v := .tuple #[.agg #[.slice a0 n.nodes.length k0, .slice a1 n.pipes.length k1], .int .i64 r, .string zb]) (by simp [results, Try.results68, go_sem, e0, e1]) rfl ⟨_, _, _, _, _, rfl, hzb, hdn⟩

end Go.Proofs.Ytdapdaadglaoiaa
