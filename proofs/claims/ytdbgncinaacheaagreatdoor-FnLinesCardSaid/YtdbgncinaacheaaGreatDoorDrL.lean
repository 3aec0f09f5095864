/- What draws nodes and pipes for their lines. -/
import Derived.Test.YtdbgncinaacheaaGreatDoorDrI
import Derived.Test.YtdbgncinaacheaaGreatDoorDmg
import Derived.Test.YtdbgncinaacheaaGreatDoorRnl
import Derived.Test.YtdbgncinaacheaaGreatDoorFwP
namespace Go.Proofs.YtdbgncinaacheaaGreatDoor
open Go.RowKit
open Go.Lib hiding intOf

set_option maxRecDepth 100000 in
theorem DrawPipeLine_any (a : Option Addr) (len cap : Nat) (w : World) (h : Bytes w a len w.heap.size) :
    Calls Tryz.prog 10 #[.slice a len cap] w fun e w' => ∃ nv pv n, ∃ r : Int, e = .returned (.tuple #[.agg #[nv, pv], .int .i64 r]) ∧ Dn w w' nv pv n := by
  have hW0 := (Kept.refl (fun _ => False) w).alloc (.cells #[.slice none 0 0, .slice none 0 0] 34)
  have hbx := Blk.new w #[.slice none 0 0, .slice none 0 0] 34
  have h := h.kept hW0 (fun k e => e.elim)
  obtain ⟨W0, hWe⟩ : ∃ W0, w.alloc (.cells #[.slice none 0 0, .slice none 0 0] 34) = W0 := ⟨_, rfl⟩
  have hz : W0.heap.size = w.heap.size + 1 := by rw [← hWe]; simp
  rw [hWe] at hW0 hbx h
  have h : Bytes W0 a len W0.heap.size := by
    obtain ⟨h1, h2⟩ := h
    exact ⟨h1, h2.imp id (fun ⟨b, off, e1, e2, e3⟩ => ⟨b, off, e1, by omega, e3⟩)⟩
  have HW0 := hid hW0
  have HZ := hid hz
  go_enter Tryz.func10, Tryz.ntmps10
  clear hz
  go_wp2_with fail
  clear hWe
  refine (DrawTurnPipe_any a len cap W0 h).mono ?_
  rintro e w2 ⟨nv, pv, n, r, rfl, hd⟩
  obtain ⟨a0, k0, rfl⟩ := hd.at.1.shape
  obtain ⟨a1, k1, rfl⟩ := hd.at.2.2.shape
  have HX2 := hid (hbx.below hd.bel)
  have HX := hid hbx
  have HD := hid hd
  have q0 := HX2.out.cell 0 (by simp)
  have q1 := HX2.out.cell 1 (by simp)
  have g0 := HX2.out.frozen 0
  have g1 := HX2.out.frozen 1
  clear hW0 hbx h hd
  go_wp2_with fail
  obtain ⟨W, hW, ⟨e0, e1⟩, hdn⟩ := wrap_end HW0.out HZ.out HX.out HD.out
  rw [hW]
  exact bodyPost_ret (v := (.tuple #[.agg #[.slice a0 n.nodes.length k0, .slice a1 n.pipes.length k1], .int .i64 r])) (by simp [results, Tryz.results10, go_sem, e0, e1]) rfl ⟨_, _, n, r, rfl, hdn⟩

theorem bytes_up {w : World} {a : Option Addr} {len B B' : Nat} (h : Bytes w a len B) (hB : B ≤ B') : Bytes w a len B' := by
  obtain ⟨hm, h⟩ := h
  refine ⟨hm, h.imp id ?_⟩
  rintro ⟨b, off, ha, hb, h⟩
  exact ⟨b, off, ha, by omega, h⟩
theorem bytes_at {w w' : World} {a : Option Addr} {len : Nat} (h : Bytes w a len w.heap.size) (hB : Below w.heap.size w w') : Bytes w' a len w'.heap.size :=
  bytes_up (h.kept (Kept.of_below (X := fun _ => False) hB) (fun _ e => e.elim)) hB.size
/-- What a draw of a node returns. -/
def OutNd (w : World) (e : Ending) (w' : World) : Prop := ∃ x : Nd, e = .returned (.agg #[.string x.name, .int .i64 x.low, .int .i64 x.high]) ∧ x.name.size ≤ 9223372036854775807 ∧ Below w.heap.size w w'

set_option maxHeartbeats 2000000 in
set_option maxRecDepth 100000 in
theorem DrawIsNode_any (a : Option Addr) (len cap : Nat) (w : World) (h : Bytes w a len w.heap.size) :
    Calls Tryz.prog 15 #[.slice a len cap] w (OutNd w) := by
  have hlen : len ≤ 140737488351232 := h.1
  obtain ⟨W0, hW0⟩ : ∃ W0, W0 = w.alloc (.cells #[.string ⟨#[]⟩, .int .i64 0, .int .i64 0] 25) := ⟨_, rfl⟩
  have hB0 : Below w.heap.size w W0 := by rw [hW0]; exact below_new w _
  have hX0 : Blk3 W0 w.heap.size (.string ⟨#[]⟩) (.int .i64 0) (.int .i64 0) 25 := by rw [hW0]; exact Blk3.new w _ _ _ _
  have hz : w.heap.size < W0.heap.size := by rw [hW0]; simp
  have h0 := bytes_at h hB0
  go_enter Tryz.func15, Tryz.ntmps15
  go_wp2_with fail
  rw [← hW0]
  clear hW0
  refine (l01From_any a len cap W0 h0).mono ?_
  rintro e w1 ⟨rfl, hs1, hb1⟩
  have z1 := hs1.lt
  go_wp2_with fail
  refine (l02DrawAny_any _ _ hs1).mono ?_
  rintro e w2 ⟨nv, pv, n, rfl, hd⟩
  obtain ⟨a0, k0, rfl⟩ := hd.ap.at.1.shape
  obtain ⟨a1, k1, rfl⟩ := hd.ap.at.2.2.shape
  have hb2 := hb1.trans (hd.kp.below (B := W0.heap.size) hb1.size (fun k e => by omega))
  have HX2 := hid (hX0.below hb2)
  have HB2 := hid (hB0.trans (hb2.mono hB0.size))
  have NA := hid hd.ap.at
  have hl7 := hd.l1
  have z2 : w.heap.size < w2.heap.size := Nat.lt_of_lt_of_le hz hb2.size
  have bN := below_new w2 (.cells #[.slice a0 n.nodes.length k0, .slice a1 n.pipes.length k1] 34)
  have HX3 := hid (HX2.out.below bN)
  have HB3 := hid (HB2.out.trans (bN.mono HB2.out.size))
  have NA3 := hid (NA.out.below bN)
  clear hb1 hb2 hd hX0 hB0 hs1 bN h h0 hz z1
  obtain ⟨x0, x1, x2, f0, f1, f2⟩ := HX2.out
  by_cases hn : n.nodes.length = 0
  · have d0 : ((n.nodes.length : Int) == 0) = true := by rw [hn]; rfl
    clear hn
    go_wp2_with fail
    obtain ⟨W, hW, ⟨e0, e1, e2⟩, hb⟩ := node_end HX2.out HB2.out ⟨#[]⟩ 0 0
    first
      | (rw [hW]
         replace e0 := cell_al (o := .cells #[.slice a0 n.nodes.length k0, .slice a1 n.pipes.length k1] 34) e0
         replace e1 := cell_al (o := .cells #[.slice a0 n.nodes.length k0, .slice a1 n.pipes.length k1] 34) e1
         replace e2 := cell_al (o := .cells #[.slice a0 n.nodes.length k0, .slice a1 n.pipes.length k1] 34) e2
         exact bodyPost_ret (v := .agg #[.string ⟨#[]⟩, .int .i64 0, .int .i64 0]) (by simp [results, Tryz.results15, go_sem, e0, e1, e2]) rfl ⟨⟨⟨#[]⟩, 0, 0⟩, rfl, by decide, hb.alloc hb.size _⟩)
  · have d0 : ((n.nodes.length : Int) == 0) = false := beq_false_of_ne (by omega)
    obtain ⟨r, hr⟩ : ∃ r, len % n.nodes.length = r := ⟨_, rfl⟩
    have hrl : r < n.nodes.length := by rw [← hr]; exact Nat.mod_lt _ (by omega)
    have hq : (len : Int).tmod (n.nodes.length : Int) = (r : Int) := by rw [← hr]; rfl
    obtain ⟨b, off, rfl, hb, hc⟩ := NA3.out.1.at' (by omega)
    obtain ⟨d1, d2, d3⟩ := cellsN (hc r hrl)
    have hxs := NA.out.2.1 n.nodes[r] (List.getElem_mem hrl)
    have hb2 : b < w2.heap.size ∨ b = w2.heap.size := by simp at hb; omega
    clear hc hr
    have hrI : (r : Int) < (n.nodes.length : Int) := by omega
    go_wp2_with fail
    go_region
    obtain ⟨W, hW, ⟨e0, e1, e2⟩, hbf⟩ := node_end HX2.out HB2.out n.nodes[r].name n.nodes[r].low n.nodes[r].high
    rw [hW]
    replace e0 := cell_al (o := .cells #[.slice (some ⟨b, off, none⟩) n.nodes.length k0, .slice a1 n.pipes.length k1] 34) e0
    replace e1 := cell_al (o := .cells #[.slice (some ⟨b, off, none⟩) n.nodes.length k0, .slice a1 n.pipes.length k1] 34) e1
    replace e2 := cell_al (o := .cells #[.slice (some ⟨b, off, none⟩) n.nodes.length k0, .slice a1 n.pipes.length k1] 34) e2
    have hbf := (hbf.alloc hbf.size (.cells #[.slice (some ⟨b, off, none⟩) n.nodes.length k0, .slice a1 n.pipes.length k1] 34)).drew
    go_wp2_with fail
    exact bodyPost_ret (v := .agg #[.string n.nodes[r].name, .int .i64 n.nodes[r].low, .int .i64 n.nodes[r].high]) (by simp [results, Tryz.results15, go_sem, e0, e1, e2]) rfl ⟨n.nodes[r], rfl, hxs, hbf⟩

/-- .. wrapped. -/
theorem DrawNodeLine_any (a : Option Addr) (len cap : Nat) (w : World) (h : Bytes w a len w.heap.size) :
    Calls Tryz.prog 5 #[.slice a len cap] w (OutNd w) := by
  obtain ⟨W0, hW0⟩ : ∃ W0, W0 = w.alloc (.cells #[.string ⟨#[]⟩, .int .i64 0, .int .i64 0] 25) := ⟨_, rfl⟩
  have hB0 : Below w.heap.size w W0 := by rw [hW0]; exact below_new w _
  have hX0 : Blk3 W0 w.heap.size (.string ⟨#[]⟩) (.int .i64 0) (.int .i64 0) 25 := by rw [hW0]; exact Blk3.new w _ _ _ _
  have h0 := bytes_at h hB0
  go_enter Tryz.func5, Tryz.ntmps5
  go_wp2_with fail
  rw [← hW0]
  clear hW0
  refine (DrawIsNode_any a len cap W0 h0).mono ?_
  rintro e w1 ⟨x, rfl, hx, b1⟩
  have HX1 := hid (hX0.below b1)
  have HB1 := hid (hB0.trans (b1.mono hB0.size))
  have HS := hid hx
  clear b1 hX0 hB0 h h0 hx
  obtain ⟨x0, x1, x2, f0, f1, f2⟩ := HX1.out
  go_wp2_with fail
  obtain ⟨W, hW, ⟨e0, e1, e2⟩, hb⟩ := node_end HX1.out HB1.out x.name x.low x.high
  rw [hW]
  exact bodyPost_ret (v := .agg #[.string x.name, .int .i64 x.low, .int .i64 x.high]) (by simp [results, Tryz.results5, go_sem, e0, e1, e2]) rfl ⟨x, rfl, HS.out, hb⟩
theorem ndS_sz (x : Nd) : (ndS x).size ≤ 33 := by
  unfold ndS
  by_cases h : nodeB x = true
  · rw [if_pos h, tb_size]; exact ndL_le h
  · rw [if_neg h]; decide

set_option maxHeartbeats 1000000 in
theorem DrawReadNodeLine_any (a : Option Addr) (len cap : Nat) (w : World) (h : Bytes w a len w.heap.size) :
    Calls Tryz.prog 13 #[.slice a len cap] w fun e w' => ∃ u : ByteArray, e = .returned (.string u) ∧ u.size ≤ 100 ∧ Below w.heap.size w w' := by
  go_enter Tryz.func13, Tryz.ntmps13
  go_wp2_with fail
  refine (DrawIsNode_any a len cap w h).mono ?_
  rintro e w1 ⟨x, rfl, hx, b1⟩
  have B1 := hid b1
  clear b1
  go_wp2_with fail
  refine (spec_NodeLine_any x _ hx).mono ?_
  rintro e w2 ⟨rfl, b2⟩
  have B2 := hid (B1.out.trans (b2.mono B1.out.size))
  have hz := ndS_sz x
  obtain ⟨t, ht⟩ : ∃ t, ndS x = t := ⟨_, rfl⟩
  rw [ht] at hz ⊢
  clear b2 ht hx
  go_wp2_with fail
  refine (l01From_any a len cap _ (bytes_at h B2.out)).mono ?_
  rintro e w3 ⟨rfl, hs3, b3⟩
  have B3 := hid (B2.out.trans (b3.mono B2.out.size))
  have hss : w.heap.size ≤ w2.heap.size := B2.out.size
  clear b3
  go_wp2_with fail
  refine (l01Next_any w2.heap.size 3 _ (by omega) (by omega) hs3).mono ?_
  rintro e w4 ⟨q, rfl, q0, q1, hs4, hk4⟩
  have B4 := hid (B3.out.trans (hk4.below (B := w.heap.size) B3.out.size (fun k e => by omega)))
  clear hk4
  by_cases c0 : q = 0
  · subst c0
    go_wp2_with fail
    refine (l01Damage_any w2.heap.size t _ (by omega) hs4).mono ?_
    rintro e w5 ⟨u, rfl, hu, hs5, hk5⟩
    have B5 := hid (B4.out.trans (hk5.below (B := w.heap.size) B4.out.size (fun k e => by omega)))
    clear hk5
    go_wp2_with fail
    go_ret
    exact ⟨_, rfl, by omega, B5.out⟩
  · have d0 : (q == 0) = false := beq_false_of_ne c0
    go_wp2_with fail
    go_ret
    exact ⟨_, rfl, by omega, B4.out⟩

end Go.Proofs.YtdbgncinaacheaaGreatDoor
