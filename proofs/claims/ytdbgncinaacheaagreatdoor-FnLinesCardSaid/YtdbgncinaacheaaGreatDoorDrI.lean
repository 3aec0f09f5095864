/- The draws of a network and an index. -/
import Derived.Test.YtdbgncinaacheaaGreatDoorDrA
import Derived.Deep.RegionHeld3
namespace Go.Proofs.YtdbgncinaacheaaGreatDoor
open Go.RowKit

set_option maxRecDepth 100000 in
theorem l02DrawIndex_any (s : Nat) (n : Int) (w : World) (hn0 : 0 ≤ n) (hn : n ≤ 1000) (h : Src 70 w s) :
    Calls Tryz.prog 39 #[.pointer (some ⟨s, 0, none⟩), .int .i64 n] w fun e w' =>
      ∃ r : Int, e = .returned (.int .i64 r) ∧ -1 ≤ r ∧ r ≤ 2000 ∧ Src 70 w' s ∧ Kept (· = s) w w' := by
  go_enter Tryz.func39, Tryz.ntmps39
  go_wp2_with fail
  refine (l01Next_gen s n _ (by omega) h).mono ?_
  rintro e w1 ⟨x, rfl, x0, x1, hs1, hk1⟩
  have HK1 := hid hk1
  clear hk1
  go_wp2_with fail
  refine (l01Next_any s 16 _ (by omega) (by omega) hs1).mono ?_
  rintro e w2 ⟨q, rfl, q0, q1, hs2, hk2⟩
  have HK2 := hid (HK1.out.trans hk2)
  clear HK1 hk2
  have hx : x ≤ 1000 := by omega
  obtain ⟨d, hd, hd1⟩ : ∃ d : Int, q.tdiv 15 = d ∧ (d = 0 ∨ d = 1) := ⟨_, rfl, by
    rw [Int.tdiv_eq_ediv_of_nonneg q0]; omega⟩
  rcases hd1 with rfl | rfl
  all_goals
    go_wp2_with fail
    refine (l01Next_any s 24 _ (by omega) (by omega) hs2).mono ?_
    rintro e w3 ⟨y, rfl, y0, y1, hs3, hk3⟩
    have HK3 := hid (HK2.out.trans hk3)
    clear hk3
    obtain ⟨f, hf, hf1⟩ : ∃ f : Int, y.tdiv 23 = f ∧ 0 ≤ f ∧ f ≤ 1 := ⟨_, rfl, by
      rw [Int.tdiv_eq_ediv_of_nonneg y0]; omega⟩
    go_wp2_with fail
    go_ret
    exact ⟨_, rfl, by omega, by omega, hs3, HK3.out⟩

/-- A drawn network, as a law is handed it. -/
structure Dn (w W : World) (nv pv : Value) (n : Net) : Prop where
  ap : NetApart w.heap.size W.heap.size W nv pv n
  c1 : CapOk nv
  c2 : CapOk pv
  l1 : n.nodes.length ≤ 20
  l2 : n.pipes.length ≤ 20
  bel : Below w.heap.size w W
theorem Dn.at {w W : World} {nv pv : Value} {n : Net} (h : Dn w W nv pv n) : NetAt W nv pv n := h.ap.at
/-- The end of each draw: the network is stored into the result's block. -/
theorem draw_end {w w0 w1 w2 W3 w4 : World} {s : Nat} {nv pv x y : Value} {n : Net} {T : TypeId} (h0 : Kept (fun _ => False) w w0) (h1 : Below w0.heap.size w0 w1) (hz : w0.heap.size = w.heap.size + 1) (hs : s = w.heap.size + 1) (hs1 : s < w1.heap.size) (hd : Dnet w1 w2 s nv pv n)
    (b3 : Below w2.heap.size w2 W3) (hk4 : Kept (fun b => b = s) W3 w4) (hb : Blk w4 w.heap.size #[x, y] T) :
    ∃ W, ((w4.setCell ⟨w.heap.size, 0, none⟩ nv).setCell ⟨w.heap.size, 1, none⟩ pv) = W ∧ (W.cell? ⟨w.heap.size, 0, none⟩ = some nv ∧ W.cell? ⟨w.heap.size, 1, none⟩ = some pv) ∧ Dn w W nv pv n := by
  have hb5 := (hb.set 0 nv).set 1 pv
  have e0 := hb5.cell 0 (by simp)
  have e1 := hb5.cell 1 (by simp)
  simp at e0 e1
  have hk5 := ((Kept.refl (· = w.heap.size) w4).setCell (p := ⟨w.heap.size, 0, none⟩) rfl nv).setCell (p := ⟨w.heap.size, 1, none⟩) rfl pv
  have z3 := b3.size
  have z4 := hk4.size
  have z5 := hk5.size
  have hap := ((hd.ap.below b3).kept hk4 (fun b h1 h2 => by omega)).kept hk5 (fun b h1 h2 => by omega)
  have hb0 := h0.below (B := w.heap.size) (Nat.le_refl _) (fun k e => e.elim)
  have hb1 := hb0.trans (h1.mono (by omega))
  have hb2 := hb1.trans (hd.kp.below hb1.size (fun k e => by omega))
  have hb3 := hb2.trans (b3.mono hb2.size)
  have hb4 := hb3.trans (hk4.below hb3.size (fun k e => by omega))
  exact ⟨_, rfl, ⟨e0, e1⟩, hap.widen (by omega) (by omega), hd.c1, hd.c2, by have := hd.l1; omega, by have := hd.l2; omega, hb4.trans (hk5.below hb4.size (fun k e => by omega))⟩

set_option maxHeartbeats 1000000 in
set_option maxRecDepth 100000 in
theorem DrawTurnPipe_any (a : Option Addr) (len cap : Nat) (w : World) (h : Bytes w a len w.heap.size) :
    Calls Tryz.prog 22 #[.slice a len cap] w fun e w' => ∃ nv pv n, ∃ r : Int, e = .returned (.tuple #[.agg #[nv, pv], .int .i64 r]) ∧ Dn w w' nv pv n := by
  have hW0 := (Kept.refl (fun _ => False) w).alloc (.cells #[.slice none 0 0, .slice none 0 0] 34)
  have hbx := Blk.new w #[.slice none 0 0, .slice none 0 0] 34
  have h := h.kept hW0 (fun k e => e.elim)
  obtain ⟨W0, hWe⟩ : ∃ W0, w.alloc (.cells #[.slice none 0 0, .slice none 0 0] 34) = W0 := ⟨_, rfl⟩
  have hz : W0.heap.size = w.heap.size + 1 := by rw [← hWe]; simp
  rw [hWe] at hW0 hbx h
  have h : Bytes W0 a len W0.heap.size := by
    obtain ⟨h1, h2⟩ := h
    exact ⟨h1, h2.imp id (fun ⟨b, off, e1, e2, e3⟩ => ⟨b, off, e1, by omega, e3⟩)⟩
  go_enter Tryz.func22, Tryz.ntmps22
  go_wp2_with fail
  clear hWe
  refine (l01From_any a len cap W0 h).mono ?_
  rintro e w1 ⟨rfl, hs1, hb1⟩
  rw [hz] at hs1
  have z1 := hb1.size
  go_wp2_with fail
  refine (l02DrawAny_any _ _ hs1).mono ?_
  rintro e w2 ⟨nv, pv, n, rfl, hd⟩
  have hbx1 := hbx.below hb1
  have HX2 := hid (hbx1.kept hd.kp (by omega))
  have HD := hid hd
  have HW0 := hid hW0
  have HB1 := hid hb1
  have hs1l := hs1.lt
  have hs2 := hd.src
  obtain ⟨a0, k0, rfl⟩ := hd.ap.at.1.shape
  obtain ⟨a1, k1, rfl⟩ := hd.ap.at.2.2.shape
  have hl1 := hd.l1
  have hl2 := hd.l2
  clear hW0 hbx hbx1 h hs1 hd
  have HX3 := hid (HX2.out.below (below_new w2 (.cells #[.slice a0 n.nodes.length k0, .slice a1 n.pipes.length k1] 34)))
  have HN3 := hid (Blk.new w2 #[.slice a0 n.nodes.length k0, .slice a1 n.pipes.length k1] 34)
  have hs3 := hs2.alloc (.cells #[.slice a0 n.nodes.length k0, .slice a1 n.pipes.length k1] 34)
  have zx := HX2.out.lt
  have hs2l := hs2.lt
  obtain ⟨W3, hW3⟩ : ∃ W3, w2.alloc (.cells #[.slice a0 n.nodes.length k0, .slice a1 n.pipes.length k1] 34) = W3 := ⟨_, rfl⟩
  have b3 : Below w2.heap.size w2 W3 := by rw [← hW3]; exact below_new _ _
  rw [hW3] at HX3 HN3 hs3
  have c0 := HN3.out.cell 0 (by simp)
  have c1 := HN3.out.cell 1 (by simp)
  go_wp2_with fail
  have KP : Hid (∀ W, Kept (fun b => b = w.heap.size + 1 ∨ b = w.heap.size) W3 W → W.cell? ⟨w2.heap.size, 0, none⟩ = some (.slice a0 n.nodes.length k0) ∧ W.cell? ⟨w2.heap.size, 1, none⟩ = some (.slice a1 n.pipes.length k1)) := fun W hW =>
    ⟨hW.cell c0 (by simp only; omega), hW.cell c1 (by simp only; omega)⟩
  have HS3 := hid hs3
  have q0 := HX3.out.cell 0 (by simp)
  have q1 := HX3.out.cell 1 (by simp)
  have g0 := HX3.out.frozen 0
  have g1 := HX3.out.frozen 1
  clear hs2 hs3 hW3
  go_region_held3 (fun W => W.cell? ⟨w2.heap.size, 0, none⟩ = some (.slice a0 n.nodes.length k0) ∧ W.cell? ⟨w2.heap.size, 1, none⟩ = some (.slice a1 n.pipes.length k1))
    (first | exact KP.out _ (Kept.refl _ _).drew | exact KP.out _ K4 | exact KP.out _ (K4.setCell (p := ⟨w.heap.size, 0, none⟩) (Or.inr rfl) _) | exact KP.out _ ((K4.setCell (p := ⟨w.heap.size, 0, none⟩) (Or.inr rfl) _).setCell (p := ⟨w.heap.size, 1, none⟩) (Or.inr rfl) _) | exact KP.out _ (((Kept.refl _ _).setCell (p := ⟨w.heap.size, 0, none⟩) (Or.inr rfl) _).setCell (p := ⟨w.heap.size, 1, none⟩) (Or.inr rfl) _).drew)
    (first
      | (go_at_call 39; refine (l02DrawIndex_any _ _ _ (by omega) (by omega) HS3.out.drew).mono ?_; rintro e w4 ⟨r, rfl, r0, r1, hs4, hk4⟩; have hk4 := hk4.undrew; have K4 := hk4.mono (Y := fun b => b = w.heap.size + 1 ∨ b = w.heap.size) (fun b _ h => Or.inl h); have Q0 := hk4.cell q0 (by simp only; omega); have Q1 := hk4.cell q1 (by simp only; omega); have G0 := (hk4.frozen (p := ⟨w.heap.size, 0, none⟩) (by have := b3.size; simp only; omega) (by simp only; omega)).trans g0; have G1 := (hk4.frozen (p := ⟨w.heap.size, 1, none⟩) (by have := b3.size; simp only; omega) (by simp only; omega)).trans g1))
  obtain ⟨W, hW, ⟨e0, e1⟩, hdn⟩ := draw_end HW0.out HB1.out hz rfl hs1l HD.out b3 hk4 (HX3.out.kept hk4 (by omega))
  rw [hW]
  clear KP HS3 K4 Q0 Q1 G0 G1 c0 c1 q0 q1 g0 g1
  go_wp2_with fail
  exact bodyPost_ret (v := .tuple #[.agg #[.slice a0 n.nodes.length k0, .slice a1 n.pipes.length k1], .int .i64 r]) (by simp [results, Tryz.results22, go_sem, e0, e1]) rfl ⟨_, _, _, _, rfl, hdn⟩

/-- A draw handed on. -/
theorem wrap_end {w W0 W1 : World} {nv pv x y : Value} {n : Net} {T : TypeId} (h0 : Kept (fun _ => False) w W0) (hz : W0.heap.size = w.heap.size + 1) (hx : Blk W0 w.heap.size #[x, y] T) (hd : Dn W0 W1 nv pv n) :
    ∃ W, ((W1.setCell ⟨w.heap.size, 0, none⟩ nv).setCell ⟨w.heap.size, 1, none⟩ pv) = W ∧ (W.cell? ⟨w.heap.size, 0, none⟩ = some nv ∧ W.cell? ⟨w.heap.size, 1, none⟩ = some pv) ∧ Dn w W nv pv n := by
  have hb := hx.below hd.bel
  have hb5 := (hb.set 0 nv).set 1 pv
  have e0 := hb5.cell 0 (by simp)
  have e1 := hb5.cell 1 (by simp)
  simp at e0 e1
  have hk5 := ((Kept.refl (· = w.heap.size) W1).setCell (p := ⟨w.heap.size, 0, none⟩) rfl nv).setCell (p := ⟨w.heap.size, 1, none⟩) rfl pv
  have z5 := hk5.size
  have hap := hd.ap.kept hk5 (fun b h1 h2 => by omega)
  have hb0 := (h0.below (B := w.heap.size) (Nat.le_refl _) (fun k e => e.elim)).trans (hd.bel.mono (by omega))
  exact ⟨_, rfl, ⟨e0, e1⟩, hap.widen (by omega) (by omega), hd.c1, hd.c2, hd.l1, hd.l2, hb0.trans (hk5.below hb0.size (fun k e => by omega))⟩

end Go.Proofs.YtdbgncinaacheaaGreatDoor
