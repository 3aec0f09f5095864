/- What draws networks for their texts, and texts for their wrong lines. -/
import Derived.Test.YtdbgncinaacheaaDoorDrI
import Derived.Test.YtdbgncinaacheaaDoorDmg
import Derived.Test.YtdbgncinaacheaaDoorNtx
namespace Go.Proofs.YtdbgncinaacheaaDoor
open Go.RowKit
open Go.Lib hiding intOf

set_option maxHeartbeats 1000000 in
set_option maxRecDepth 100000 in
theorem DrawNetworkText_any (a : Option Addr) (len cap : Nat) (w : World) (h : Bytes w a len w.heap.size) :
    Calls Tryd.prog 42 #[.slice a len cap] w fun e w' => ∃ nv pv n, e = .returned (.agg #[nv, pv]) ∧ Dn w w' nv pv n := by
  have hW0 := (Kept.refl (fun _ => False) w).alloc (.cells #[.slice none 0 0, .slice none 0 0] 25)
  have hbx := Blk.new w #[.slice none 0 0, .slice none 0 0] 25
  have h := h.kept hW0 (fun k e => e.elim)
  obtain ⟨W0, hWe⟩ : ∃ W0, w.alloc (.cells #[.slice none 0 0, .slice none 0 0] 25) = W0 := ⟨_, rfl⟩
  have hz : W0.heap.size = w.heap.size + 1 := by rw [← hWe]; simp
  rw [hWe] at hW0 hbx h
  have h : Bytes W0 a len W0.heap.size := by
    obtain ⟨h1, h2⟩ := h
    exact ⟨h1, h2.imp id (fun ⟨b, off, e1, e2, e3⟩ => ⟨b, off, e1, by omega, e3⟩)⟩
  go_enter Tryd.func42, Tryd.ntmps42
  go_wp2_with fail
  clear hWe
  refine (l01From_any a len cap W0 h).mono ?_
  rintro e w1 ⟨rfl, hs1, hb1⟩
  rw [hz] at hs1
  have z1 := hb1.size
  go_wp2_with fail
  refine (l02DrawAny_any _ _ hs1).mono ?_
  rintro e w2 ⟨nv, pv, n, rfl, hd⟩
  have hbx1 := hbx.below hb1
  have HX2 := hid (hbx1.kept hd.kp (by omega))
  have HD := hid hd
  have HW0 := hid hW0
  have HB1 := hid hb1
  have hs1l := hs1.lt
  obtain ⟨a0, k0, rfl⟩ := hd.ap.at.1.shape
  obtain ⟨a1, k1, rfl⟩ := hd.ap.at.2.2.shape
  have q0 := HX2.out.cell 0 (by simp)
  have q1 := HX2.out.cell 1 (by simp)
  have g0 := HX2.out.frozen 0
  have g1 := HX2.out.frozen 1
  clear hW0 hbx hbx1 h hs1 hd
  go_wp2_with fail
  obtain ⟨W, hW, ⟨e0, e1⟩, hdn⟩ := draw_end HW0.out HB1.out hz rfl hs1l HD.out (Below.refl _ _) (Kept.refl _ _) HX2.out
  rw [hW]
  exact bodyPost_ret (v := .agg #[.slice a0 n.nodes.length k0, .slice a1 n.pipes.length k1]) (by simp [results, Tryd.results42, go_sem, e0, e1]) rfl ⟨_, _, _, rfl, hdn⟩

theorem info8 : (Tryd.prog.info? 5).map (fun i => (i.zero, i.size, i.bytes)) = some (some (.int .u8 0), 1, 1) := by kernel_rfl
theorem zeros_conv (W : World) (M : Nat) : (convert 40 9 (.slice (some ⟨W.heap.size, 0, none⟩) M M)).run Tryd.prog (W.alloc (.cells (madeCells #[.int .u8 0] M) 5)) = .ok (.string (strOfNums (List.replicate M 0))) (W.alloc (.cells (madeCells #[.int .u8 0] M) 5)) :=
  run_convert_bytes_arg _ 40 5 Tryd.underlying40 Tryd.underlying5 W.heap.size 0 M M (List.replicate M 0) (by simp) (fun i hi => by
    rw [Nat.zero_add, World.cell?_alloc_new]
    have h := toList_madeCells_one (.int .u8 0 : Value) M
    have hl : (madeCells #[(.int .u8 0 : Value)] M).size = M := by rw [← Array.length_toList, h]; simp
    rw [Array.getElem?_eq_getElem (by omega), ← Array.getElem_toList]
    simp [h, hi]) 9 Tryd.underlying9
theorem txN_le (n : Net) : (txN n).length ≤ 2496 := by
  unfold txN
  by_cases h : netB n = true
  · rw [if_pos h]; exact netTx_le h
  · rw [if_neg h]; simp

set_option maxHeartbeats 2000000 in
set_option maxRecDepth 100000 in
theorem DrawFirstWrongLine_any (a : Option Addr) (len cap : Nat) (w : World) (h : Bytes w a len w.heap.size) :
    Calls Tryd.prog 26 #[.slice a len cap] w fun e w' => ∃ u : ByteArray, e = .returned (.string u) ∧ u.size ≤ 10000 ∧ Below w.heap.size w w' := by
  go_enter Tryd.func26, Tryd.ntmps26
  go_wp2_with fail
  refine (l01From_any a len cap w h).mono ?_
  rintro e w1 ⟨rfl, hs1, hb1⟩
  go_wp2_with fail
  refine (l02DrawAny_any w.heap.size w1 hs1).mono ?_
  rintro e w2 ⟨nv, pv, n, rfl, hd⟩
  have HB := hid (hb1.trans (hd.kp.below (B := w.heap.size) hb1.size (fun k e => by omega)))
  have CT := spec_NetworkText_any nv pv n w2 hd.ap.at
  have hs2 := hd.src
  clear hb1 hd
  go_wp2_with fail
  refine CT.mono ?_
  rintro e w3 ⟨rfl, b3⟩
  have hs3 := hs2.kept (Kept.of_below (X := fun _ => False) b3) (fun _ e => e.elim)
  have HB3 := hid (HB.out.trans (b3.mono HB.out.size))
  obtain ⟨t, ht⟩ : ∃ t, tb (txN n) = t := ⟨_, rfl⟩
  have hz : t.size ≤ 2496 := by rw [← ht, tb_size]; exact txN_le n
  rw [ht]
  clear b3 CT ht
  go_wp2_with fail
  refine (l01Next_any w.heap.size 6 _ (by omega) (by omega) hs3).mono ?_
  rintro e w4 ⟨q, rfl, q0, q1, hs4, hk4⟩
  have HB4 := hid (HB3.out.trans (hk4.below (B := w.heap.size) HB3.out.size (fun k e => by omega)))
  clear hk4
  by_cases c0 : q = 0
  · subst c0
    go_wp2_with fail
    go_ret
    exact ⟨_, rfl, by omega, HB4.out⟩
  by_cases c1 : q = 1
  · subst c1
    have z1 : ¬ (9223372036854775807 < t.size + 17) := by omega
    have HZ : Hid ((t ++ ⟨#[112, 105, 112, 101, 32, 110, 48, 32, 110, 57, 32, 49, 32, 50, 32, 51, 10]⟩ : ByteArray).size ≤ 10000) := by
      rw [Hid, ByteArray.size_append]
      have : (⟨#[112, 105, 112, 101, 32, 110, 48, 32, 110, 57, 32, 49, 32, 50, 32, 51, 10]⟩ : ByteArray).size = 17 := rfl
      omega
    go_wp2_with fail
    go_ret
    exact ⟨_, rfl, HZ.out, HB4.out⟩
  have d0 : (q == 0) = false := beq_false_of_ne c0
  have d1 : (q == 1) = false := beq_false_of_ne c1
  go_wp2_with fail
  refine (l01Next_any w.heap.size 60 _ (by omega) (by omega) hs4).mono ?_
  rintro e w5 ⟨r, rfl, r0, r1, hs5, hk5⟩
  have HB5 := hid (HB4.out.trans (hk5.below (B := w.heap.size) HB4.out.size (fun k e => by omega)))
  clear hk5
  by_cases c2 : r = 0
  · subst c2
    go_wp2_with fail
    refine (l01Next_any w.heap.size 2 _ (by omega) (by omega) hs5).mono ?_
    rintro e w6 ⟨p, rfl, p0, p1, hs6, hk6⟩
    have HB6 := hid (HB5.out.trans (hk6.below (B := w.heap.size) HB5.out.size (fun k e => by omega)))
    clear hk6
    obtain ⟨M, hM⟩ : ∃ M : Nat, 4000 + p = (M : Int) := ⟨(4000 + p).toNat, by omega⟩
    have hM2 : M ≤ 4001 := by omega
    have hmk := run_make_row' (P := Tryd.prog) 40 5 (.int .u8 0) 1 Tryd.underlying40 info8 rfl .i64 .i64 M (by omega) (by omega)
    have hcv := zeros_conv w6 M
    have HZ : Hid ((strOfNums (List.replicate M 0)).size ≤ 10000) := by rw [Hid, strOfNums_size]; simp; omega
    go_wp2_with fail
    go_ret
    exact ⟨_, rfl, HZ.out, HB6.out.alloc HB6.out.size _⟩
  · have d2 : (r == 0) = false := beq_false_of_ne c2
    go_wp2_with fail
    refine (l01Damage_any w.heap.size t _ (by omega) hs5).mono ?_
    rintro e w6 ⟨u, rfl, hu, hs6, hk6⟩
    have HB6 := hid (HB5.out.trans (hk6.below (B := w.heap.size) HB5.out.size (fun k e => by omega)))
    clear hk6
    go_wp2_with fail
    go_ret
    exact ⟨_, rfl, by omega, HB6.out⟩

end Go.Proofs.YtdbgncinaacheaaDoor
