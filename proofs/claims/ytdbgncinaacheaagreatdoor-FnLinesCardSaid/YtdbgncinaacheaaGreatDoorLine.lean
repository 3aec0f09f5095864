/- The lines of nodes and pipes, both sides. -/
import Derived.Test.YtdbgncinaacheaaGreatDoorNumI
import Derived.Test.YtdbgncinaacheaaGreatDoorCode
import Derived.Deep.RegionHeld3
namespace Go.Proofs.YtdbgncinaacheaaGreatDoor
open Go.RowKit
open Go.Lib hiding intOf

def ndS (x : Nd) : ByteArray := if nodeB x = true then tb (ndL x) else ⟨#[]⟩
theorem ndL_tb (x : Nd) : tb (ndL x) = ⟨#[110, 111, 100, 101, 32]⟩ ++ x.name ++ ⟨#[32]⟩ ++ decI x.low ++ ⟨#[32]⟩ ++ decI x.high := by
  rw [ndL_app]
  simp only [← tb_app]
  rw [show tb (nm x) = x.name from tb_of x.name]
  rfl
theorem ndL_tbS (x : Nd) : tb (ndL x) = ⟨#[110, 111, 100, 101, 32]⟩ ++ x.name ++ tb (wordsT [x.low, x.high]) := by
  rw [ndL_tb, show wordsT [x.low, x.high] = [32] ++ itoa x.low ++ [32] ++ itoa x.high by simp [wordsT]]
  simp only [← tb_app, ByteArray.append_assoc]
  rfl
theorem ints_two (w : World) (T : TypeId) (a b : Int) : Ints .i64 (w.alloc (.cells #[.int .i64 a, .int .i64 b] T)) (.slice (some ⟨w.heap.size, 0, none⟩) 2 2) [a, b] :=
  ⟨by simp, _, 2, rfl, Or.inr ⟨w.heap.size, 0, rfl, fun i hi => by
    rw [World.cell?_alloc_new]
    match i, hi with
    | 0, _ => rfl
    | 1, _ => rfl
    | i + 2, h => simp at h; omega⟩⟩
theorem ints_three (w : World) (T : TypeId) (a b c : Int) : Ints .i64 (w.alloc (.cells #[.int .i64 a, .int .i64 b, .int .i64 c] T)) (.slice (some ⟨w.heap.size, 0, none⟩) 3 3) [a, b, c] :=
  ⟨by simp, _, 3, rfl, Or.inr ⟨w.heap.size, 0, rfl, fun i hi => by
    rw [World.cell?_alloc_new]
    match i, hi with
    | 0, _ => rfl
    | 1, _ => rfl
    | 2, _ => rfl
    | i + 3, h => simp at h; omega⟩⟩
theorem cell_al {w : World} {o : Obj} {p : Addr} {v : Value} (h : w.cell? p = some v) : (w.alloc o).cell? p = some v := by
  rw [World.cell?_alloc_old _ _ _ (Nat.ne_of_lt (World.block_lt_of_cell? _ _ h))]; exact h
theorem decI_sz21 {z : Int} (h0 : -9223372036854775808 ≤ z) (h1 : z ≤ 9223372036854775807) : (decI z).size ≤ 21 := by
  rw [decI_tb, tb_size]; exact itoa_length_le z h0 h1

set_option maxHeartbeats 1000000 in
set_option maxRecDepth 100000 in
theorem impl_NodeLine_any (x : Nd) (w : World) (hs : x.name.size ≤ 9223372036854775807) (ht : Tab w) :
    Calls Tryz.prog 6 #[.agg #[.string x.name, .int .i64 x.low, .int .i64 x.high]] w fun e w' => e = .returned (.string (ndS x)) ∧ Below w.heap.size w w' := by
  have hWb := below_new w (.cells #[.string x.name, .int .i64 x.low, .int .i64 x.high] 25)
  have hbx := Box.new w #[.string x.name, .int .i64 x.low, .int .i64 x.high] 25
  have hT1 := ht.below hWb
  go_enter Tryz.func6, Tryz.ntmps6
  go_wp2_with fail
  refine (impl_IsNode_any x _ hs).mono ?_
  cases hb : nodeB x
  · have hr : Hid (ndS x = ⟨#[]⟩) := by simp [Hid, ndS, hb]
    rintro e w1 ⟨rfl, b1⟩
    go_wp2_with fail
    go_ret
    rw [hr.out]
    exact ⟨rfl, hWb.trans (b1.mono hWb.size)⟩
  · have hr : Hid (ndS x = tb (ndL x)) := by simp [Hid, ndS, hb]
    rintro e w1 ⟨rfl, b1⟩
    obtain ⟨hn, h0, h1, h2⟩ := nodeB_parts hb
    have hn8 := nameB_sz hn
    have l1 := decI_sz21 (z := x.low) (by omega) (by omega)
    have l2 := decI_sz21 (z := x.high) (by omega) (by omega)
    have HW := hid (hWb.trans (b1.mono hWb.size))
    have HT := hid (hT1.below b1)
    have hbx1 := hbx.below b1
    have hbw := hbx1.1
    obtain ⟨c0, c1, c2⟩ := hbx1.three
    obtain ⟨s, lo, hi⟩ := x
    simp only at hn8 l1 l2 h0 h1 h2 c0 c1 c2 hr
    have HR : Hid (tb (ndL ⟨s, lo, hi⟩) = ⟨#[110, 111, 100, 101, 32]⟩ ++ s ++ ⟨#[32]⟩ ++ decI lo ++ ⟨#[32]⟩ ++ decI hi) := ndL_tb _
    clear hbx hbx1 b1 hT1 hWb hb hn
    go_wp2_with fail
    have z1 : ¬ (9223372036854775807 < 5 + s.size) := by omega
    have z2 : ¬ (9223372036854775807 < 5 + s.size + 1) := by omega
    have z3 : ¬ (9223372036854775807 < 5 + s.size + 1 + (decI lo).size) := by omega
    have z4 : ¬ (9223372036854775807 < 5 + s.size + 1 + (decI lo).size + 1) := by omega
    have z5 : ¬ (9223372036854775807 < 5 + s.size + 1 + (decI lo).size + 1 + (decI hi).size) := by omega
    go_region_held3 (fun W => W.cell? ⟨w.heap.size, 0, none⟩ = some (.string s) ∧ W.cell? ⟨w.heap.size, 1, none⟩ = some (.int .i64 lo) ∧ W.cell? ⟨w.heap.size, 2, none⟩ = some (.int .i64 hi))
      (first | exact ⟨c0, c1, c2⟩ | exact ⟨C0, C1, C2⟩ | exact ⟨D0, D1, D2⟩)
      (first
        | (go_at_call 16; refine (decimal_any lo _ (by omega) (by omega) (HT.out.below (Below.refl _ _).drew)).mono ?_; rintro e w2 ⟨rfl, b2⟩; have b2 := below_undrew b2; have C0 := (b2.cell (p := ⟨w.heap.size, 0, none⟩) hbw).trans c0; have C1 := (b2.cell (p := ⟨w.heap.size, 1, none⟩) hbw).trans c1; have C2 := (b2.cell (p := ⟨w.heap.size, 2, none⟩) hbw).trans c2; have HT2 := hid (HT.out.below b2); have HB2 := hid (HW.out.trans (b2.mono HW.out.size)); have hbw2 := Nat.lt_of_lt_of_le hbw b2.size)
        | (go_at_call 16; refine (decimal_any hi _ (by omega) (by omega) HT2.out).mono ?_; rintro e w3 ⟨rfl, b3⟩; have D0 := (b3.cell (p := ⟨w.heap.size, 0, none⟩) hbw2).trans C0; have D1 := (b3.cell (p := ⟨w.heap.size, 1, none⟩) hbw2).trans C1; have D2 := (b3.cell (p := ⟨w.heap.size, 2, none⟩) hbw2).trans C2; have HB3 := hid (HB2.out.trans (b3.mono HB2.out.size))))
    go_wp2_with fail
    go_ret
    rw [hr.out, HR.out]
    exact ⟨rfl, HB3.out⟩

set_option maxHeartbeats 1000000 in
set_option maxRecDepth 100000 in
theorem spec_NodeLine_any (x : Nd) (w : World) (hs : x.name.size ≤ 9223372036854775807) :
    Calls Tryz.prog 8 #[.agg #[.string x.name, .int .i64 x.low, .int .i64 x.high]] w fun e w' => e = .returned (.string (ndS x)) ∧ Below w.heap.size w w' := by
  have hWb := below_new w (.cells #[.string x.name, .int .i64 x.low, .int .i64 x.high] 25)
  have hbx := Box.new w #[.string x.name, .int .i64 x.low, .int .i64 x.high] 25
  go_enter Tryz.func8, Tryz.ntmps8
  go_wp2_with fail
  refine (spec_IsNode_any x _ hs).mono ?_
  cases hb : nodeB x
  · have hr : Hid (ndS x = ⟨#[]⟩) := by simp [Hid, ndS, hb]
    rintro e w1 ⟨rfl, b1⟩
    go_wp2_with fail
    go_ret
    rw [hr.out]
    exact ⟨rfl, hWb.trans (b1.mono hWb.size)⟩
  · have hr : Hid (ndS x = tb (ndL x)) := by simp [Hid, ndS, hb]
    rintro e w1 ⟨rfl, b1⟩
    obtain ⟨hn, h0, h1, h2⟩ := nodeB_parts hb
    have hn8 := nameB_sz hn
    have HW := hid (hWb.trans (b1.mono hWb.size))
    have hbx1 := hbx.below b1
    have hbw := hbx1.1
    obtain ⟨c0, c1, c2⟩ := hbx1.three
    obtain ⟨s, lo, hi⟩ := x
    simp only at hn8 h0 h1 h2 c0 c1 c2 hr
    have HR : Hid (tb (ndL ⟨s, lo, hi⟩) = ⟨#[110, 111, 100, 101, 32]⟩ ++ s ++ tb (wordsT [lo, hi])) := ndL_tbS _
    have HI : Hid (In64 [lo, hi]) := fun z hz => by
      simp only [List.mem_cons, List.not_mem_nil, or_false] at hz
      omega
    have l1 : (tb (wordsT [lo, hi])).size ≤ 44 := by
      rw [tb_size]
      have := wordsT_len HI.out 2
      simpa using this
    clear hbx hbx1 b1 hWb hb hn
    go_wp2_with fail
    have z1 : ¬ (9223372036854775807 < 5 + s.size) := by omega
    have z2 : ¬ (9223372036854775807 < 5 + s.size + (tb (wordsT [lo, hi])).size) := by omega
    go_region_held3 (fun W => W.cell? ⟨w.heap.size, 0, none⟩ = some (.string s) ∧ W.cell? ⟨w.heap.size, 1, none⟩ = some (.int .i64 lo) ∧ W.cell? ⟨w.heap.size, 2, none⟩ = some (.int .i64 hi))
      (first | exact ⟨c0, c1, c2⟩ | exact ⟨C0, C1, C2⟩ | exact ⟨cell_al c0, cell_al c1, cell_al c2⟩)
      (first
        | (go_at_call 20; refine (l03Words_any _ [lo, hi] (w1.alloc (.cells #[.int .i64 lo, .int .i64 hi] 2)).drew (ints_two w1 2 lo hi) HI.out (by simp)).mono ?_; rintro e w2 ⟨rfl, b2⟩; have b2 := (below_new w1 (.cells #[.int .i64 lo, .int .i64 hi] 2)).trans ((below_undrew b2).mono (by simp)); have C0 := (b2.cell (p := ⟨w.heap.size, 0, none⟩) hbw).trans c0; have C1 := (b2.cell (p := ⟨w.heap.size, 1, none⟩) hbw).trans c1; have C2 := (b2.cell (p := ⟨w.heap.size, 2, none⟩) hbw).trans c2; have HB2 := hid (HW.out.trans (b2.mono HW.out.size))))
    go_wp2_with fail
    go_ret
    rw [hr.out, HR.out]
    exact ⟨rfl, HB2.out⟩

end Go.Proofs.YtdbgncinaacheaaGreatDoor
