/- DrawSharesOf: it returns a number and a slice of numbers. -/
import Derived.Test.YthbihlbbejcpcaaDraw2
import Derived.Test.YthbihlbbejcpcaaOwn
import Derived.Deep.OwnRows
import Derived.WalkSpells
namespace Go.Proofs.Ythbihlbbejcpcaa
open Go.RowKit

theorem IntBlk.made_set (T : TypeId) (w : World) (n i : Nat) (x : Int) : IntBlk T (w.alloc (.cells ((madeCells #[.int .i64 0] n).setIfInBounds i (.int .i64 x)) T)) w.heap.size ((List.replicate n 0).set i x) := by
  unfold IntBlk
  rw [heap_alloc_new]
  congr 2
  apply Array.toList_inj.1
  rw [Array.toList_setIfInBounds, toList_madeCells_one]; simp [List.map_set]

def DShRel (T TI : TypeId) (w : World) (N : Nat) (v n : Value) (wr : World) : Prop :=
  ∃ j : Nat, ∃ zs : List Int, n = .int .i64 j ∧ zs.length + j = N ∧ OwnI TI (w.heap.size + 1) wr v zs ∧ Src T wr w.heap.size ∧ Below w.heap.size w wr

def DShOut (w : World) (e : Ending) (w' : World) : Prop :=
  ∃ (t : Int) (r : Value) (ws : List Int), e = .returned (.tuple #[.int .i64 t, r]) ∧ Ints .i64 w' r ws ∧ ws.length ≤ 65 ∧ Below w.heap.size w w'

set_option maxHeartbeats 1000000 in
set_option maxRecDepth 100000 in
theorem DrawSharesOf_any (a : Option Addr) (len cap : Nat) (w : World) (h : Bytes w a len w.heap.size) :
    Calls Try.prog 40 #[.slice a len cap] w (DShOut w) := by
  go_enter Try.func40, Try.ntmps40
  go_wp2_with fail
  refine (l01From_any a len cap w h).mono ?_
  rintro e w1 ⟨rfl, hs1, hb1⟩
  have hlt1 := hs1.lt
  go_wp2_with fail
  refine (l01Next_any w.heap.size 7 _ (by omega) (by omega) (hs1.alloc _)).mono ?_
  rintro e w2 ⟨r, rfl, r0, r1, hs2, hk2⟩
  obtain ⟨rn, rfl⟩ := Int.eq_ofNat_of_zero_le r0
  have hown := (OwnI.made 2 (w.heap.size + 1) w1 (by omega)).kept hk2 (fun b h1 h2 => by simp [Value.ownBlock] at h1; omega)
  have hb2 := hb1.trans ((((Below.refl w.heap.size w1).alloc (by omega) (.cells #[] 2))).trans (hk2.below (by simp; omega) (fun k e => by omega)))
  have HO := hid hown
  have HB := hid hb2
  clear hown hb2 hk2 hb1
  go_wp2_with fail
  go_loopw [5, 6] (fun v n wr => DShRel 55 2 w (1 + rn) v n wr) (fun _ n _ => (intOf n).toNat)
  case atStart => exact ⟨1 + rn, [], by go_num, by simp, HO.out, hs2, HB.out⟩
  case round =>
    clear HO HB hs2
    obtain ⟨j, zs, rfl, hj, hown, hsr, hbel⟩ := hrel
    have HJ := hid hj
    clear hj
    have hlen : zs.length ≤ 7 := by have := HJ.out; omega
    have hjb : j ≤ 7 := by have := HJ.out; omega
    by_cases hj0 : 0 < j
    · have HO := hid hown
      have HB := hid hbel
      clear hown hbel
      go_wp2_with fail
      refine (l01Next_any w.heap.size 4 _ (by omega) (by omega) hsr).mono ?_
      rintro e w3 ⟨q, rfl, q0, q1, hs3, hk3⟩
      go_wp2_with fail
      refine (l01Next_any w.heap.size 50 _ (by omega) (by omega) hs3).mono ?_
      rintro e w4 ⟨p, rfl, p0, p1, hs4, hk4⟩
      have hlt4 := hs4.lt
      have m0 : 0 ≤ q * p := Int.mul_nonneg q0 p0
      have m1 : q * p ≤ 200 := by have := Int.mul_le_mul (show q ≤ 4 by omega) (show p ≤ 50 by omega) p0 (by omega); omega
      have HK := hid (hk3.trans hk4)
      have HO4 := hid (HO.out.kept HK.out (fun b h1 h2 => by have := (HO.out.lt b h1).1; omega))
      have HB4 := hid (HB.out.trans (HK.out.below HB.out.size (fun k e => by omega)))
      have hz4 := HB4.out.size
      clear hk3 hk4 HO HB HK
      go_wp2_with (at_builtin; refine wpList_app1 rfl (.tmp 18) (.tmp 24) rfl (w.heap.size + 1) u5 zs rfl (HO4.out.alloc _) w4.heap.size (q * p) rfl ?c1 ?c2 ?c3 ?_)
      case c1 => simp
      case c2 => omega
      case c3 => simp; omega
      intro v1 w5 hv1 hk5 hb5
      have HV := hid hv1
      have HS5 := hid ((hs4.alloc (.cells #[Value.int .i64 (q * p)] 2)).kept hk5 (fun k h1 => by have := (HO4.out.lt k h1).1; omega))
      have HB5 := hid (HB4.out.trans ((((Below.refl w.heap.size w4).alloc (by omega) (.cells #[Value.int .i64 (q * p)] 2))).trans (hk5.below (by simp; omega) (fun k h1 => by have := (HO4.out.lt k h1).1; omega))))
      clear hv1 hk5 hb5 HO4 HB4 hs4
      go_wp2_with fail
      go_roundw
      case rel => exact ⟨j - 1, zs ++ [q * p], by go_num, by have := HJ.out; simp; omega, HV.out, HS5.out, HB5.out⟩
      case measure => simp [intOf]; omega
    · obtain rfl : j = 0 := by omega
      have HO := hid hown
      have HB := hid hbel
      clear hown hbel
      go_wp2_with fail
      refine (l01Next_any w.heap.size 300 _ (by omega) (by omega) hsr).mono ?_
      rintro e w3 ⟨q, rfl, q0, q1, hs3, hk3⟩
      go_wp2_with fail
      refine (l01Next_any w.heap.size 20 _ (by omega) (by omega) hs3).mono ?_
      rintro e w4 ⟨p, rfl, p0, p1, hs4, hk4⟩
      have hlt4 := hs4.lt
      have HK := hid (hk3.trans hk4)
      have HO4 := hid (HO.out.kept HK.out (fun b h1 h2 => by have := (HO.out.lt b h1).1; omega))
      have HB4 := hid (HB.out.trans (HK.out.below HB.out.size (fun k e => by omega)))
      have hz4 := HB4.out.size
      clear hk3 hk4 HO HB HK hs3
      by_cases e0 : p = 0
      · subst e0
        go_wp2_with fail
        refine (l01Next_any w.heap.size 3 _ (by omega) (by omega) (hs4.alloc _)).mono ?_
        rintro e w5 ⟨y, rfl, y0, y1, hs5, hk5⟩
        obtain ⟨z, hz, z0, z1⟩ := lits_at w4 w5 (· = w.heap.size) [-1, 1000000000, 1000000001] _ y (-1) 1000000001 y0 y1 (by decide) hk5 (by omega)
        have HK5 := hid ((((Kept.refl _ w4).alloc _).trans hk5))
        clear hk5
        go_wp2_with fail
        go_ret2
        exact ⟨_, _, zs, rfl, (((HO4.out.kept HK5.out (fun b h1 h2 => by have := (HO4.out.lt b h1).1; omega)).slc (by omega)).ints), by omega, HB4.out.trans (HK5.out.below (by omega) (fun k e => by omega))⟩
      by_cases e1 : p = 1
      · subst e1
        obtain ⟨ao, co, hv, hsh⟩ := HO4.out.shape
        obtain ⟨g, hg, hg0, hg1, hf, hc⟩ := hsh.resolve_left (by intro e; have := HJ.out; simp [e] at this; omega)
        subst hg
        subst hv
        have hl0 : 0 < zs.length := by have := HJ.out; omega
        have hc0 := hc 0 hl0
        have hf0 := hf 0
        have hgs : ¬ g = w.heap.size := by omega
        clear hsh hf hc
        go_wp2_with fail
        refine (l01Next_any w.heap.size 3 _ (by omega) (by omega) (hs4.alloc _)).mono ?_
        rintro e w5 ⟨y, rfl, y0, y1, hs5, hk5⟩
        obtain ⟨z, hz, z0, z1⟩ := lits_at w4 w5 (· = w.heap.size) [-1, 1000000000, 1000000001] _ y (-1) 1000000001 y0 y1 (by decide) hk5 (by omega)
        have HK5 := hid ((((Kept.refl _ w4).alloc _).trans hk5))
        have HO5 := hid (HO4.out.kept HK5.out (fun b h1 h2 => by have := (HO4.out.lt b h1).1; omega))
        have hc5 := HK5.out.cell hc0 hgs
        have hf5 : w5.frozen? ⟨g, 0, none⟩ = false := by
          rw [World.frozen?_of_block (w := w4) (a := ⟨g, 0, none⟩) (HK5.out.block g hg1 hgs)]; exact hf0
        have HS := hid (HO5.out.set 0 z)
        have HBF := hid ((HB4.out.trans (HK5.out.below (by omega) (fun k e => by omega))).setCell (p := ⟨g, 0, none⟩) (by show w.heap.size ≤ g; omega) (.int .i64 z))
        clear hk5 hc0 hf0
        go_wp2_with fail
        go_ret2
        exact ⟨_, _, zs.set 0 z, rfl, ((HS.out.slc (by simp; omega)).ints), by simp; omega, HBF.out⟩
      by_cases e2 : p = 2
      · subst e2
        go_wp2_with fail
        refine (l01Next_any w.heap.size 2 _ (by omega) (by omega) hs4).mono ?_
        rintro e w5 ⟨y, rfl, y0, y1, hs5, hk5⟩
        obtain ⟨yn, rfl⟩ := Int.eq_ofNat_of_zero_le y0
        have hsz5 := hk5.size
        have HBF := hid (HB4.out.trans (hk5.below (by omega) (fun k e => by omega)))
        have hmk := run_make_row' (P := Try.prog) 36 2 (.int .i64 0) 8 Try.underlying36 info64 rfl .i64 .i64 (64 + yn) (by omega) (by omega)
        rw [show ((64 + yn : Nat) : Int) = 64 + (yn : Int) by omega] at hmk
        have hblk := IntBlk.made 2 w5 (64 + yn)
        obtain ⟨x3, hc3⟩ : ∃ x3, (w5.alloc (.cells (madeCells #[.int .i64 0] (64 + yn)) 2)).cell? ⟨w5.heap.size, 3, none⟩ = some x3 := ⟨_, hblk.cell 3 (by simp; omega)⟩
        have hf3 := hblk.frozen 3
        have HS := hid (IntBlk.made_set 2 w5 (64 + yn) 3 1)
        clear hk5 hblk
        go_wp2_with fail
        go_ret2
        have HS2 := (HS.out.slc (P := fun _ => True) (cap := 64 + yn) trivial (by simp; omega)).ints
        rw [show ((List.replicate (64 + yn) (0 : Int)).set 3 1).length = 64 + yn by simp] at HS2
        exact ⟨_, _, _, rfl, HS2, by simp; omega, HBF.out.alloc (by omega) _⟩
      by_cases e3 : p = 3
      · subst e3
        go_wp2_with fail
        go_ret2
        exact ⟨_, _, [], rfl, Ints.nil _ _, by simp, HB4.out⟩
      · have n0 : (p == 0) = false := by simp [e0]
        have n1 : (p == 1) = false := by simp [e1]
        have n2 : (p == 2) = false := by simp [e2]
        have n3 : (p == 3) = false := by simp [e3]
        go_wp2_with fail
        go_ret2
        exact ⟨_, _, zs, rfl, ((HO4.out.slc (by omega)).ints), by omega, HB4.out⟩

end Go.Proofs.Ythbihlbbejcpcaa
