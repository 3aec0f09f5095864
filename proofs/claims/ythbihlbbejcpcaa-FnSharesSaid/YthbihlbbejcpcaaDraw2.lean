/- The drawing functions of chapter 1, the ones with more results. -/
import Derived.Test.YthbihlbbejcpcaaDraw
import Derived.Deep.RegionWith
namespace Go.Proofs.Ythbihlbbejcpcaa
open Go.RowKit

set_option maxHeartbeats 1000000 in
theorem DrawFloorDiv_any (a : Option Addr) (len cap : Nat) (w : World) (h : Bytes w a len w.heap.size) :
    Calls Try.prog 26 #[.slice a len cap] w fun e w' =>
      ∃ x y : Int, e = .returned (.tuple #[.int .i64 x, .int .i64 y]) ∧ -1000000000000000001 ≤ x ∧ x ≤ 1000000000000000001 ∧ 0 ≤ y ∧ y ≤ 1000000001 ∧ Below w.heap.size w w' := by
  go_enter Try.func26, Try.ntmps26
  go_wp2_with fail
  refine (l01From_any a len cap w h).mono ?_
  rintro e w1 ⟨rfl, hs1, hb1⟩
  go_wp2_with fail
  refine (l01DrawBig_any w.heap.size w1 hs1).mono ?_
  rintro e w2 ⟨x, rfl, x0, x1, hs2, hk2⟩
  go_wp2_with fail
  refine (l01Next_any w.heap.size 8 w2 (by omega) (by omega) hs2).mono ?_
  rintro e w3 ⟨r, rfl, r0, r1, hs3, hk3⟩
  have hlt3 := hs3.lt
  have HB := hid (hb1.trans ((hk2.trans hk3).below (B := w.heap.size) hb1.size (fun k e => by omega)))
  clear hb1 hk2 hk3
  go_wp2_with fail
  · go_region_with (first
      | (go_at_call 53; refine (l01Next_any w.heap.size 4 _ (by omega) (by omega) (hs3.alloc _).drew).mono ?_; rintro e w4 ⟨q, rfl, q0, q1, hs4, hk4⟩; obtain ⟨z, hz, z0, z1⟩ := lits_at w3 w4 (· = w.heap.size) [0, 1, 1000000000, 1000000001] _ q 0 1000000001 q0 q1 (by decide) hk4.undrew (by omega); have HK := hid (HB.out.trans ((((Kept.refl _ w3).alloc _).trans hk4.undrew).below (B := w.heap.size) (by omega) (fun k e => by omega))); have hlt4 := hs4.lt; clear hk4)
      | (go_at_call 53; refine (l01Next_any w.heap.size 4 _ (by omega) (by omega) hs3.drew).mono ?_; rintro e w4 ⟨q, rfl, q0, q1, hs4, hk4⟩; have HK := hid (HB.out.trans (hk4.undrew.below (B := w.heap.size) (by omega) (fun k e => by omega))); have hlt4 := hs4.lt; clear hk4))
    all_goals go_wp2
    all_goals go_ret2
    all_goals first
      | exact ⟨x, z, rfl, x0, x1, z0, z1, HK.out⟩
      | (rcases (by omega : q = 0 ∨ q = 1 ∨ q = 2 ∨ q = 3) with rfl | rfl | rfl | rfl <;> exact ⟨x, _, rfl, x0, x1, by decide, by decide, HK.out.alloc (by omega) _⟩)
  · refine (l01Next_any w.heap.size 60 _ (by omega) (by omega) hs3).mono ?_
    rintro e w4 ⟨q, rfl, q0, q1, hs4, hk4⟩
    have HK := hid hk4
    clear hk4
    go_wp2
    go_ret2
    exact ⟨x, _, rfl, x0, x1, by omega, by omega, HB.out.trans (HK.out.below (B := w.heap.size) (by omega) (fun k e => by omega))⟩

set_option maxHeartbeats 1000000 in
theorem DrawMulDiv_any (a : Option Addr) (len cap : Nat) (w : World) (h : Bytes w a len w.heap.size) :
    Calls Try.prog 25 #[.slice a len cap] w fun e w' =>
      ∃ x u y : Int, e = .returned (.tuple #[.int .i64 x, .int .i64 u, .int .i64 y]) ∧ Below w.heap.size w w' := by
  go_enter Try.func25, Try.ntmps25
  go_wp2_with fail
  refine (l01From_any a len cap w h).mono ?_
  rintro e w1 ⟨rfl, hs1, hb1⟩
  go_wp2_with fail
  refine (l01DrawFactor_any w.heap.size w1 hs1).mono ?_
  rintro e w2 ⟨x, rfl, x0, x1, hs2, hk2⟩
  go_wp2_with fail
  refine (l01DrawFactor_any w.heap.size w2 hs2).mono ?_
  rintro e w2' ⟨u, rfl, u0, u1, hs2', hk2'⟩
  go_wp2_with fail
  refine (l01Next_any w.heap.size 8 w2' (by omega) (by omega) hs2').mono ?_
  rintro e w3 ⟨r, rfl, r0, r1, hs3, hk3⟩
  have hlt3 := hs3.lt
  have HB := hid (hb1.trans (((hk2.trans hk2').trans hk3).below (B := w.heap.size) hb1.size (fun k e => by omega)))
  clear hb1 hk2 hk2' hk3
  go_wp2_with fail
  · go_region_with (first
      | (go_at_call 53; refine (l01Next_any w.heap.size 4 _ (by omega) (by omega) (hs3.alloc _).drew).mono ?_; rintro e w4 ⟨q, rfl, q0, q1, hs4, hk4⟩; obtain ⟨z, hz, z0, z1⟩ := lits_at w3 w4 (· = w.heap.size) [0, 1, 1000000000, 1000000001] _ q 0 1000000001 q0 q1 (by decide) hk4.undrew (by omega); have HK := hid (HB.out.trans ((((Kept.refl _ w3).alloc _).trans hk4.undrew).below (B := w.heap.size) (by omega) (fun k e => by omega))); have hlt4 := hs4.lt; clear hk4)
      | (go_at_call 53; refine (l01Next_any w.heap.size 4 _ (by omega) (by omega) hs3.drew).mono ?_; rintro e w4 ⟨q, rfl, q0, q1, hs4, hk4⟩; have HK := hid (HB.out.trans (hk4.undrew.below (B := w.heap.size) (by omega) (fun k e => by omega))); have hlt4 := hs4.lt; clear hk4))
    all_goals go_wp2
    all_goals go_ret3
    all_goals first
      | exact ⟨x, u, z, rfl, HK.out⟩
      | (rcases (by omega : q = 0 ∨ q = 1 ∨ q = 2 ∨ q = 3) with rfl | rfl | rfl | rfl <;> exact ⟨x, u, _, rfl, HK.out.alloc (by omega) _⟩)
  · refine (l01Next_any w.heap.size 60 _ (by omega) (by omega) hs3).mono ?_
    rintro e w4 ⟨q, rfl, q0, q1, hs4, hk4⟩
    have HK := hid hk4
    clear hk4
    go_wp2
    go_ret3
    exact ⟨x, u, _, rfl, HB.out.trans (HK.out.below (B := w.heap.size) (by omega) (fun k e => by omega))⟩

theorem DrawSignedSquare_any (a : Option Addr) (len cap : Nat) (w : World) (h : Bytes w a len w.heap.size) :
    Calls Try.prog 38 #[.slice a len cap] w fun e w' =>
      ∃ x : Int, e = .returned (.int .i64 x) ∧ -1000000001 ≤ x ∧ x ≤ 1000000001 ∧ Below w.heap.size w w' := by
  go_enter Try.func38, Try.ntmps38
  go_wp2_with fail
  refine (l01From_any a len cap w h).mono ?_
  rintro e w1 ⟨rfl, hs1, hb1⟩
  go_wp2_with fail
  refine (l01DrawFactor_any w.heap.size w1 hs1).mono ?_
  rintro e w2 ⟨x, rfl, x0, x1, hs2, hk2⟩
  have HB := hid (hb1.trans (hk2.below (B := w.heap.size) hb1.size (fun k e => by omega)))
  clear hb1 hk2
  go_wp2
  go_ret
  exact ⟨x, rfl, x0, x1, HB.out⟩

set_option maxHeartbeats 1000000 in
theorem DrawRootOf_any (a : Option Addr) (len cap : Nat) (w : World) (h : Bytes w a len w.heap.size) :
    Calls Try.prog 39 #[.slice a len cap] w fun e w' =>
      ∃ x : Int, e = .returned (.int .i64 x) ∧ -1 ≤ x ∧ x ≤ 1000000000000000001 ∧ Below w.heap.size w w' := by
  go_enter Try.func39, Try.ntmps39
  go_wp2_with fail
  refine (l01From_any a len cap w h).mono ?_
  rintro e w1 ⟨rfl, hs1, hb1⟩
  go_wp2_with fail
  refine (l01Next_any w.heap.size 2000 w1 (by omega) (by omega) hs1).mono ?_
  rintro e w2 ⟨r, rfl, r0, r1, hs2, hk2⟩
  have hlt2 := hs2.lt
  have HB := hid (hb1.trans (hk2.below (B := w.heap.size) hb1.size (fun k e => by omega)))
  clear hb1 hk2
  have hr0 : 0 ≤ r * r := Int.mul_nonneg r0 r0
  have hr1 : r * r ≤ 4000000 := by have := Int.mul_le_mul (show r ≤ 2000 by omega) (show r ≤ 2000 by omega) r0 (by omega); omega
  go_wp2_with fail
  refine (l01Next_any w.heap.size 6 _ (by omega) (by omega) (hs2.alloc _)).mono ?_
  rintro e w3 ⟨q, rfl, q0, q1, hs3, hk3⟩
  obtain ⟨z, hz, z0, z1⟩ := lits_at w2 w3 (· = w.heap.size) [r * r, r * r - 1, r, 1000000000000000000, 1000000000000000001, 999999999999999999] _ q (-1) 1000000000000000001 q0 q1 (by simp; omega) hk3 (by omega)
  have HK := hid (HB.out.trans ((((Kept.refl _ w2).alloc _).trans hk3).below (B := w.heap.size) (by omega) (fun k e => by omega)))
  clear hk3 hr0 hr1
  go_wp2
  go_ret
  exact ⟨z, rfl, z0, z1, HK.out⟩

end Go.Proofs.Ythbihlbbejcpcaa
