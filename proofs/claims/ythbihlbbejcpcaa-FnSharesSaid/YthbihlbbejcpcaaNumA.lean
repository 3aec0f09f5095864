/- Contracts of the small functions on numbers (impl and spec). -/
import Derived.Test.YthbihlbbejcpcaaProg
import Derived.WalkKit
import Derived.OpenShut
namespace Go.Proofs.Ythbihlbbejcpcaa
open Go.RowKit

theorem hid {p : Prop} (h : p) : Hid p := h

/-- n is lo to hi. -/
def inB (n lo hi : Int) : Bool := decide (lo ≤ n) && decide (n ≤ hi)
theorem inB_t {n lo hi : Int} (h : inB n lo hi = true) : lo ≤ n ∧ n ≤ hi := by simpa [inB] using h
theorem inB_f {n lo hi : Int} (h : inB n lo hi = false) : n < lo ∨ hi < n := by
  simp only [inB, Bool.and_eq_false_iff, decide_eq_false_iff_not] at h; omega
theorem inB_mk {n lo hi : Int} (h1 : lo ≤ n) (h2 : n ≤ hi) : inB n lo hi = true := by simp [inB, h1, h2]
theorem inB_no {n lo hi : Int} (h : n < lo ∨ hi < n) : inB n lo hi = false := by
  simp only [inB, Bool.and_eq_false_iff, decide_eq_false_iff_not]; omega

theorem within_any (n lo hi : Int) (w : World) :
    Calls Try.prog 45 #[.int .i64 n, .int .i64 lo, .int .i64 hi] w fun e w' => e = .returned (.bool (inB n lo hi)) ∧ w = w' := by
  by_cases h1 : lo ≤ n <;> by_cases h2 : n ≤ hi <;> go_enter Try.func45, Try.ntmps45 <;> go_wp2 <;> go_ret <;> exact ⟨by simp [inB, h1, h2], rfl⟩

theorem l01In_any (n lo hi : Int) (w : World) :
    Calls Try.prog 48 #[.int .i64 n, .int .i64 lo, .int .i64 hi] w fun e w' => e = .returned (.bool (inB n lo hi)) ∧ w = w' := by
  by_cases h1 : lo ≤ n <;> by_cases h2 : n ≤ hi <;> go_enter Try.func48, Try.ntmps48 <;> go_wp2 <;> go_ret <;> exact ⟨by simp [inB, h1, h2], rfl⟩

theorem l01Big_any (n : Int) (w : World) :
    Calls Try.prog 47 #[.int .i64 n] w fun e w' => e = .returned (.bool (inB n (-1000000000000000000) 1000000000000000000)) ∧ w = w' := by
  go_enter Try.func47, Try.ntmps47
  go_wp2_with (go_at_call 48; refine (l01In_any _ _ _ _).mono ?_; rintro e w' ⟨rfl, rfl⟩)
  go_ret
  exact ⟨rfl, rfl⟩

theorem l01Factor_any (n : Int) (w : World) :
    Calls Try.prog 43 #[.int .i64 n] w fun e w' => e = .returned (.bool (inB n (-1000000000) 1000000000)) ∧ w = w' := by
  go_enter Try.func43, Try.ntmps43
  go_wp2_with (go_at_call 48; refine (l01In_any _ _ _ _).mono ?_; rintro e w' ⟨rfl, rfl⟩)
  go_ret
  exact ⟨rfl, rfl⟩

theorem ret_int {k : IntKind} {a b : Int} (h : a = b) : Ending.returned (.int k a) = .returned (.int k b) := by rw [h]

theorem ret_bool {a b : Bool} (h : a = b) : Ending.returned (.bool a) = .returned (.bool b) := by rw [h]

theorem absOf_any (n : Int) (w : World) (h1 : -4000000000000000000 ≤ n) (h2 : n ≤ 4000000000000000000) :
    Calls Try.prog 46 #[.int .i64 n] w fun e w' => e = .returned (.int .i64 (n.natAbs : Int)) ∧ w = w' := by
  by_cases h0 : n < 0 <;> go_enter Try.func46, Try.ntmps46 <;> go_wp2 <;> go_ret <;> exact ⟨ret_int (by omega), rfl⟩

theorem l01Abs_any (n : Int) (w : World) (h1 : -4000000000000000000 ≤ n) (h2 : n ≤ 4000000000000000000) :
    Calls Try.prog 63 #[.int .i64 n] w fun e w' => e = .returned (.int .i64 (n.natAbs : Int)) ∧ w = w' := by
  by_cases h0 : n < 0 <;> go_enter Try.func63, Try.ntmps63 <;> go_wp2 <;> go_ret <;> exact ⟨ret_int (by omega), rfl⟩

theorem tdiv_facts (a b : Int) (h0 : a < 0) (h3 : 1 ≤ b) : (a.tmod b < 0 → a / b = a.tdiv b - 1) ∧ (0 ≤ a.tmod b → a / b = a.tdiv b) ∧ a ≤ a.tdiv b ∧ a.tdiv b ≤ 0 := by
  have e1 := Int.mul_tdiv_add_tmod a b
  have e2 : -b < a.tmod b := by
    have := Int.lt_tmod_of_pos a (by omega : 0 < b); omega
  have e3 : a.tmod b ≤ 0 := by
    have := Int.tmod_nonneg (a := -a) b (by omega); rw [Int.neg_tmod] at this; omega
  have e4 : a.tdiv b ≤ 0 := by
    have := Int.tdiv_nonneg (a := -a) (b := b) (by omega) (by omega); rw [Int.neg_tdiv] at this; omega
  have e5 : a ≤ a.tdiv b := by
    have : b * a.tdiv b ≤ 1 * a.tdiv b := Int.mul_le_mul_of_nonpos_right h3 e4
    omega
  refine ⟨fun h => ?_, fun h => ?_, e5, e4⟩
  · refine (Int.ediv_eq_iff_of_pos (by omega)).2 ?_
    rw [Int.sub_mul, Int.mul_comm]; omega
  · refine (Int.ediv_eq_iff_of_pos (by omega)).2 ?_
    rw [Int.mul_comm]; omega

theorem floorDiv_any (a b : Int) (w : World) (h1 : -4000000000000000000 ≤ a) (h2 : a ≤ 4000000000000000000) (h3 : 1 ≤ b) (h4 : b ≤ 4000000000000000000) :
    Calls Try.prog 50 #[.int .i64 a, .int .i64 b] w fun e w' => e = .returned (.int .i64 (a / b)) ∧ w = w' := by
  by_cases h0 : 0 ≤ a
  · have hm : 0 ≤ a % b := Int.emod_nonneg _ (by omega)
    go_enter Try.func50, Try.ntmps50
    go_wp2
    go_ret
    exact ⟨rfl, rfl⟩
  · obtain ⟨f1, f2, f3, f4⟩ := tdiv_facts a b (by omega) h3
    go_enter Try.func50, Try.ntmps50
    go_wp2
    all_goals go_ret
    all_goals exact ⟨rfl, rfl⟩

theorem l01Floor_any (a b : Int) (w : World) (h1 : -4000000000000000000 ≤ a) (h2 : a ≤ 4000000000000000000) (h3 : 1 ≤ b) (h4 : b ≤ 4000000000000000000) :
    Calls Try.prog 49 #[.int .i64 a, .int .i64 b] w fun e w' => e = .returned (.int .i64 (a / b)) ∧ w = w' := by
  by_cases h0 : 0 ≤ a
  · have hm : 0 ≤ a % b := Int.emod_nonneg _ (by omega)
    go_enter Try.func49, Try.ntmps49
    go_wp2
    go_ret
    exact ⟨rfl, rfl⟩
  · obtain ⟨f1, f2, f3, f4⟩ := tdiv_facts a b (by omega) h3
    go_enter Try.func49, Try.ntmps49
    go_wp2
    all_goals go_ret
    all_goals exact ⟨rfl, rfl⟩

abbrev two (p : Int × Int) : Ending := .returned (.tuple #[.int .i64 p.1, .int .i64 p.2])
/-- What FloorDiv, NearestDiv, MulDiv, SignedSquare return. -/
def floorDivS (a b : Int) : Int × Int := if inB a (-1000000000000000000) 1000000000000000000 && inB b 1 1000000000 then (a / b, 0) else (0, 2)
def nearestDivS (a b : Int) : Int × Int := if inB a (-1000000000000000000) 1000000000000000000 && inB b 1 1000000000 then ((2 * a + b) / (2 * b), 0) else (0, 2)
def mulDivS (a b c : Int) : Int × Int := if inB a (-1000000000) 1000000000 && inB b (-1000000000) 1000000000 && inB c 1 1000000000 then (a * b / c, 0) else (0, 2)
def signedSquareS (q : Int) : Int × Int := if inB q (-1000000000) 1000000000 then (q * (q.natAbs : Int), 0) else (0, 2)

theorem mul_bd {a b : Int} (h1 : -1000000000 ≤ a) (h2 : a ≤ 1000000000) (h3 : -1000000000 ≤ b) (h4 : b ≤ 1000000000) :
    -1000000000000000000 ≤ a * b ∧ a * b ≤ 1000000000000000000 := by
  have h : (a * b).natAbs ≤ 1000000000 * 1000000000 := by rw [Int.natAbs_mul]; exact Nat.mul_le_mul (by omega) (by omega)
  omega

theorem impl_FloorDiv_any (a b : Int) (w : World) :
    Calls Try.prog 19 #[.int .i64 a, .int .i64 b] w fun e w' => e = two (floorDivS a b) ∧ w = w' := by
  cases hA : inB a (-1000000000000000000) 1000000000000000000 <;> cases hB : inB b 1 1000000000
  case true.true =>
    have hr : floorDivS a b = (a / b, 0) := by simp [floorDivS, hA, hB]
    rw [hr]; clear hr
    obtain ⟨g1, g2⟩ := inB_t hA
    obtain ⟨g3, g4⟩ := inB_t hB
    go_enter Try.func19, Try.ntmps19
    go_wp2_with (first | (go_at_call 45; refine (within_any _ _ _ _).mono ?_; rintro e w' ⟨rfl, rfl⟩) | (go_at_call 50; refine (floorDiv_any _ _ _ (by omega) (by omega) (by omega) (by omega)).mono ?_; rintro e w' ⟨rfl, rfl⟩))
    go_ret2
    exact ⟨rfl, rfl⟩
  all_goals
    have hr : floorDivS a b = (0, 2) := by simp [floorDivS, hA, hB]
    rw [hr]; clear hr
    go_enter Try.func19, Try.ntmps19
    go_wp2_with (first | (go_at_call 45; refine (within_any _ _ _ _).mono ?_; rintro e w' ⟨rfl, rfl⟩))
    go_ret2
    exact ⟨rfl, rfl⟩

theorem spec_FloorDiv_any (a b : Int) (w : World) :
    Calls Try.prog 18 #[.int .i64 a, .int .i64 b] w fun e w' => e = two (floorDivS a b) ∧ w = w' := by
  cases hA : inB a (-1000000000000000000) 1000000000000000000 <;> cases hB : inB b 1 1000000000
  case true.true =>
    have hr : floorDivS a b = (a / b, 0) := by simp [floorDivS, hA, hB]
    rw [hr]; clear hr
    obtain ⟨g1, g2⟩ := inB_t hA
    obtain ⟨g3, g4⟩ := inB_t hB
    go_enter Try.func18, Try.ntmps18
    go_wp2_with (first | (go_at_call 47; refine (l01Big_any _ _).mono ?_; rintro e w' ⟨rfl, rfl⟩) | (go_at_call 48; refine (l01In_any _ _ _ _).mono ?_; rintro e w' ⟨rfl, rfl⟩) | (go_at_call 49; refine (l01Floor_any _ _ _ (by omega) (by omega) (by omega) (by omega)).mono ?_; rintro e w' ⟨rfl, rfl⟩))
    go_ret2
    exact ⟨rfl, rfl⟩
  all_goals
    have hr : floorDivS a b = (0, 2) := by simp [floorDivS, hA, hB]
    rw [hr]; clear hr
    go_enter Try.func18, Try.ntmps18
    go_wp2_with (first | (go_at_call 47; refine (l01Big_any _ _).mono ?_; rintro e w' ⟨rfl, rfl⟩) | (go_at_call 48; refine (l01In_any _ _ _ _).mono ?_; rintro e w' ⟨rfl, rfl⟩))
    go_ret2
    exact ⟨rfl, rfl⟩

theorem impl_NearestDiv_any (a b : Int) (w : World) :
    Calls Try.prog 23 #[.int .i64 a, .int .i64 b] w fun e w' => e = two (nearestDivS a b) ∧ w = w' := by
  cases hA : inB a (-1000000000000000000) 1000000000000000000 <;> cases hB : inB b 1 1000000000
  case true.true =>
    have hr : nearestDivS a b = ((2 * a + b) / (2 * b), 0) := by simp [nearestDivS, hA, hB]
    rw [hr]; clear hr
    obtain ⟨g1, g2⟩ := inB_t hA
    obtain ⟨g3, g4⟩ := inB_t hB
    go_enter Try.func23, Try.ntmps23
    go_wp2_with (first | (go_at_call 45; refine (within_any _ _ _ _).mono ?_; rintro e w' ⟨rfl, rfl⟩) | (go_at_call 50; refine (floorDiv_any _ _ _ (by omega) (by omega) (by omega) (by omega)).mono ?_; rintro e w' ⟨rfl, rfl⟩))
    go_ret2
    exact ⟨rfl, rfl⟩
  all_goals
    have hr : nearestDivS a b = (0, 2) := by simp [nearestDivS, hA, hB]
    rw [hr]; clear hr
    go_enter Try.func23, Try.ntmps23
    go_wp2_with (first | (go_at_call 45; refine (within_any _ _ _ _).mono ?_; rintro e w' ⟨rfl, rfl⟩))
    go_ret2
    exact ⟨rfl, rfl⟩

theorem spec_NearestDiv_any (a b : Int) (w : World) :
    Calls Try.prog 22 #[.int .i64 a, .int .i64 b] w fun e w' => e = two (nearestDivS a b) ∧ w = w' := by
  cases hA : inB a (-1000000000000000000) 1000000000000000000 <;> cases hB : inB b 1 1000000000
  case true.true =>
    have hr : nearestDivS a b = ((2 * a + b) / (2 * b), 0) := by simp [nearestDivS, hA, hB]
    rw [hr]; clear hr
    obtain ⟨g1, g2⟩ := inB_t hA
    obtain ⟨g3, g4⟩ := inB_t hB
    go_enter Try.func22, Try.ntmps22
    go_wp2_with (first | (go_at_call 47; refine (l01Big_any _ _).mono ?_; rintro e w' ⟨rfl, rfl⟩) | (go_at_call 48; refine (l01In_any _ _ _ _).mono ?_; rintro e w' ⟨rfl, rfl⟩) | (go_at_call 49; refine (l01Floor_any _ _ _ (by omega) (by omega) (by omega) (by omega)).mono ?_; rintro e w' ⟨rfl, rfl⟩))
    go_ret2
    exact ⟨rfl, rfl⟩
  all_goals
    have hr : nearestDivS a b = (0, 2) := by simp [nearestDivS, hA, hB]
    rw [hr]; clear hr
    go_enter Try.func22, Try.ntmps22
    go_wp2_with (first | (go_at_call 47; refine (l01Big_any _ _).mono ?_; rintro e w' ⟨rfl, rfl⟩) | (go_at_call 48; refine (l01In_any _ _ _ _).mono ?_; rintro e w' ⟨rfl, rfl⟩))
    go_ret2
    exact ⟨rfl, rfl⟩

theorem impl_MulDiv_any (a b c : Int) (w : World) :
    Calls Try.prog 21 #[.int .i64 a, .int .i64 b, .int .i64 c] w fun e w' => e = two (mulDivS a b c) ∧ w = w' := by
  cases hA : inB a (-1000000000) 1000000000 <;> cases hB : inB b (-1000000000) 1000000000 <;> cases hC : inB c 1 1000000000
  case true.true.true =>
    have hr : mulDivS a b c = (a * b / c, 0) := by simp [mulDivS, hA, hB, hC]
    rw [hr]; clear hr
    obtain ⟨g1, g2⟩ := inB_t hA
    obtain ⟨g3, g4⟩ := inB_t hB
    obtain ⟨g5, g6⟩ := inB_t hC
    obtain ⟨g7, g8⟩ := mul_bd g1 g2 g3 g4
    go_enter Try.func21, Try.ntmps21
    go_wp2_with (first | (go_at_call 45; refine (within_any _ _ _ _).mono ?_; rintro e w' ⟨rfl, rfl⟩) | (go_at_call 50; refine (floorDiv_any _ _ _ (by omega) (by omega) (by omega) (by omega)).mono ?_; rintro e w' ⟨rfl, rfl⟩))
    go_ret2
    exact ⟨rfl, rfl⟩
  all_goals
    have hr : mulDivS a b c = (0, 2) := by simp [mulDivS, hA, hB, hC]
    rw [hr]; clear hr
    go_enter Try.func21, Try.ntmps21
    go_wp2_with (first | (go_at_call 45; refine (within_any _ _ _ _).mono ?_; rintro e w' ⟨rfl, rfl⟩))
    go_ret2
    exact ⟨rfl, rfl⟩

theorem spec_MulDiv_any (a b c : Int) (w : World) :
    Calls Try.prog 20 #[.int .i64 a, .int .i64 b, .int .i64 c] w fun e w' => e = two (mulDivS a b c) ∧ w = w' := by
  cases hA : inB a (-1000000000) 1000000000 <;> cases hB : inB b (-1000000000) 1000000000 <;> cases hC : inB c 1 1000000000
  case true.true.true =>
    have hr : mulDivS a b c = (a * b / c, 0) := by simp [mulDivS, hA, hB, hC]
    rw [hr]; clear hr
    obtain ⟨g1, g2⟩ := inB_t hA
    obtain ⟨g3, g4⟩ := inB_t hB
    obtain ⟨g5, g6⟩ := inB_t hC
    obtain ⟨g7, g8⟩ := mul_bd g1 g2 g3 g4
    go_enter Try.func20, Try.ntmps20
    go_wp2_with (first | (go_at_call 43; refine (l01Factor_any _ _).mono ?_; rintro e w' ⟨rfl, rfl⟩) | (go_at_call 48; refine (l01In_any _ _ _ _).mono ?_; rintro e w' ⟨rfl, rfl⟩) | (go_at_call 49; refine (l01Floor_any _ _ _ (by omega) (by omega) (by omega) (by omega)).mono ?_; rintro e w' ⟨rfl, rfl⟩))
    go_ret2
    exact ⟨rfl, rfl⟩
  all_goals
    have hr : mulDivS a b c = (0, 2) := by simp [mulDivS, hA, hB, hC]
    rw [hr]; clear hr
    go_enter Try.func20, Try.ntmps20
    go_wp2_with (first | (go_at_call 43; refine (l01Factor_any _ _).mono ?_; rintro e w' ⟨rfl, rfl⟩) | (go_at_call 48; refine (l01In_any _ _ _ _).mono ?_; rintro e w' ⟨rfl, rfl⟩))
    go_ret2
    exact ⟨rfl, rfl⟩

theorem impl_SignedSquare_any (q : Int) (w : World) :
    Calls Try.prog 17 #[.int .i64 q] w fun e w' => e = two (signedSquareS q) ∧ w = w' := by
  cases hA : inB q (-1000000000) 1000000000
  case true =>
    have hr : signedSquareS q = (q * (q.natAbs : Int), 0) := by simp [signedSquareS, hA]
    rw [hr]; clear hr
    obtain ⟨g1, g2⟩ := inB_t hA
    obtain ⟨g7, g8⟩ := mul_bd (a := q) (b := (q.natAbs : Int)) g1 g2 (by omega) (by omega)
    go_enter Try.func17, Try.ntmps17
    go_wp2_with (first | (go_at_call 45; refine (within_any _ _ _ _).mono ?_; rintro e w' ⟨rfl, rfl⟩) | (go_at_call 46; refine (absOf_any _ _ (by omega) (by omega)).mono ?_; rintro e w' ⟨rfl, rfl⟩))
    go_ret2
    exact ⟨rfl, rfl⟩
  case false =>
    have hr : signedSquareS q = (0, 2) := by simp [signedSquareS, hA]
    rw [hr]; clear hr
    go_enter Try.func17, Try.ntmps17
    go_wp2_with (first | (go_at_call 45; refine (within_any _ _ _ _).mono ?_; rintro e w' ⟨rfl, rfl⟩))
    go_ret2
    exact ⟨rfl, rfl⟩

theorem spec_SignedSquare_any (q : Int) (w : World) :
    Calls Try.prog 16 #[.int .i64 q] w fun e w' => e = two (signedSquareS q) ∧ w = w' := by
  cases hA : inB q (-1000000000) 1000000000
  case true =>
    have hr : signedSquareS q = (q * (q.natAbs : Int), 0) := by simp [signedSquareS, hA]
    rw [hr]; clear hr
    obtain ⟨g1, g2⟩ := inB_t hA
    obtain ⟨g7, g8⟩ := mul_bd (a := q) (b := (q.natAbs : Int)) g1 g2 (by omega) (by omega)
    go_enter Try.func16, Try.ntmps16
    go_wp2_with (first | (go_at_call 43; refine (l01Factor_any _ _).mono ?_; rintro e w' ⟨rfl, rfl⟩) | (go_at_call 44; go_in) | (go_at_call 48; refine (l01In_any _ _ _ _).mono ?_; rintro e w' ⟨rfl, rfl⟩) | (go_at_call 63; refine (l01Abs_any _ _ (by omega) (by omega)).mono ?_; rintro e w' ⟨rfl, rfl⟩))
    go_ret2
    exact ⟨rfl, rfl⟩
  case false =>
    have hr : signedSquareS q = (0, 2) := by simp [signedSquareS, hA]
    rw [hr]; clear hr
    go_enter Try.func16, Try.ntmps16
    go_wp2_with (first | (go_at_call 43; refine (l01Factor_any _ _).mono ?_; rintro e w' ⟨rfl, rfl⟩) | (go_at_call 44; go_in) | (go_at_call 48; refine (l01In_any _ _ _ _).mono ?_; rintro e w' ⟨rfl, rfl⟩))
    go_ret2
    exact ⟨rfl, rfl⟩

end Go.Proofs.Ythbihlbbejcpcaa
