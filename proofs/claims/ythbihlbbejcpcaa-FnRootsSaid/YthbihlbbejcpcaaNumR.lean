/- Roots: rootOf (impl) and l01Root (spec) return the integer root. -/
import Derived.Test.YthbihlbbejcpcaaNumA
import Derived.Test.YthbihlbbejcpcaaFloat
import Derived.WalkLawsBesides
namespace Go.Proofs.Ythbihlbbejcpcaa
open Go.RowKit

/-- The integer root. -/
def isq : Nat → Nat
  | 0 => 0
  | n + 1 => if (isq n + 1) * (isq n + 1) ≤ n + 1 then isq n + 1 else isq n
theorem isq_spec (n : Nat) : isq n * isq n ≤ n ∧ n < (isq n + 1) * (isq n + 1) := by
  induction n with
  | zero => simp [isq]
  | succ n ih =>
    unfold isq
    split
    · refine ⟨‹_›, ?_⟩
      have : (isq n + 1 + 1) * (isq n + 1 + 1) = (isq n + 1) * (isq n + 1) + 2 * (isq n + 1) + 1 := by
        rw [Nat.add_mul, Nat.mul_add]; omega
      omega
    · omega
def root (n : Int) : Int := (isq n.toNat : Int)
theorem sq_lt {a b : Int} (ha : 0 ≤ a) (h : a * a < b * b) (hb : 0 ≤ b) : a < b := by
  rcases (by omega : a < b ∨ b ≤ a) with h1 | h1
  · exact h1
  · have := Int.mul_le_mul h1 h1 hb ha; omega
theorem sq_exp (r : Int) : (r + 1) * (r + 1) = r * r + 2 * r + 1 := by rw [Int.add_mul, Int.mul_add]; omega
theorem root_sq (n : Int) (h : 0 ≤ n) : 0 ≤ root n ∧ root n * root n ≤ n ∧ n < (root n + 1) * (root n + 1) := by
  have := isq_spec n.toNat
  unfold root
  refine ⟨by omega, ?_, ?_⟩
  · have h1 : ((isq n.toNat * isq n.toNat : Nat) : Int) ≤ n := by omega
    simpa using h1
  · have h1 : n < (((isq n.toNat + 1) * (isq n.toNat + 1) : Nat) : Int) := by omega
    simpa using h1
theorem root_uniq (n r : Int) (h0 : 0 ≤ r) (h1 : r * r ≤ n) (h2 : n < (r + 1) * (r + 1)) : root n = r := by
  have hn : 0 ≤ n := Int.le_trans (Int.mul_nonneg h0 h0) h1
  obtain ⟨g0, g1, g2⟩ := root_sq n hn
  have a := sq_lt g0 (Int.lt_of_le_of_lt g1 h2) (by omega)
  have b := sq_lt h0 (Int.lt_of_le_of_lt h1 g2) (by omega)
  omega
theorem le_sq {r b : Int} (hb : 0 ≤ b) (h : r * r ≤ b * b) : r ≤ b := by
  rcases (by omega : b < r ∨ r ≤ b) with h1 | h1
  · have : b * b < r * r := Int.mul_self_lt_mul_self hb h1
    omega
  · exact h1
theorem sq_bd {r : Int} (h0 : 0 ≤ r) (h : r ≤ 2147483648) : 0 ≤ r * r ∧ r * r ≤ 4611686018427387904 :=
  ⟨Int.mul_nonneg h0 h0, by have := Int.mul_le_mul h h h0 (by decide); omega⟩

theorem run_sqrt (w : World) (x b : Nat) (h : FloatKind.f64.format.sqrt x = some b) :
    (callFunc 67 #[.float .f64 x]).run Try.prog w = .ok (.value (.float .f64 b)) w := by
  rw [run_callFunc_extern (e := Extern.MathSqrt.sqrt) Try.func67 (by kernel_rfl) (by kernel_rfl) (by kernel_rfl) (by kernel_rfl)]
  have e : Extern.MathSqrt.sqrt #[.float .f64 x] = (match FloatKind.f64.format.sqrt x with
    | some r => pure (.float .f64 r)
    | none => do pure (.float .f64 (← choose (.nanBits .f64 x x)))) := rfl
  rw [e, h]
  rfl

set_option maxHeartbeats 400000 in
theorem rootOf_any (n : Int) (w : World) (h0 : 0 ≤ n) (h1 : n ≤ 1000000000000000000) :
    Calls Try.prog 56 #[.int .i64 n] w fun e w' => e = .returned (.int .i64 (root n)) ∧ w = w' := by
  obtain ⟨b, r, hs, hi, hr0, hr1⟩ := sqrt_int n h0 h1
  have hq := run_sqrt w _ _ hs
  have hcv := run_convert_float_int (P := Try.prog) w 56 2 .f64 .i64 b r (by kernel_rfl) Try.underlying2 hi
  clear hs hi
  go_enter Try.func56, Try.ntmps56
  go_wp2
  clear hq hcv
  go_loop [3] (fun t => ∃ r : Int, 0 ≤ r ∧ r ≤ 2147483648 ∧ t = .int .i64 r) (fun t => (intOf t).toNat)
  case atStart => exact ⟨r, hr0, hr1, rfl⟩
  case round =>
    clear hr0 hr1
    obtain ⟨r, hr0, hr1, rfl⟩ := hrel
    obtain ⟨s0, s1⟩ := sq_bd hr0 hr1
    by_cases hc : n < r * r
    · have hp : 1 ≤ r := by
        rcases (by omega : r = 0 ∨ 1 ≤ r) with e | e
        · subst e; omega
        · exact e
      go_wp2
      go_round
      case rel => exact ⟨r - 1, by omega, by omega, rfl⟩
      case measure => simp [intOf]; omega
    · have hrle : r ≤ 1000000000 := le_sq (by omega) (by omega)
      go_wp2
      clear s0 s1
      go_loop [3] (fun t => ∃ r : Int, 0 ≤ r ∧ r * r ≤ n ∧ t = .int .i64 r) (fun t => (1000000000 - intOf t).toNat)
      case atStart => exact ⟨r, hr0, by omega, rfl⟩
      case round =>
        clear hr0 hr1 hc hrle
        obtain ⟨r, hr0, hr1, rfl⟩ := hrel
        have hrle : r ≤ 1000000000 := le_sq (by omega) (by omega)
        obtain ⟨s0, s1⟩ := sq_bd (r := r + 1) (by omega) (by omega)
        by_cases hc : (r + 1) * (r + 1) ≤ n
        · have hle2 : r + 1 ≤ 1000000000 := le_sq (by omega) (by omega)
          go_wp2
          go_round
          case rel => exact ⟨r + 1, by omega, by omega, rfl⟩
          case measure => simp [intOf]; omega
        · have hu := hid (root_uniq n r hr0 hr1 (by omega))
          go_wp2
          go_ret
          exact ⟨ret_int hu.out.symm, rfl⟩

set_option maxHeartbeats 400000 in
theorem l01Root_any (n : Int) (w : World) (h0 : 0 ≤ n) (h1 : n ≤ 1000000000000000000) :
    Calls Try.prog 55 #[.int .i64 n] w fun e w' => e = .returned (.int .i64 (root n)) ∧ w = w' := by
  go_enter Try.func55, Try.ntmps55
  go_wp2
  go_loop [3, 4] (fun t u => ∃ l h : Int, 0 ≤ l ∧ l ≤ h ∧ h ≤ 1000000000 ∧ l * l ≤ n ∧ n < (h + 1) * (h + 1) ∧ t = .int .i64 l ∧ u = .int .i64 h) (fun t u => (intOf u - intOf t).toNat)
  case atStart => exact ⟨0, 1000000000, by omega, by omega, by omega, by omega, by omega, rfl, rfl⟩
  case round =>
    obtain ⟨l, h, l0, l1, l2, l3, l4, rfl, rfl⟩ := hrel
    by_cases hc : l < h
    · obtain ⟨m, hm⟩ : ∃ m, m = (l + h + 1) / 2 := ⟨_, rfl⟩
      have m1 : l < m := by omega
      have m2 : m ≤ h := by omega
      obtain ⟨s0, s1⟩ := sq_bd (r := m) (by omega) (by omega)
      have HM := hid hm
      have hc2 : m * m ≤ n ∨ n < m * m := by omega
      rw [hm] at hc2 s0 s1
      rcases hc2 with hc2 | hc2
      · clear hm
        go_wp2
        go_round
        case rel => exact ⟨m, h, by omega, by omega, by omega, by rw [HM.out]; exact hc2, l4, by rw [HM.out], rfl⟩
        case measure => simp [intOf]; have := HM.out; omega
      · clear hm
        go_wp2
        go_round
        case rel => exact ⟨l, m - 1, by omega, by omega, by omega, l3, by rw [show m - 1 + 1 = m from by omega, HM.out]; exact hc2, rfl, by rw [HM.out]⟩
        case measure => simp [intOf]; have := HM.out; omega
    · have e : h = l := by omega
      subst e
      have hu := hid (root_uniq n h l0 l3 l4)
      go_wp2
      go_ret
      exact ⟨ret_int hu.out.symm, rfl⟩

def rootS (n : Int) : Int × Int := if inB n 0 1000000000000000000 then (root n, 0) else (0, 2)
def sroot (x : Int) : Int := if x < 0 then -root (-x) else root x
def signedRootS (x : Int) : Int × Int := if inB x (-1000000000000000000) 1000000000000000000 then (sroot x, 0) else (0, 2)
theorem root_bd {n : Int} (h0 : 0 ≤ n) (h1 : n ≤ 1000000000000000000) : 0 ≤ root n ∧ root n ≤ 1000000000 := by
  obtain ⟨a, b, _⟩ := root_sq n h0
  exact ⟨a, le_sq (by omega) (by omega)⟩

theorem impl_RootOf_any (n : Int) (w : World) :
    Calls Try.prog 29 #[.int .i64 n] w fun e w' => e = two (rootS n) ∧ w = w' := by
  cases hA : inB n 0 1000000000000000000
  case true =>
    have hr : rootS n = (root n, 0) := by simp [rootS, hA]
    rw [hr]; clear hr
    obtain ⟨g1, g2⟩ := inB_t hA
    go_enter Try.func29, Try.ntmps29
    go_wp2_with (first | (go_at_call 45; refine (within_any _ _ _ _).mono ?_; rintro e w' ⟨rfl, rfl⟩) | (go_at_call 56; refine (rootOf_any _ _ (by omega) (by omega)).mono ?_; rintro e w' ⟨rfl, rfl⟩))
    go_ret2
    exact ⟨rfl, rfl⟩
  case false =>
    have hr : rootS n = (0, 2) := by simp [rootS, hA]
    rw [hr]; clear hr
    go_enter Try.func29, Try.ntmps29
    go_wp2_with (first | (go_at_call 45; refine (within_any _ _ _ _).mono ?_; rintro e w' ⟨rfl, rfl⟩))
    go_ret2
    exact ⟨rfl, rfl⟩

theorem spec_RootOf_any (n : Int) (w : World) :
    Calls Try.prog 28 #[.int .i64 n] w fun e w' => e = two (rootS n) ∧ w = w' := by
  cases hA : inB n 0 1000000000000000000
  case true =>
    have hr : rootS n = (root n, 0) := by simp [rootS, hA]
    rw [hr]; clear hr
    obtain ⟨g1, g2⟩ := inB_t hA
    go_enter Try.func28, Try.ntmps28
    go_wp2_with (first | (go_at_call 48; refine (l01In_any _ _ _ _).mono ?_; rintro e w' ⟨rfl, rfl⟩) | (go_at_call 55; refine (l01Root_any _ _ (by omega) (by omega)).mono ?_; rintro e w' ⟨rfl, rfl⟩))
    go_ret2
    exact ⟨rfl, rfl⟩
  case false =>
    have hr : rootS n = (0, 2) := by simp [rootS, hA]
    rw [hr]; clear hr
    go_enter Try.func28, Try.ntmps28
    go_wp2_with (first | (go_at_call 48; refine (l01In_any _ _ _ _).mono ?_; rintro e w' ⟨rfl, rfl⟩))
    go_ret2
    exact ⟨rfl, rfl⟩

theorem l01SignedRoot_any (x : Int) (w : World) (h1 : -1000000000000000000 ≤ x) (h2 : x ≤ 1000000000000000000) :
    Calls Try.prog 57 #[.int .i64 x] w fun e w' => e = .returned (.int .i64 (sroot x)) ∧ w = w' := by
  by_cases hx : x < 0
  · have hr : sroot x = -root (-x) := by simp [sroot, hx]
    rw [hr]; clear hr
    obtain ⟨b1, b2⟩ := root_bd (n := -x) (by omega) (by omega)
    go_enter Try.func57, Try.ntmps57
    go_wp2_with (first | (go_at_call 55; refine (l01Root_any _ _ (by omega) (by omega)).mono ?_; rintro e w' ⟨rfl, rfl⟩))
    go_ret
    exact ⟨rfl, rfl⟩
  · have hr : sroot x = root x := by simp [sroot, hx]
    rw [hr]; clear hr
    go_enter Try.func57, Try.ntmps57
    go_wp2_with (first | (go_at_call 55; refine (l01Root_any _ _ (by omega) (by omega)).mono ?_; rintro e w' ⟨rfl, rfl⟩))
    go_ret
    exact ⟨rfl, rfl⟩

theorem impl_SignedRoot_any (x : Int) (w : World) :
    Calls Try.prog 31 #[.int .i64 x] w fun e w' => e = two (signedRootS x) ∧ w = w' := by
  cases hA : inB x (-1000000000000000000) 1000000000000000000
  case true =>
    have hr : signedRootS x = (sroot x, 0) := by simp [signedRootS, hA]
    rw [hr]; clear hr
    obtain ⟨g1, g2⟩ := inB_t hA
    by_cases hx : x < 0
    · have hr : Hid (sroot x = -root (-x)) := by simp [sroot, hx, Hid]
      obtain ⟨b1, b2⟩ := root_bd (n := -x) (by omega) (by omega)
      go_enter Try.func31, Try.ntmps31
      go_wp2_with (first | (go_at_call 45; refine (within_any _ _ _ _).mono ?_; rintro e w' ⟨rfl, rfl⟩) | (go_at_call 56; refine (rootOf_any _ _ (by omega) (by omega)).mono ?_; rintro e w' ⟨rfl, rfl⟩))
      go_ret2
      first | exact ⟨rfl, rfl⟩ | (rw [hr.out]; exact ⟨rfl, rfl⟩)
    · have hr : Hid (sroot x = root x) := by simp [sroot, hx, Hid]
      go_enter Try.func31, Try.ntmps31
      go_wp2_with (first | (go_at_call 45; refine (within_any _ _ _ _).mono ?_; rintro e w' ⟨rfl, rfl⟩) | (go_at_call 56; refine (rootOf_any _ _ (by omega) (by omega)).mono ?_; rintro e w' ⟨rfl, rfl⟩))
      go_ret2
      first | exact ⟨rfl, rfl⟩ | (rw [hr.out]; exact ⟨rfl, rfl⟩)
  case false =>
    have hr : signedRootS x = (0, 2) := by simp [signedRootS, hA]
    rw [hr]; clear hr
    go_enter Try.func31, Try.ntmps31
    go_wp2_with (first | (go_at_call 45; refine (within_any _ _ _ _).mono ?_; rintro e w' ⟨rfl, rfl⟩))
    go_ret2
    exact ⟨rfl, rfl⟩

theorem spec_SignedRoot_any (x : Int) (w : World) :
    Calls Try.prog 30 #[.int .i64 x] w fun e w' => e = two (signedRootS x) ∧ w = w' := by
  cases hA : inB x (-1000000000000000000) 1000000000000000000
  case true =>
    have hr : signedRootS x = (sroot x, 0) := by simp [signedRootS, hA]
    rw [hr]; clear hr
    obtain ⟨g1, g2⟩ := inB_t hA
    by_cases hx : x < 0
    · have hr : Hid (sroot x = -root (-x)) := by simp [sroot, hx, Hid]
      obtain ⟨b1, b2⟩ := root_bd (n := -x) (by omega) (by omega)
      go_enter Try.func30, Try.ntmps30
      go_wp2_with (first | (go_at_call 47; refine (l01Big_any _ _).mono ?_; rintro e w' ⟨rfl, rfl⟩) | (go_at_call 57; refine (l01SignedRoot_any _ _ (by omega) (by omega)).mono ?_; rintro e w' ⟨rfl, rfl⟩))
      go_ret2
      first | exact ⟨rfl, rfl⟩ | (rw [hr.out]; exact ⟨rfl, rfl⟩)
    · have hr : Hid (sroot x = root x) := by simp [sroot, hx, Hid]
      go_enter Try.func30, Try.ntmps30
      go_wp2_with (first | (go_at_call 47; refine (l01Big_any _ _).mono ?_; rintro e w' ⟨rfl, rfl⟩) | (go_at_call 57; refine (l01SignedRoot_any _ _ (by omega) (by omega)).mono ?_; rintro e w' ⟨rfl, rfl⟩))
      go_ret2
      first | exact ⟨rfl, rfl⟩ | (rw [hr.out]; exact ⟨rfl, rfl⟩)
  case false =>
    have hr : signedRootS x = (0, 2) := by simp [signedRootS, hA]
    rw [hr]; clear hr
    go_enter Try.func30, Try.ntmps30
    go_wp2_with (first | (go_at_call 47; refine (l01Big_any _ _).mono ?_; rintro e w' ⟨rfl, rfl⟩))
    go_ret2
    exact ⟨rfl, rfl⟩

end Go.Proofs.Ythbihlbbejcpcaa
