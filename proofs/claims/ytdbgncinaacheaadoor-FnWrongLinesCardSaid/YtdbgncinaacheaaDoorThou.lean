/- ThousandthsText of both sides. -/
import Derived.Test.YtdbgncinaacheaaDoorDeci
import Derived.Lib.ItoaMem
namespace Go.Proofs.YtdbgncinaacheaaDoor
open Go.RowKit

theorem l01Big_any (n : Int) (w : World) :
    Calls Tryd.prog 56 #[.int .i64 n] w fun e w' => e = .returned (.bool (inB n (-1000000000000000000) 1000000000000000000)) ∧ w = w' := by
  go_enter Tryd.func56, Tryd.ntmps56
  go_wp2_with (go_at_call 93; refine (l01In_any _ _ _ _).mono ?_; rintro e w' ⟨rfl, rfl⟩)
  go_ret
  exact ⟨rfl, rfl⟩
theorem bnil (a : ByteArray) : (⟨#[]⟩ : ByteArray) ++ a = a := ByteArray.empty_append
def sgn (n : Int) : ByteArray := if n < 0 then ⟨#[45]⟩ else ⟨#[]⟩
def thS (n : Int) : ByteArray := if inB n (-1000000000000000000) 1000000000000000000 = true then sgn n ++ decS (n.natAbs / 1000) ++ ⟨#[46]⟩ ++ (decS (1000 + n.natAbs % 1000)).extract 1 (decS (1000 + n.natAbs % 1000)).size else ⟨#[]⟩

set_option maxHeartbeats 1000000 in
set_option maxRecDepth 100000 in
theorem spec_ThousandthsText_any (n : Int) (w : World) :
    Calls Tryd.prog 19 #[.int .i64 n] w fun e w' => e = .returned (.string (thS n)) ∧ Below w.heap.size w w' := by
  cases hb : inB n (-1000000000000000000) 1000000000000000000
  · have hr : Hid (thS n = ⟨#[]⟩) := by simp [Hid, thS, hb]
    go_enter Tryd.func19, Tryd.ntmps19
    go_wp2_with (go_at_call 56; refine (l01Big_any _ _).mono ?_; rintro e w' ⟨rfl, rfl⟩)
    go_ret
    rw [hr.out]
    exact ⟨rfl, Below.refl _ _⟩
  obtain ⟨b0, b1⟩ := inB_t hb
  obtain ⟨m, hm⟩ : ∃ m, n.natAbs = m := ⟨_, rfl⟩
  have hr : Hid (thS n = sgn n ++ decS (m / 1000) ++ ⟨#[46]⟩ ++ (decS (1000 + m % 1000)).extract 1 (decS (1000 + m % 1000)).size) := by
    rw [Hid, thS, if_pos hb, hm]
  have hm1 : m ≤ 1000000000000000000 := by omega
  obtain ⟨q, hq⟩ : ∃ q, m / 1000 = q := ⟨_, rfl⟩
  obtain ⟨r, hrr⟩ : ∃ r, m % 1000 = r := ⟨_, rfl⟩
  have hr3 : r < 1000 := by omega
  have hq3 : q ≤ 1000000000000000 := by omega
  have hqI : (m : Int).tdiv 1000 = (q : Int) := by rw [← hq]; rfl
  have hrI : (m : Int).tmod 1000 = (r : Int) := by rw [← hrr]; rfl
  rw [hq, hrr] at hr
  have s1 : IntKind.i64.wrap (q : Int) = q := IntWalk.i64_in _ (by omega)
  have s2 : IntKind.i64.wrap (1000 + (r : Int)) = ((1000 + r : Nat) : Int) := by rw [IntWalk.i64_in _ (by omega)]; omega
  have z1 := decS_sz19 q (by omega)
  have z2 := decS_sz19 (1000 + r) (by omega)
  have z3 : 1 ≤ (decS (1000 + r)).size := by
    rw [decS, if_neg (by omega), ByteArray.size_append, strOne_sz]; omega
  have HM := hid hm
  clear hm hq hrr
  by_cases hn : n < 0
  · have hnm : IntKind.i64.wrap (-n) = (m : Int) := by rw [IntWalk.i64_in _ (by omega)]; have := HM.out; omega
    have hs : Hid (sgn n = ⟨#[45]⟩) := by rw [Hid, sgn, if_pos hn]
    go_enter Tryd.func19, Tryd.ntmps19
    go_wp2_with (go_at_call 56; refine (l01Big_any _ _).mono ?_; rintro e w' ⟨rfl, rfl⟩)
    refine (l01Dec_any (1000 + r) _ (by omega)).mono ?_
    rintro e w1 ⟨rfl, b1⟩
    go_wp2_with fail
    have z4 : ¬ (9223372036854775807 < 1 + (decS q).size) := by omega
    have z5 : ¬ (9223372036854775807 < 1 + (decS q).size + 1) := by omega
    have z6 : ¬ (9223372036854775807 < 1 + (decS q).size + 1 + ((decS (1000 + r)).size - 1)) := by omega
    go_region_with (go_at_call 57; refine (l01Dec_any q _ (by omega)).mono ?_; rintro e w2 ⟨rfl, b2⟩)
    all_goals
      go_wp2_with fail
      go_ret
      rw [hr.out, hs.out]
      exact ⟨rfl, b1.trans ((below_undrew b2).mono b1.size)⟩
  · have hnm : n = (m : Int) := by have := HM.out; omega
    have hs : Hid (sgn n = ⟨#[]⟩) := by rw [Hid, sgn, if_neg hn]
    subst hnm
    go_enter Tryd.func19, Tryd.ntmps19
    go_wp2_with (go_at_call 56; refine (l01Big_any _ _).mono ?_; rintro e w' ⟨rfl, rfl⟩)
    refine (l01Dec_any (1000 + r) _ (by omega)).mono ?_
    rintro e w1 ⟨rfl, b1⟩
    go_wp2_with fail
    have z4 : ¬ (9223372036854775807 < (decS q).size) := by omega
    have z5 : ¬ (9223372036854775807 < (decS q).size + 1) := by omega
    have z6 : ¬ (9223372036854775807 < (decS q).size + 1 + ((decS (1000 + r)).size - 1)) := by omega
    go_region_with (go_at_call 57; refine (l01Dec_any q _ (by omega)).mono ?_; rintro e w2 ⟨rfl, b2⟩)
    all_goals
      go_wp2_with fail
      go_ret
      rw [hr.out, hs.out, bnil]
      exact ⟨rfl, b1.trans ((below_undrew b2).mono b1.size)⟩

def thI (n : Int) : ByteArray := if inB n (-1000000000000000000) 1000000000000000000 = true then sgn n ++ decI (n.natAbs / 1000 : Nat) ++ ⟨#[46]⟩ ++ (⟨#[48, 48, 48]⟩ : ByteArray).extract (decI (n.natAbs % 1000 : Nat)).size 3 ++ decI (n.natAbs % 1000 : Nat) else ⟨#[]⟩
theorem strDigit (d : Nat) (h : d < 10) : strOfNums [48 + (d : Int)] = ⟨#[UInt8.ofNat (48 + d)]⟩ := by
  have : d = 0 ∨ d = 1 ∨ d = 2 ∨ d = 3 ∨ d = 4 ∨ d = 5 ∨ d = 6 ∨ d = 7 ∨ d = 8 ∨ d = 9 := by omega
  rcases this with rfl | rfl | rfl | rfl | rfl | rfl | rfl | rfl | rfl | rfl <;> rfl
theorem decS_eq (n : Nat) : decS n = ⟨(Lib.decDigits n).toArray⟩ := by
  induction n using Nat.strongRecOn with
  | ind n ih =>
    rw [decS, Lib.decDigits]
    by_cases h : n < 10
    · rw [if_pos h, dif_pos h, strDigit n h]
    · rw [if_neg h, dif_neg h, ih (n / 10) (by omega), strDigit (n % 10) (by omega)]
      apply ByteArray.ext
      simp [ByteArray.data_append]
theorem decI_nat (n : Nat) : decI n = decS n := by rw [decI, Lib.itoa_nonneg, decS_eq]
theorem decI_sz19 (n : Nat) (h : n ≤ 9223372036854775807) : (decI n).size ≤ 19 := by rw [decI_nat]; exact decS_sz19 n h
theorem decI_sz3 (n : Nat) (h : n < 1000) : (decI n).size ≤ 3 := by rw [decI_nat]; exact decS_sz 2 n (by omega)
theorem dd4 (r : Nat) (h : r < 1000) : Lib.decDigits (1000 + r) = [49, UInt8.ofNat (48 + r / 100), UInt8.ofNat (48 + r / 10 % 10), UInt8.ofNat (48 + r % 10)] := by
  rw [Lib.decDigits, dif_neg (by omega), Lib.decDigits, dif_neg (by omega), Lib.decDigits, dif_neg (by omega), Lib.decDigits, dif_pos (by omega)]
  have e1 : (1000 + r) / 10 / 10 / 10 = 1 := by omega
  have e2 : (1000 + r) / 10 / 10 % 10 = r / 100 := by omega
  have e3 : (1000 + r) / 10 % 10 = r / 10 % 10 := by omega
  have e4 : (1000 + r) % 10 = r % 10 := by omega
  rw [e1, e2, e3, e4]
  rfl
theorem dd3 (r : Nat) (h : r < 1000) : (⟨#[48, 48, 48]⟩ : ByteArray).extract (decS r).size 3 ++ decS r = ⟨#[UInt8.ofNat (48 + r / 100), UInt8.ofNat (48 + r / 10 % 10), UInt8.ofNat (48 + r % 10)]⟩ := by
  rw [decS_eq]
  by_cases h1 : r < 10
  · have e1 : r / 100 = 0 := by omega
    have e2 : r / 10 % 10 = 0 := by omega
    have e3 : r % 10 = r := by omega
    rw [Lib.decDigits_one h1, e1, e2, e3]
    apply ByteArray.ext
    simp [ByteArray.data_append, ByteArray.data_extract, ByteArray.size]
  · by_cases h2 : r < 100
    · have e1 : r / 100 = 0 := by omega
      have e2 : r / 10 % 10 = r / 10 := by omega
      rw [Lib.decDigits_two h1 h2, e1, e2]
      apply ByteArray.ext
      simp [ByteArray.data_append, ByteArray.data_extract, ByteArray.size]
    · have e0 : Lib.decDigits r = [UInt8.ofNat (48 + r / 100), UInt8.ofNat (48 + r / 10 % 10), UInt8.ofNat (48 + r % 10)] := by
        rw [Lib.decDigits, dif_neg h1, Lib.decDigits, dif_neg (by omega), Lib.decDigits, dif_pos (by omega)]
        have : r / 10 / 10 = r / 100 := by omega
        rw [this]; rfl
      rw [e0]
      apply ByteArray.ext
      simp [ByteArray.size]
theorem dd4' (r : Nat) (h : r < 1000) : (decS (1000 + r)).extract 1 (decS (1000 + r)).size = ⟨#[UInt8.ofNat (48 + r / 100), UInt8.ofNat (48 + r / 10 % 10), UInt8.ofNat (48 + r % 10)]⟩ := by
  rw [decS_eq, dd4 _ h]
  apply ByteArray.ext
  simp [ByteArray.data_extract, ByteArray.size]
theorem thS_eq (n : Int) : thS n = thI n := by
  unfold thS thI
  split
  · rw [dd4' _ (by omega), ← dd3 _ (by omega), decI_nat, decI_nat]
    exact ByteArray.append_assoc.symm
  · rfl

set_option maxHeartbeats 1000000 in
set_option maxRecDepth 100000 in
theorem impl_ThousandthsText_any (n : Int) (w : World) (ht : Tab w) :
    Calls Tryd.prog 20 #[.int .i64 n] w fun e w' => e = .returned (.string (thI n)) ∧ Below w.heap.size w w' := by
  cases hb : inB n (-1000000000000000000) 1000000000000000000
  · have hr : Hid (thI n = ⟨#[]⟩) := by simp [Hid, thI, hb]
    go_enter Tryd.func20, Tryd.ntmps20
    go_wp2_with (go_at_call 58; refine (within_any _ _ _ _).mono ?_; rintro e w' ⟨rfl, rfl⟩)
    go_ret
    rw [hr.out]
    exact ⟨rfl, Below.refl _ _⟩
  obtain ⟨b0, b1⟩ := inB_t hb
  obtain ⟨m, hm⟩ : ∃ m, n.natAbs = m := ⟨_, rfl⟩
  have hr : Hid (thI n = sgn n ++ decI (m / 1000 : Nat) ++ ⟨#[46]⟩ ++ (⟨#[48, 48, 48]⟩ : ByteArray).extract (decI (m % 1000 : Nat)).size 3 ++ decI (m % 1000 : Nat)) := by
    rw [Hid, thI, if_pos hb, hm]
  have hm1 : m ≤ 1000000000000000000 := by omega
  obtain ⟨q, hq⟩ : ∃ q, m / 1000 = q := ⟨_, rfl⟩
  obtain ⟨r, hrr⟩ : ∃ r, m % 1000 = r := ⟨_, rfl⟩
  have hr3 : r < 1000 := by omega
  have hq3 : q ≤ 1000000000000000 := by omega
  have hqI : (m : Int).tdiv 1000 = (q : Int) := by rw [← hq]; rfl
  have hrI : (m : Int).tmod 1000 = (r : Int) := by rw [← hrr]; rfl
  rw [hq, hrr] at hr
  have s1 : IntKind.i64.wrap (q : Int) = q := IntWalk.i64_in _ (by omega)
  have s2 : IntKind.i64.wrap (r : Int) = r := IntWalk.i64_in _ (by omega)
  have z1 := decI_sz19 q (by omega)
  have z2 := decI_sz3 r hr3
  have HM := hid hm
  clear hm hq hrr
  by_cases hn : n < 0
  · have hnm : IntKind.i64.wrap (-n) = (m : Int) := by rw [IntWalk.i64_in _ (by omega)]; have := HM.out; omega
    have hs : Hid (sgn n = ⟨#[45]⟩) := by rw [Hid, sgn, if_pos hn]
    go_enter Tryd.func20, Tryd.ntmps20
    go_wp2_with (go_at_call 58; refine (within_any _ _ _ _).mono ?_; rintro e w' ⟨rfl, rfl⟩)
    refine (decimal_any r _ (by omega) (by omega) ht).mono ?_
    rintro e w1 ⟨rfl, b1⟩
    have ht1 := hid (ht.below b1)
    go_wp2_with fail
    have z4 : ¬ (9223372036854775807 < 1 + (decI q).size) := by omega
    have z5 : ¬ (9223372036854775807 < 1 + (decI q).size + 1) := by omega
    have z7 : ((decI r).size : Int) ≤ 3 := by omega
    have z6 : ¬ (9223372036854775807 < 1 + (decI q).size + 1 + (3 - (decI r).size)) := by omega
    go_region_with (go_at_call 59; refine (decimal_any q _ (by omega) (by omega) (ht1.out.below (Below.refl _ _).drew)).mono ?_; rintro e w2 ⟨rfl, b2⟩)
    all_goals
      go_wp2_with fail
      go_ret
      rw [hr.out, hs.out]
      exact ⟨rfl, b1.trans ((below_undrew b2).mono b1.size)⟩
  · have hnm : n = (m : Int) := by have := HM.out; omega
    have hs : Hid (sgn n = ⟨#[]⟩) := by rw [Hid, sgn, if_neg hn]
    subst hnm
    go_enter Tryd.func20, Tryd.ntmps20
    go_wp2_with (go_at_call 58; refine (within_any _ _ _ _).mono ?_; rintro e w' ⟨rfl, rfl⟩)
    refine (decimal_any r _ (by omega) (by omega) ht).mono ?_
    rintro e w1 ⟨rfl, b1⟩
    have ht1 := hid (ht.below b1)
    go_wp2_with fail
    have z4 : ¬ (9223372036854775807 < (decI q).size) := by omega
    have z5 : ¬ (9223372036854775807 < (decI q).size + 1) := by omega
    have z7 : ((decI r).size : Int) ≤ 3 := by omega
    have z6 : ¬ (9223372036854775807 < (decI q).size + 1 + (3 - (decI r).size)) := by omega
    go_region_with (go_at_call 59; refine (decimal_any q _ (by omega) (by omega) (ht1.out.below (Below.refl _ _).drew)).mono ?_; rintro e w2 ⟨rfl, b2⟩)
    all_goals
      go_wp2_with fail
      go_ret
      rw [hr.out, hs.out, bnil]
      exact ⟨rfl, b1.trans ((below_undrew b2).mono b1.size)⟩



end Go.Proofs.YtdbgncinaacheaaDoor
