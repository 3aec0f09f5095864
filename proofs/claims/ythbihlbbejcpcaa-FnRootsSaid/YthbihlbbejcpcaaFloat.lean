/- The float64 square root of an integer from 0 to 10^18, cut to an integer, is at most 2^31. Plain: no program. -/
import Derived.Laws.FloatArith
namespace Go.Proofs.Ythbihlbbejcpcaa
open Ieee

theorem log2_lt_of {m e : Nat} (h : m.log2 ≤ e) : m < 2 ^ (e + 1) := Nat.lt_of_lt_of_le Nat.lt_log2_self (Nat.pow_le_pow_right (by omega) (by omega))

theorem shl_eq (a b : Nat) : a <<< b = a * 2 ^ b := Nat.shiftLeft_eq a b

/-- A kept significand has at most 53 digits, or is 2^53. -/
theorem cut_le (neg : Bool) (n drop : Nat) (h : n < 2 ^ (drop + 53)) : Toward.even.cut neg n drop ≤ 2 ^ 53 := by
  unfold Toward.cut
  simp only [shl_eq, Nat.one_mul]
  have hb : ∀ b : Bool, b.toNat ≤ 1 := by decide
  have key : n / 2 ^ min drop (n.log2 + 2) < 2 ^ 53 := by
    rcases Nat.le_total drop (n.log2 + 2) with hd | hd
    · rw [Nat.min_eq_left hd]
      refine Nat.div_lt_of_lt_mul ?_
      rw [← Nat.pow_add]; exact h
    · rw [Nat.min_eq_right hd]
      have : n < 2 ^ (n.log2 + 2) := Nat.lt_of_lt_of_le Nat.lt_log2_self (Nat.pow_le_pow_right (by omega) (by omega))
      rw [Nat.div_eq_of_lt this]; decide
  have := hb (decide (2 ^ min drop (n.log2 + 2) < 2 * (n % 2 ^ min drop (n.log2 + 2))) || (2 ^ min drop (n.log2 + 2) == 2 * (n % 2 ^ min drop (n.log2 + 2)) && n / 2 ^ min drop (n.log2 + 2) % 2 == 1))
  omega

theorem d_sw : double.signWeight = 9223372036854775808 := by decide
theorem d_bin : double.binade = 4503599627370496 := by decide
theorem d_inf : double.infRung = 9218868437227405312 := by decide
theorem d_lp : double.leastPlace = -1074 := by decide
theorem d_fb : double.fractionBits = 52 := rfl

theorem read_rung (R : Nat) (E : Nat) (hE : E ≤ 2000) (h : R ≤ E * 4503599627370496) :
    ∃ m p, double.read R = .number false m p ∧ ((m < 2 ^ 52 ∧ p = -1074) ∨ (m < 2 ^ 53 ∧ -1074 ≤ p ∧ p ≤ (E : Int) - 1076) ∨ (m = 2 ^ 52 ∧ p = (E : Int) - 1075)) := by
  have h1 : R / 9223372036854775808 = 0 := Nat.div_eq_of_lt (by omega)
  have h2 : R % 9223372036854775808 = R := Nat.mod_eq_of_lt (by omega)
  unfold Format.read
  simp only [d_sw, d_bin, d_inf, d_lp, h1, h2]
  by_cases c1 : R < 4503599627370496
  · rw [if_pos c1]
    exact ⟨R, _, rfl, Or.inl ⟨by omega, rfl⟩⟩
  · rw [if_neg c1, if_pos (by omega)]
    refine ⟨_, _, rfl, Or.inr ?_⟩
    by_cases c2 : R = E * 4503599627370496
    · right
      subst c2
      refine ⟨by rw [Nat.mul_mod_left], ?_⟩
      rw [Nat.mul_div_cancel _ (by decide)]
      omega
    · left
      refine ⟨by omega, by omega, ?_⟩
      have : R / 4503599627370496 < E := (Nat.div_lt_iff_lt_mul (by decide)).2 (by omega)
      omega

/-- What is written below 2^e is read as at most 2^e. -/
theorem write_read (m : Nat) (p : Int) (e : Int) (he1 : -1000 ≤ e) (he2 : e ≤ 900) (h : m = 0 ∨ (m.log2 : Int) + p < e) :
    ∃ m' p', double.read (double.write (.number false m p)) = .number false m' p' ∧
      ((m' < 2 ^ 52 ∧ p' = -1074) ∨ (m' < 2 ^ 53 ∧ -1074 ≤ p' ∧ p' ≤ e - 53) ∨ (m' = 2 ^ 52 ∧ p' = e - 52)) := by
  have main : double.write (.number false m p) ≤ (e + 1023).toNat * 4503599627370496 := by
    show double.nearest false m p ≤ _
    unfold Format.nearest
    by_cases hm : m = 0
    · rw [if_pos hm]; simp [Format.word]
    · rw [if_neg hm]
      have hl : (m.log2 : Int) + p < e := by exact h.resolve_left hm
      simp only [Format.word, Bool.false_eq_true, if_false, d_fb, d_lp, d_bin]
      refine Nat.le_trans (Nat.min_le_left _ _) ?_
      generalize hlast : max (p + (m.log2 : Int) - (52 : Nat)) (-1074) = last
      have hl1 : last ≤ e - 53 := by omega
      have hl2 : -1074 ≤ last := by omega
      have hl3 : p + (m.log2 : Int) - 52 ≤ last := by omega
      have hk := cut_le false (m <<< (p - last).toNat) (last - p).toNat (by
        rw [shl_eq]
        have a1 : m < 2 ^ (m.log2 + 1) := Nat.lt_log2_self
        have a2 : m * 2 ^ (p - last).toNat < 2 ^ (m.log2 + 1) * 2 ^ (p - last).toNat := Nat.mul_lt_mul_of_pos_right a1 (Nat.two_pow_pos _)
        rw [← Nat.pow_add] at a2
        exact Nat.lt_of_lt_of_le a2 (Nat.pow_le_pow_right (by omega) (by omega)))
      generalize Toward.even.cut false (m <<< (p - last).toNat) (last - p).toNat = kept at *
      have : (2:Nat) ^ 53 = 9007199254740992 := by decide
      omega
  obtain ⟨m', p', h1, h2⟩ := read_rung _ _ (by omega) main
  refine ⟨m', p', h1, ?_⟩
  omega

theorem rootFrom_sq (n : Nat) : ∀ todo root, root * root ≤ n → Datum.rootFrom n todo root * Datum.rootFrom n todo root ≤ n
  | 0, root, h => h
  | todo + 1, root, h => by
    unfold Datum.rootFrom
    simp only
    split
    · exact rootFrom_sq n todo _ ‹_›
    · exact rootFrom_sq n todo _ h

theorem log2_sq {a n : Nat} (ha : a ≠ 0) (h : a * a ≤ n) : 2 * a.log2 ≤ n.log2 := by
  have h1 : 2 ^ a.log2 ≤ a := Nat.log2_self_le ha
  have hn : n ≠ 0 := by intro h0; subst h0; have h2 : a * a = 0 := by omega
                        rcases Nat.mul_eq_zero.1 h2 with h3 | h3 <;> exact ha h3
  rw [Nat.le_log2 hn, Nat.two_mul, Nat.pow_add]
  exact Nat.le_trans (Nat.mul_le_mul h1 h1) h

theorem log2_mul {m : Nat} (hm : m ≠ 0) (k : Nat) : (m * 2 ^ k).log2 = m.log2 + k := by
  have hp := Nat.two_pow_pos k
  have h0 : m * 2 ^ k ≠ 0 := Nat.mul_ne_zero hm (by omega)
  refine (Nat.log2_eq_iff h0).2 ⟨?_, ?_⟩
  · rw [Nat.pow_add]; exact Nat.mul_le_mul_right _ (Nat.log2_self_le hm)
  · rw [show m.log2 + k + 1 = (m.log2 + 1) + k from by omega, Nat.pow_add]
    exact Nat.mul_lt_mul_of_pos_right Nat.lt_log2_self hp

theorem root_lt (dig m : Nat) (i e : Int) (h : m = 0 ∨ (m.log2 : Int) + i ≤ 2 * e) :
    ∃ m' p', (Datum.number false m i).root dig = some (.number false m' p') ∧ (m' = 0 ∨ (m'.log2 : Int) + p' ≤ e) := by
  unfold Datum.root
  by_cases hm : m = 0
  · simp only [hm, if_true]; exact ⟨0, i, rfl, Or.inl rfl⟩
  · have hl : (m.log2 : Int) + i ≤ 2 * e := by exact h.resolve_left hm
    simp only [hm, if_false, Bool.false_eq_true]
    generalize hmore : (2 * dig - m.log2) + ((i - ((2 * dig - m.log2 : Nat) : Int)) % 2).toNat = more
    generalize hn : m <<< more = n
    have hs := rootFrom_sq n (n.log2 / 2 + 1) 0 (by omega)
    generalize Datum.rootFrom n (n.log2 / 2 + 1) 0 = whole at *
    refine ⟨_, _, rfl, Or.inr ?_⟩
    have hln : n.log2 = m.log2 + more := by rw [← hn, shl_eq]; exact log2_mul hm _
    have hb : ∀ b : Bool, b.toNat ≤ 1 := by decide
    have hb' := hb (whole * whole != n)
    generalize (whole * whole != n).toNat = bb at *
    by_cases hw : whole = 0
    · subst hw
      have : (2 * 0 + bb).log2 = 0 := by
        have : bb = 0 ∨ bb = 1 := by omega
        rcases this with h | h <;> subst h <;> decide
      rw [this]; omega
    · have h2 := log2_sq hw hs
      have h3 : (2 * whole + bb).log2 ≤ whole.log2 + 1 := by
        have : 2 * whole + bb < 2 ^ (whole.log2 + 2) := by
          have := Nat.lt_log2_self (n := whole)
          rw [Nat.pow_succ]; omega
        have := (Nat.log2_lt (by omega)).2 this
        omega
      omega

theorem cut_zero_le (m drop E : Nat) (h : m ≤ 2 ^ (drop + E)) : Toward.zero.cut false m drop ≤ 2 ^ E := by
  unfold Toward.cut
  simp only [shl_eq, Nat.one_mul, Bool.toNat_false, Nat.add_zero]
  rcases Nat.le_total drop (m.log2 + 2) with hd | hd
  · rw [Nat.min_eq_left hd]
    refine Nat.div_le_of_le_mul ?_
    rw [← Nat.pow_add]; exact h
  · rw [Nat.min_eq_right hd]
    have : m < 2 ^ (m.log2 + 2) := Nat.lt_of_lt_of_le Nat.lt_log2_self (Nat.pow_le_pow_right (by omega) (by omega))
    rw [Nat.div_eq_of_lt this]; exact Nat.zero_le _

/-- The square root as the program takes it. -/
theorem sqrt_int (n : Int) (h0 : 0 ≤ n) (h1 : n ≤ 1000000000000000000) :
    ∃ b r, FloatKind.f64.format.sqrt (floatOfInt .f64 n) = some b ∧ floatToIntVal .f64 b .i64 = some r ∧ 0 ≤ r ∧ r ≤ 2147483648 := by
  have hfmt : FloatKind.f64.format = double := rfl
  have hn : floatOfInt .f64 n = double.write (.number false n.natAbs 0) := by
    show double.write (.number (decide (n < 0)) n.natAbs 0) = _
    rw [decide_eq_false (by omega)]
  obtain ⟨m1, p1, r1, b1⟩ := write_read n.natAbs 0 60 (by omega) (by omega) (by
    by_cases hz : n.natAbs = 0
    · exact Or.inl hz
    · right
      have : n.natAbs.log2 < 60 := (Nat.log2_lt hz).2 (by have : (2:Nat) ^ 60 = 1152921504606846976 := by decide
                                                          omega)
      omega)
  obtain ⟨m2, p2, r2, b2⟩ := root_lt (double.fractionBits + 2) m1 p1 30 (by
    by_cases hz : m1 = 0
    · exact Or.inl hz
    · right
      rcases b1 with ⟨a, rfl⟩ | ⟨a, _, c⟩ | ⟨a, c⟩
      · have : m1.log2 < 52 := (Nat.log2_lt hz).2 a
        omega
      · have : m1.log2 < 53 := (Nat.log2_lt hz).2 a
        omega
      · have : m1.log2 = 52 := by rw [a]; exact Nat.log2_two_pow
        omega)
  obtain ⟨m3, p3, r3, b3⟩ := write_read m2 p2 31 (by omega) (by omega) (by omega)
  refine ⟨double.write (.number false m2 p2), (Toward.zero.cut false (m3 <<< p3.toNat) (-p3).toNat : Nat), ?_, ?_, by omega, ?_⟩
  · rw [hfmt, hn]; unfold Format.sqrt; rw [r1, r2]; rfl
  · have hcut : Toward.zero.cut false (m3 <<< p3.toNat) (-p3).toNat ≤ 2 ^ 31 := by
      refine cut_zero_le _ _ _ ?_
      have hp : p3.toNat = 0 := by omega
      rw [hp, shl_eq, Nat.pow_zero, Nat.mul_one]
      rcases b3 with ⟨a, rfl⟩ | ⟨a, _, c⟩ | ⟨a, c⟩
      · exact Nat.le_trans (Nat.le_of_lt a) (Nat.pow_le_pow_right (by omega) (by omega))
      · exact Nat.le_trans (Nat.le_of_lt a) (Nat.pow_le_pow_right (by omega) (by omega))
      · rw [a]; exact Nat.pow_le_pow_right (by omega) (by omega)
    have hti : (FloatKind.f64.decode (double.write (.number false m2 p2))).toInt .zero = some ((Toward.zero.cut false (m3 <<< p3.toNat) (-p3).toNat : Nat) : Int) := by
      show ((double.read (double.write (.number false m2 p2)))).toInt .zero = _
      rw [r3]
      simp [Datum.toInt, Datum.integral, Ieee.signed]
    unfold floatToIntVal
    rw [hti]
    generalize Toward.zero.cut false (m3 <<< p3.toNat) (-p3).toNat = c at *
    have e1 : IntKind.i64.min = -9223372036854775808 := by decide
    have e2 : IntKind.i64.max = 9223372036854775807 := by decide
    have : (2:Nat) ^ 31 = 2147483648 := by decide
    simp only [e1, e2]
    rw [if_pos (by omega)]
  · have hcut : Toward.zero.cut false (m3 <<< p3.toNat) (-p3).toNat ≤ 2 ^ 31 := by
      refine cut_zero_le _ _ _ ?_
      have hp : p3.toNat = 0 := by omega
      rw [hp, shl_eq, Nat.pow_zero, Nat.mul_one]
      rcases b3 with ⟨a, rfl⟩ | ⟨a, _, c⟩ | ⟨a, c⟩
      · exact Nat.le_trans (Nat.le_of_lt a) (Nat.pow_le_pow_right (by omega) (by omega))
      · exact Nat.le_trans (Nat.le_of_lt a) (Nat.pow_le_pow_right (by omega) (by omega))
      · rw [a]; exact Nat.pow_le_pow_right (by omega) (by omega)
    have : (2:Nat) ^ 31 = 2147483648 := by decide
    omega

end Go.Proofs.Ythbihlbbejcpcaa
