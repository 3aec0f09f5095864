/- ThousandthsText of both sides. -/
import Derived.Test.YtdbgncinaacheaaGreatDoorDeci
import Derived.Lib.ItoaMem
namespace Go.Proofs.YtdbgncinaacheaaGreatDoor
open Go.RowKit

theorem bnil (a : ByteArray) : (⟨#[]⟩ : ByteArray) ++ a = a := ByteArray.empty_append
def sgn (n : Int) : ByteArray := if n < 0 then ⟨#[45]⟩ else ⟨#[]⟩
def thS (n : Int) : ByteArray := if inB n (-1000000000000000000) 1000000000000000000 = true then sgn n ++ decS (n.natAbs / 1000) ++ ⟨#[46]⟩ ++ (decS (1000 + n.natAbs % 1000)).extract 1 (decS (1000 + n.natAbs % 1000)).size else ⟨#[]⟩

def thI (n : Int) : ByteArray := if inB n (-1000000000000000000) 1000000000000000000 = true then sgn n ++ decI (n.natAbs / 1000 : Nat) ++ ⟨#[46]⟩ ++ (⟨#[48, 48, 48]⟩ : ByteArray).extract (decI (n.natAbs % 1000 : Nat)).size 3 ++ decI (n.natAbs % 1000 : Nat) else ⟨#[]⟩
theorem strDigit (d : Nat) (h : d < 10) : strOfNums [48 + (d : Int)] = ⟨#[UInt8.ofNat (48 + d)]⟩ := by
  have : d = 0 ∨ d = 1 ∨ d = 2 ∨ d = 3 ∨ d = 4 ∨ d = 5 ∨ d = 6 ∨ d = 7 ∨ d = 8 ∨ d = 9 := by omega
  rcases this with rfl | rfl | rfl | rfl | rfl | rfl | rfl | rfl | rfl | rfl <;> rfl
theorem decS_eq (n : Nat) : decS n = ⟨(Lib.decDigits n).toArray⟩ := by
  induction n using Nat.strongRecOn with
  | ind n ih =>
    rw [decS, Lib.decDigits]
    by_cases h : n < 10
    · rw [if_pos h, dif_pos h, strDigit n h]
    · rw [if_neg h, dif_neg h, ih (n / 10) (by omega), strDigit (n % 10) (by omega)]
      apply ByteArray.ext
      simp [ByteArray.data_append]
theorem decI_nat (n : Nat) : decI n = decS n := by rw [decI, Lib.itoa_nonneg, decS_eq]
theorem decI_sz19 (n : Nat) (h : n ≤ 9223372036854775807) : (decI n).size ≤ 19 := by rw [decI_nat]; exact decS_sz19 n h
theorem decI_sz3 (n : Nat) (h : n < 1000) : (decI n).size ≤ 3 := by rw [decI_nat]; exact decS_sz 2 n (by omega)
theorem dd4 (r : Nat) (h : r < 1000) : Lib.decDigits (1000 + r) = [49, UInt8.ofNat (48 + r / 100), UInt8.ofNat (48 + r / 10 % 10), UInt8.ofNat (48 + r % 10)] := by
  rw [Lib.decDigits, dif_neg (by omega), Lib.decDigits, dif_neg (by omega), Lib.decDigits, dif_neg (by omega), Lib.decDigits, dif_pos (by omega)]
  have e1 : (1000 + r) / 10 / 10 / 10 = 1 := by omega
  have e2 : (1000 + r) / 10 / 10 % 10 = r / 100 := by omega
  have e3 : (1000 + r) / 10 % 10 = r / 10 % 10 := by omega
  have e4 : (1000 + r) % 10 = r % 10 := by omega
  rw [e1, e2, e3, e4]
  rfl
theorem dd3 (r : Nat) (h : r < 1000) : (⟨#[48, 48, 48]⟩ : ByteArray).extract (decS r).size 3 ++ decS r = ⟨#[UInt8.ofNat (48 + r / 100), UInt8.ofNat (48 + r / 10 % 10), UInt8.ofNat (48 + r % 10)]⟩ := by
  rw [decS_eq]
  by_cases h1 : r < 10
  · have e1 : r / 100 = 0 := by omega
    have e2 : r / 10 % 10 = 0 := by omega
    have e3 : r % 10 = r := by omega
    rw [Lib.decDigits_one h1, e1, e2, e3]
    apply ByteArray.ext
    simp [ByteArray.data_append, ByteArray.data_extract, ByteArray.size]
  · by_cases h2 : r < 100
    · have e1 : r / 100 = 0 := by omega
      have e2 : r / 10 % 10 = r / 10 := by omega
      rw [Lib.decDigits_two h1 h2, e1, e2]
      apply ByteArray.ext
      simp [ByteArray.data_append, ByteArray.data_extract, ByteArray.size]
    · have e0 : Lib.decDigits r = [UInt8.ofNat (48 + r / 100), UInt8.ofNat (48 + r / 10 % 10), UInt8.ofNat (48 + r % 10)] := by
        rw [Lib.decDigits, dif_neg h1, Lib.decDigits, dif_neg (by omega), Lib.decDigits, dif_pos (by omega)]
        have : r / 10 / 10 = r / 100 := by omega
        rw [this]; rfl
      rw [e0]
      apply ByteArray.ext
      simp [ByteArray.size]
theorem dd4' (r : Nat) (h : r < 1000) : (decS (1000 + r)).extract 1 (decS (1000 + r)).size = ⟨#[UInt8.ofNat (48 + r / 100), UInt8.ofNat (48 + r / 10 % 10), UInt8.ofNat (48 + r % 10)]⟩ := by
  rw [decS_eq, dd4 _ h]
  apply ByteArray.ext
  simp [ByteArray.data_extract, ByteArray.size]
theorem thS_eq (n : Int) : thS n = thI n := by
  unfold thS thI
  split
  · rw [dd4' _ (by omega), ← dd3 _ (by omega), decI_nat, decI_nat]
    exact ByteArray.append_assoc.symm
  · rfl

end Go.Proofs.YtdbgncinaacheaaGreatDoor
