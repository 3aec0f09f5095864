/- ReadThousandths of both sides. -/
import Derived.Test.YtdbgncinaacheaaGreatDoorThP
import Derived.Test.YtdbgncinaacheaaGreatDoorNumI
namespace Go.Proofs.YtdbgncinaacheaaGreatDoor
open Go.RowKit
open Go.Lib hiding intOf

theorem ext_tb' (s : ByteArray) (a b : Nat) : s.extract a b = tb ((s.data.toList.take b).drop a) := by
  apply data_inj
  rw [tb_data, ByteArray.data_extract, Array.toList_extract]
  rw [List.extract_eq_take_drop, List.drop_take]
theorem cut_len (l : Txt) : (cut l [46]).1.length + (cut l [46]).2.1.length ≤ l.length := by
  by_cases h : (46 : UInt8) ∈ l
  · obtain ⟨a, r, rfl, ha⟩ := mem_cut h
    rw [cut_some ha]; simp
  · rw [cut_none h]; simp

theorem ext0_txt (s : ByteArray) (b : Nat) : (s.extract 0 b).data.toList = s.data.toList.take b := by rw [ext_tb', tb_data]; simp
theorem part_txt (s : ByteArray) (a : Nat) : (⟨#[49]⟩ ++ s.extract a s.size).data.toList = 49 :: s.data.toList.drop a := by
  rw [ext_tb', show (⟨#[49]⟩ : ByteArray) = tb [49] from rfl, tb_app, tb_data, List.take_of_length_le (by rw [Array.length_toList]; exact Nat.le_refl _)]
  rfl

theorem head_45 {s : ByteArray} (h0 : 0 < s.size) (h : s[0] = 45) : ∃ r, s.data.toList = 45 :: r := by
  have h1 : 0 < s.data.toList.length := by rw [Array.length_toList]; exact h0
  have h2 : s.data.toList[0] = 45 := by rw [Array.getElem_toList]; exact h
  cases hl : s.data.toList with
  | nil => rw [hl] at h1; simp at h1
  | cons x r =>
    refine ⟨r, ?_⟩
    have : x = 45 := by simpa [hl] using h2
    rw [this]
theorem no_45 {s : ByteArray} (h : ∀ h0 : 0 < s.size, s[0] ≠ 45) : body s = s.data.toList ∧ neg s = false := by
  unfold body neg
  cases hl : s.data.toList with
  | nil => exact ⟨rfl, rfl⟩
  | cons x r =>
    have h0 : 0 < s.size := by
      have : 0 < s.data.toList.length := by rw [hl]; simp
      rw [Array.length_toList] at this; exact this
    have hx : x ≠ 45 := fun e => by
      refine h h0 ?_
      have h2 : s.data.toList[0]'(by rw [Array.length_toList]; exact h0) = s[0] := by rw [Array.getElem_toList]; rfl
      rw [← h2]; simp [hl, e]
    constructor
    · split
      · next e => simp only [List.cons.injEq] at e; exact absurd e.1 hx
      · rfl
    · split
      · next e => simp only [List.cons.injEq] at e; exact absurd e.1 hx
      · rfl

end Go.Proofs.YtdbgncinaacheaaGreatDoor
