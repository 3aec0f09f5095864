/- Names and nodes. -/
import Derived.Test.YtdbgncinaacheaaGreatDoorBase
import Derived.Test.YtdbgncinaacheaaGreatDoorNet
namespace Go.Proofs.YtdbgncinaacheaaGreatDoor
open Go.RowKit

/-- A letter or a digit. -/
def chB (c : Int) : Bool := (decide (97 ≤ c) && decide (c ≤ 122)) || (decide (48 ≤ c) && decide (c ≤ 57))
def nameB (s : ByteArray) : Bool := inB s.size 1 8 && (List.range s.size).all (fun i => chB (s.data.toList.getD i 0).toNat)
theorem chars_all {s : ByteArray} (h : ∀ i (hi : i < s.size), chB (s[i].toNat : Int) = true) : (List.range s.size).all (fun i => chB (s.data.toList.getD i 0).toNat) = true := by
  refine List.all_eq_true.2 fun i hi => ?_
  have hi := List.mem_range.1 hi
  have := h i hi
  have e : s.data.toList.getD i 0 = s[i] := by
    have : i < s.data.toList.length := by simpa using hi
    simp only [List.getD, List.getElem?_eq_getElem this, Option.getD_some]; rfl
  rw [e]; exact this
theorem chars_no {s : ByteArray} (i : Nat) (hi : i < s.size) (h : chB (s[i].toNat : Int) = false) : (List.range s.size).all (fun i => chB (s.data.toList.getD i 0).toNat) = false := by
  cases hb : (List.range s.size).all (fun i => chB (s.data.toList.getD i 0).toNat)
  · rfl
  · have h1 := List.all_eq_true.1 hb i (List.mem_range.2 hi)
    have e : s.data.toList.getD i 0 = s[i] := by
      have : i < s.data.toList.length := by simpa using hi
      simp only [List.getD, List.getElem?_eq_getElem this, Option.getD_some]; rfl
    simp only [e] at h1; rw [h] at h1; cases h1

def NameRel (s : ByteArray) (i : Value) : Prop := ∃ k : Nat, i = .int .i64 k ∧ k ≤ s.size ∧ ∀ j (hj : j < s.size), j < k → chB (s[j].toNat : Int) = true
theorem NameRel.next {s : ByteArray} {k : Nat} (hlt : k < s.size) (h : ∀ j (hj : j < s.size), j < k → chB (s[j].toNat : Int) = true) (hk : chB (s[k].toNat : Int) = true) : ∀ j (hj : j < s.size), j < k + 1 → chB (s[j].toNat : Int) = true := by
  intro j hj hjk
  rcases (by omega : j < k ∨ j = k) with h1 | rfl
  · exact h j hj h1
  · exact hk

theorem chB_f {c : Int} (h : chB c = false) : c < 48 ∨ (57 < c ∧ c < 97) ∨ 122 < c := by
  simp only [chB, Bool.or_eq_false_iff, Bool.and_eq_false_iff, decide_eq_false_iff_not] at h; omega
theorem chB_t {c : Int} (h : chB c = true) : (97 ≤ c ∧ c ≤ 122) ∨ (48 ≤ c ∧ c ≤ 57) := by
  simpa only [chB, Bool.or_eq_true, Bool.and_eq_true, decide_eq_true_eq] using h

set_option maxHeartbeats 400000 in
theorem isName_any (s : ByteArray) (w : World) (hs : s.size ≤ 9223372036854775807) :
    Calls Tryz.prog 21 #[.string s] w fun e w' => e = .returned (.bool (nameB s)) ∧ w = w' := by
  by_cases h1 : s.size < 1
  · have hr : Hid (nameB s = false) := by simp [Hid, nameB, inB_no (n := s.size) (lo := 1) (hi := 8) (by omega)]
    go_enter Tryz.func21, Tryz.ntmps21
    go_wp2
    go_ret
    exact ⟨ret_bool hr.out.symm, rfl⟩
  by_cases h2 : 8 < s.size
  · have hr : Hid (nameB s = false) := by simp [Hid, nameB, inB_no (n := s.size) (lo := 1) (hi := 8) (by omega)]
    go_enter Tryz.func21, Tryz.ntmps21
    go_wp2
    go_ret
    exact ⟨ret_bool hr.out.symm, rfl⟩
  have hin : Hid (nameB s = (List.range s.size).all (fun i => chB (s.data.toList.getD i 0).toNat)) := by simp [Hid, nameB, inB_mk (n := s.size) (lo := 1) (hi := 8) (by omega) (by omega)]
  go_enter Tryz.func21, Tryz.ntmps21
  go_wp2
  go_loop [3] (fun i => NameRel s i) (fun i => s.size - (intOf i).toNat)
  case atStart => exact ⟨0, rfl, by omega, fun j _ h => by omega⟩
  case round =>
    obtain ⟨k, rfl, hk, hall⟩ := hrel
    have HA := hid hall
    clear hall
    by_cases hlt : k < s.size
    · cases hc : chB (s[k].toNat : Int)
      · have hN : Hid (nameB s = false) := by have := chars_no k hlt hc; simp only [Hid]; rw [hin.out, this]
        have HC := hid hc
        clear hc
        have g := chB_f HC.out
        have d0 : (decide (97 ≤ (s[k].toNat : Int)) && decide ((s[k].toNat : Int) ≤ 122)) = false := by rw [← Bool.not_eq_true, Bool.and_eq_true, decide_eq_true_eq, decide_eq_true_eq]; omega
        rcases g with g | ⟨g1, g2⟩ | g
        · have d1 : decide (48 ≤ (s[k].toNat : Int)) = false := decide_eq_false (by omega)
          go_wp2
          all_goals go_ret
          all_goals exact ⟨ret_bool hN.out.symm, rfl⟩
        · have d1 : decide ((s[k].toNat : Int) ≤ 57) = false := decide_eq_false (by omega)
          go_wp2
          all_goals go_ret
          all_goals exact ⟨ret_bool hN.out.symm, rfl⟩
        · have d1 : decide ((s[k].toNat : Int) ≤ 57) = false := decide_eq_false (by omega)
          have d2 : decide ((s[k].toNat : Int) ≤ 122) = false := decide_eq_false (by omega)
          go_wp2
          all_goals go_ret
          all_goals exact ⟨ret_bool hN.out.symm, rfl⟩
      · have HN := hid (NameRel.next hlt HA.out hc)
        have g := chB_t hc
        clear hc
        rcases g with ⟨g1, g2⟩ | ⟨g1, g2⟩
        all_goals
          go_wp2
          go_round
          case rel => exact ⟨k + 1, by go_num, by omega, HN.out⟩
          case measure => simp [intOf]; omega
    · have hN : Hid (nameB s = true) := by simp only [Hid]; rw [hin.out]; exact chars_all (fun i hi => HA.out i hi (by omega))
      go_wp2
      go_ret
      exact ⟨ret_bool hN.out.symm, rfl⟩

set_option maxHeartbeats 400000 in
theorem l02Name_any (s : ByteArray) (w : World) (hs : s.size ≤ 9223372036854775807) :
    Calls Tryz.prog 37 #[.string s] w fun e w' => e = .returned (.bool (nameB s)) ∧ w = w' := by
  go_enter Tryz.func37, Tryz.ntmps37
  go_wp2
  go_loop [3] (fun i => NameRel s i) (fun i => s.size - (intOf i).toNat)
  case atStart => exact ⟨0, rfl, by omega, fun j _ h => by omega⟩
  case round =>
    obtain ⟨k, rfl, hk, hall⟩ := hrel
    have HA := hid hall
    clear hall
    by_cases hlt : k < s.size
    · cases hc : chB (s[k].toNat : Int)
      · have hN : Hid (nameB s = false) := by have := chars_no k hlt hc; rw [Hid, nameB, this, Bool.and_false]
        have HC := hid hc
        clear hc
        have g := chB_f HC.out
        have d0 : (decide (97 ≤ (s[k].toNat : Int)) && decide ((s[k].toNat : Int) ≤ 122)) = false := by rw [← Bool.not_eq_true, Bool.and_eq_true, decide_eq_true_eq, decide_eq_true_eq]; omega
        rcases g with g | ⟨g1, g2⟩ | g
        · have d1 : decide (48 ≤ (s[k].toNat : Int)) = false := decide_eq_false (by omega)
          go_wp2
          all_goals go_ret
          all_goals exact ⟨ret_bool hN.out.symm, rfl⟩
        · have d1 : decide ((s[k].toNat : Int) ≤ 57) = false := decide_eq_false (by omega)
          go_wp2
          all_goals go_ret
          all_goals exact ⟨ret_bool hN.out.symm, rfl⟩
        · have d1 : decide ((s[k].toNat : Int) ≤ 57) = false := decide_eq_false (by omega)
          have d2 : decide ((s[k].toNat : Int) ≤ 122) = false := decide_eq_false (by omega)
          go_wp2
          all_goals go_ret
          all_goals exact ⟨ret_bool hN.out.symm, rfl⟩
      · have HN := hid (NameRel.next hlt HA.out hc)
        have g := chB_t hc
        clear hc
        rcases g with ⟨g1, g2⟩ | ⟨g1, g2⟩
        all_goals
          go_wp2
          go_round
          case rel => exact ⟨k + 1, by go_num, by omega, HN.out⟩
          case measure => simp [intOf]; omega
    · have hN : Hid (nameB s = inB s.size 1 8) := by
        have := chars_all (s := s) (fun i hi => HA.out i hi (by omega)); rw [Hid, nameB, this, Bool.and_true]
      by_cases h1 : s.size < 1
      · have hr : Hid (nameB s = false) := by rw [Hid, hN.out]; exact inB_no (by omega)
        go_wp2
        go_ret
        exact ⟨ret_bool (by first | exact hr.out.symm | (rw [hr.out]; exact decide_eq_false (by omega)) | (rw [hr.out]; exact decide_eq_true (by omega))), rfl⟩
      by_cases h2 : 8 < s.size
      · have hr : Hid (nameB s = false) := by rw [Hid, hN.out]; exact inB_no (by omega)
        go_wp2
        go_ret
        exact ⟨ret_bool (by first | exact hr.out.symm | (rw [hr.out]; exact decide_eq_false (by omega)) | (rw [hr.out]; exact decide_eq_true (by omega))), rfl⟩
      · have hr : Hid (nameB s = true) := by rw [Hid, hN.out]; exact inB_mk (by omega) (by omega)
        go_wp2
        go_ret
        exact ⟨ret_bool (by first | exact hr.out.symm | (rw [hr.out]; exact decide_eq_false (by omega)) | (rw [hr.out]; exact decide_eq_true (by omega))), rfl⟩

/-- What IsNode says. -/
def nodeB (x : Nd) : Bool := nameB x.name && decide (0 ≤ x.low) && decide (x.low ≤ x.high) && decide (x.high ≤ 100000000)

theorem impl_IsNode_any (x : Nd) (w : World) (hs : x.name.size ≤ 9223372036854775807) :
    Calls Tryz.prog 9 #[.agg #[.string x.name, .int .i64 x.low, .int .i64 x.high]] w fun e w' => e = .returned (.bool (nodeB x)) ∧ Below w.heap.size w w' := by
  obtain ⟨s, l, h⟩ := x
  have hN : Hid (nodeB ⟨s, l, h⟩ = (nameB s && decide (0 ≤ l) && decide (l ≤ h) && decide (h ≤ 100000000))) := rfl
  simp only at hs ⊢
  cases hn : nameB s
  · go_enter Tryz.func9, Tryz.ntmps9
    go_wp2_with (go_at_call 21; refine (isName_any _ _ hs).mono ?_; rintro e w' ⟨rfl, rfl⟩)
    go_ret
    exact ⟨ret_bool (by rw [hN.out, hn]; rfl), (Below.refl _ _).alloc (Nat.le_refl _) _⟩
  by_cases h1 : 0 ≤ l
  case neg =>
    have d0 : decide (0 ≤ l) = false := decide_eq_false h1
    go_enter Tryz.func9, Tryz.ntmps9
    go_wp2_with (go_at_call 21; refine (isName_any _ _ hs).mono ?_; rintro e w' ⟨rfl, rfl⟩)
    go_ret
    exact ⟨ret_bool (by rw [hN.out, hn]; simp [d0]), (Below.refl _ _).alloc (Nat.le_refl _) _⟩
  by_cases h2 : l ≤ h
  case neg =>
    have d0 : decide (l ≤ h) = false := decide_eq_false h2
    go_enter Tryz.func9, Tryz.ntmps9
    go_wp2_with (go_at_call 21; refine (isName_any _ _ hs).mono ?_; rintro e w' ⟨rfl, rfl⟩)
    go_ret
    exact ⟨ret_bool (by rw [hN.out, hn]; simp [d0]), (Below.refl _ _).alloc (Nat.le_refl _) _⟩
  by_cases h3 : h ≤ 100000000
  case neg =>
    have d0 : decide (h ≤ 100000000) = false := decide_eq_false h3
    go_enter Tryz.func9, Tryz.ntmps9
    go_wp2_with (go_at_call 21; refine (isName_any _ _ hs).mono ?_; rintro e w' ⟨rfl, rfl⟩)
    go_ret
    exact ⟨ret_bool (by rw [hN.out, hn]; simp [d0]), (Below.refl _ _).alloc (Nat.le_refl _) _⟩
  go_enter Tryz.func9, Tryz.ntmps9
  go_wp2_with (go_at_call 21; refine (isName_any _ _ hs).mono ?_; rintro e w' ⟨rfl, rfl⟩)
  go_ret
  exact ⟨ret_bool (by rw [hN.out, hn]; simp [h1, h2, h3]), (Below.refl _ _).alloc (Nat.le_refl _) _⟩

theorem spec_IsNode_any (x : Nd) (w : World) (hs : x.name.size ≤ 9223372036854775807) :
    Calls Tryz.prog 19 #[.agg #[.string x.name, .int .i64 x.low, .int .i64 x.high]] w fun e w' => e = .returned (.bool (nodeB x)) ∧ Below w.heap.size w w' := by
  obtain ⟨s, l, h⟩ := x
  have hN : Hid (nodeB ⟨s, l, h⟩ = (nameB s && decide (0 ≤ l) && decide (l ≤ h) && decide (h ≤ 100000000))) := rfl
  simp only at hs ⊢
  cases hn : nameB s
  · go_enter Tryz.func19, Tryz.ntmps19
    go_wp2_with (go_at_call 37; refine (l02Name_any _ _ hs).mono ?_; rintro e w' ⟨rfl, rfl⟩)
    go_ret
    exact ⟨ret_bool (by rw [hN.out, hn]; rfl), (Below.refl _ _).alloc (Nat.le_refl _) _⟩
  by_cases h1 : 0 ≤ l
  case neg =>
    have d0 : decide (0 ≤ l) = false := decide_eq_false h1
    go_enter Tryz.func19, Tryz.ntmps19
    go_wp2_with (go_at_call 37; refine (l02Name_any _ _ hs).mono ?_; rintro e w' ⟨rfl, rfl⟩)
    go_ret
    exact ⟨ret_bool (by rw [hN.out, hn]; simp [d0]), (Below.refl _ _).alloc (Nat.le_refl _) _⟩
  by_cases h2 : l ≤ h
  case neg =>
    have d0 : decide (l ≤ h) = false := decide_eq_false h2
    go_enter Tryz.func19, Tryz.ntmps19
    go_wp2_with (go_at_call 37; refine (l02Name_any _ _ hs).mono ?_; rintro e w' ⟨rfl, rfl⟩)
    go_ret
    exact ⟨ret_bool (by rw [hN.out, hn]; simp [d0]), (Below.refl _ _).alloc (Nat.le_refl _) _⟩
  by_cases h3 : h ≤ 100000000
  case neg =>
    have d0 : decide (h ≤ 100000000) = false := decide_eq_false h3
    go_enter Tryz.func19, Tryz.ntmps19
    go_wp2_with (go_at_call 37; refine (l02Name_any _ _ hs).mono ?_; rintro e w' ⟨rfl, rfl⟩)
    go_ret
    exact ⟨ret_bool (by rw [hN.out, hn]; simp [d0]), (Below.refl _ _).alloc (Nat.le_refl _) _⟩
  go_enter Tryz.func19, Tryz.ntmps19
  go_wp2_with (go_at_call 37; refine (l02Name_any _ _ hs).mono ?_; rintro e w' ⟨rfl, rfl⟩)
  go_ret
  exact ⟨ret_bool (by rw [hN.out, hn]; simp [h1, h2, h3]), (Below.refl _ _).alloc (Nat.le_refl _) _⟩

end Go.Proofs.YtdbgncinaacheaaGreatDoor
