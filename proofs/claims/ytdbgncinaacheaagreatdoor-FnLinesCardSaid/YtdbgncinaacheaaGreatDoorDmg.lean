/- The drawing functions of texts: l01Damage, and what draws texts of numbers. -/
import Derived.Test.YtdbgncinaacheaaGreatDoorDrW
import Derived.Test.YtdbgncinaacheaaGreatDoorRdTh
import Derived.Deep.RegionWith
namespace Go.Proofs.YtdbgncinaacheaaGreatDoor
open Go.RowKit
open Go.Lib hiding intOf

theorem vals_at' (w : World) (L : List Value) (T : TypeId) (q : Int) (q0 : 0 ≤ q) (hq : q < L.length) : ∃ z, (w.alloc (.cells L.toArray T)).cell? ⟨w.heap.size, q.toNat, none⟩ = some z ∧ z ∈ L := by
  have hi : q.toNat < L.length := by omega
  refine ⟨L[q.toNat], ?_, List.getElem_mem hi⟩
  rw [World.cell?_alloc_new]
  simp [hi]
theorem strs8_mem {z : Value} (h : z ∈ [Value.string ⟨#[48]⟩, .string ⟨#[49]⟩, .string ⟨#[32]⟩, .string ⟨#[46]⟩, .string ⟨#[45]⟩, .string ⟨#[97]⟩, .string ⟨#[47]⟩, .string ⟨#[10]⟩]) : ∃ b : ByteArray, z = .string b ∧ b.size = 1 := by
  simp only [List.mem_cons, List.not_mem_nil, or_false] at h
  rcases h with rfl | rfl | rfl | rfl | rfl | rfl | rfl | rfl <;> exact ⟨_, rfl, rfl⟩

set_option maxHeartbeats 2000000 in
set_option maxRecDepth 100000 in
theorem l01Damage_any (s : Nat) (t : ByteArray) (w : World) (ht : t.size ≤ 1000000) (h : Src 70 w s) :
    Calls Tryz.prog 30 #[.pointer (some ⟨s, 0, none⟩), .string t] w fun e w' =>
      ∃ u : ByteArray, e = .returned (.string u) ∧ u.size ≤ t.size + 1 ∧ Src 70 w' s ∧ Kept (· = s) w w' := by
  have hlt := h.lt
  go_enter Tryz.func30, Tryz.ntmps30
  go_wp2_with fail
  refine (l01Next_gen s ((t.size : Int) + 1) _ (by omega) h).mono ?_
  rintro e w1 ⟨k, rfl, k0, k1, hs1, hk1⟩
  obtain ⟨k, rfl⟩ : ∃ K : Nat, k = K := ⟨k.toNat, by omega⟩
  have hk : k ≤ t.size := by omega
  go_wp2_with fail
  refine (l01Next_any s 8 _ (by omega) (by omega) hs1).mono ?_
  rintro e w2 ⟨q, rfl, q0, q1, hs2, hk2⟩
  have hlt2 := hs2.lt
  have HK := hid (hk1.trans hk2)
  have HS := hid hs2
  obtain ⟨A, hA⟩ : ∃ A, t.extract 0 k = A := ⟨_, rfl⟩
  obtain ⟨B, hB⟩ : ∃ B, t.extract k t.size = B := ⟨_, rfl⟩
  have zA : A.size = k := by rw [← hA, ByteArray.size_extract]; omega
  have zB : B.size = t.size - k := by rw [← hB, ByteArray.size_extract]; omega
  have hsn := hlt
  clear hk1 hk2 hs1 h k0 k1 hlt
  by_cases c0 : q = 0
  · subst c0
    have HZ : Hid (A.size ≤ t.size + 1) := by rw [Hid]; omega
    clear zA zB hB
    go_wp2_with fail
    go_ret
    exact ⟨_, rfl, HZ.out, HS.out, HK.out⟩
  by_cases c1 : q = 1
  · subst c1
    have n0 : ((1 : Int) == 0) = false := rfl
    have z1 : ¬ (9223372036854775807 < A.size + 1) := by omega
    have z2 : ¬ (9223372036854775807 < A.size + 1 + B.size) := by omega
    have HZ : Hid (∀ zb : ByteArray, zb.size = 1 → (A ++ zb ++ B).size ≤ t.size + 1) := fun zb hz => by rw [ByteArray.size_append, ByteArray.size_append]; omega
    clear zA zB c0 q0 q1
    go_wp2_with fail
    go_region_with (first
      | (go_at_call 29; refine (l01Next_any s 8 _ (by omega) (by omega) (HS.out.alloc _).drew).mono ?_; rintro e w4 ⟨p, rfl, p0, p1, hs4, hk4⟩; obtain ⟨z, hz', hzm⟩ := vals_at' w2 [Value.string ⟨#[48]⟩, .string ⟨#[49]⟩, .string ⟨#[32]⟩, .string ⟨#[46]⟩, .string ⟨#[45]⟩, .string ⟨#[97]⟩, .string ⟨#[47]⟩, .string ⟨#[10]⟩] 9 p p0 p1; have hz := hk4.cell (World.cell?_of_block (w := w2.alloc _) rfl |>.trans hz') (by simp only; omega); have HK4 := hid (HK.out.trans (((Kept.refl _ w2).alloc _).trans hk4.undrew)); clear hz' hk4; obtain ⟨zb, rfl, hzb⟩ := strs8_mem hzm; clear hzm)
      | (go_at_call 29; refine (l01Next_any s 8 _ (by omega) (by omega) HS.out.drew).mono ?_; rintro e w4 ⟨p, rfl, p0, p1, hs4, hk4⟩; obtain ⟨z, hz, hzm⟩ := vals_at' w4 [Value.string ⟨#[48]⟩, .string ⟨#[49]⟩, .string ⟨#[32]⟩, .string ⟨#[46]⟩, .string ⟨#[45]⟩, .string ⟨#[97]⟩, .string ⟨#[47]⟩, .string ⟨#[10]⟩] 9 p p0 p1; have HK4 := hid (HK.out.trans hk4.undrew); clear hk4; obtain ⟨zb, rfl, hzb⟩ := strs8_mem hzm; clear hzm))
    all_goals
      go_wp2_with fail
      go_ret
      first
        | exact ⟨_, rfl, HZ.out _ hzb, hs4, HK4.out⟩
        | exact ⟨_, rfl, HZ.out _ hzb, hs4.alloc _, HK4.out.alloc _⟩
  by_cases c2 : q = 2
  · subst c2
    by_cases hkl : k < t.size
    · obtain ⟨D, hD⟩ : ∃ D, t.extract (k + 1) t.size = D := ⟨_, rfl⟩
      have zD : D.size = t.size - (k + 1) := by rw [← hD, ByteArray.size_extract]; omega
      have HZ : Hid ((A ++ D).size ≤ t.size + 1) := by rw [Hid, ByteArray.size_append]; omega
      have z1 : ¬ (9223372036854775807 < A.size + D.size) := by omega
      have hklI : (k : Int) < (t.size : Int) := by omega
      clear zA zB zD c0 c1
      go_wp2_with fail
      go_region
      all_goals
        go_wp2_with fail
        go_ret
        exact ⟨_, rfl, HZ.out, HS.out.drew, HK.out.drew⟩
    · have hklI : ¬ ((k : Int) < (t.size : Int)) := by omega
      clear zA zB c0 c1
      go_wp2_with fail
      go_ret
      exact ⟨_, rfl, by omega, HS.out, HK.out⟩
  · clear zA zB
    have d0 : (q == 0) = false := beq_false_of_ne c0
    have d1 : (q == 1) = false := beq_false_of_ne c1
    have d2 : (q == 2) = false := beq_false_of_ne c2
    go_wp2_with fail
    go_ret
    exact ⟨_, rfl, by omega, HS.out, HK.out⟩

theorem thS_size (n : Int) : (thS n).size ≤ 40 := by
  by_cases h : inT n
  · have hl : (thS n).data.toList.length = (thS n).size := Array.length_toList ..
    rw [← hl, thS_txt h]
    have hb := inT_b h
    have h1 : (decDigits (n.natAbs / 1000)).length ≤ 16 := by rw [decDigits_length]; exact nDigits_le (k := 15) (by omega)
    have h2 : (sg n).length ≤ 1 := by unfold sg; split <;> simp
    have h3 : (d3 (n.natAbs % 1000)).length = 3 := rfl
    simp only [List.length_append, List.length_cons]
    omega
  · rw [thS_out h]; decide

end Go.Proofs.YtdbgncinaacheaaGreatDoor
