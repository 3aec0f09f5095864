/- SharesOf of impl and spec. -/
import Derived.Test.YthbihlbbejcpcaaShareS
namespace Go.Proofs.Ythbihlbbejcpcaa
open Go.RowKit

def sharesS (total : Int) (ws : List Int) : List Int × Int :=
  if inB ws.length 1 64 then (if inB total 0 1000000000 && allB 0 1000000000 ws then (if ws.sum == 0 then ([], 5) else (Sh.shares total ws, 0)) else ([], 2)) else ([], 3)
/-- A fresh slice and a code. -/
def Out (w : World) (p : List Int × Int) (e : Ending) (w' : World) : Prop :=
  ∃ r, e = .returned (.tuple #[r, .int .i64 p.2]) ∧ Slc (fun b => w.heap.size ≤ b ∧ b < w'.heap.size) w' r p.1 ∧ Below w.heap.size w w'
theorem Out.mk_nil (w : World) (c : Int) : Out w ([], c) (.returned (.tuple #[.slice none 0 0, .int .i64 c])) w := ⟨_, rfl, Slc.nil _ _, Below.refl _ _⟩

theorem sharesS_len (total : Int) (ws : List Int) : (sharesS total ws).1.length ≤ 1048576 := by
  unfold sharesS
  split
  · rename_i h
    have := inB_t h
    split
    · split
      · simp
      · simp only [Sh.shares, Sh.iter_len, Sh.sh, List.length_map]; omega
    · simp
  · simp

theorem part_bd {ws : List Int} (h : ∀ x ∈ ws, 0 ≤ x ∧ x ≤ 1000000000) (hl : ws.length ≤ 64) (i : Nat) : 0 ≤ (ws.take i).sum ∧ (ws.take i).sum ≤ 100000000000 := by
  have h1 := Sh.sum_nonneg (ws := ws.take i) (fun x hx => (h x (List.mem_of_mem_take hx)).1)
  have h2 := Sh.sum_le (ws := ws.take i) (fun x hx => (h x (List.mem_of_mem_take hx)).2)
  have h3 : (ws.take i).length ≤ 64 := by simp; omega
  omega

set_option maxHeartbeats 400000 in
theorem impl_SharesOf_any (total : Int) (v : Value) (ws : List Int) (w : World) (h : Ints .i64 w v ws) :
    Calls Try.prog 34 #[.int .i64 total, v] w (Out w (sharesS total ws)) := by
  have HI := hid h
  obtain ⟨hm, a, cap, rfl, hc⟩ := h
  clear hc
  cases hA : inB ws.length 1 64
  · have hr : sharesS total ws = ([], 3) := by simp [sharesS, hA]
    rw [hr]; clear hr
    go_enter Try.func34, Try.ntmps34
    go_wp2_with (go_at_call 45; refine (within_any _ _ _ _).mono ?_; rintro e w' ⟨rfl, rfl⟩)
    go_ret2
    exact Out.mk_nil w 3
  cases hB : inB total 0 1000000000
  · have hr : sharesS total ws = ([], 2) := by simp [sharesS, hA, hB]
    rw [hr]; clear hr
    go_enter Try.func34, Try.ntmps34
    go_wp2_with (go_at_call 45; refine (within_any _ _ _ _).mono ?_; rintro e w' ⟨rfl, rfl⟩)
    go_ret2
    exact Out.mk_nil w 2
  cases hC : allB 0 1000000000 ws
  · have hr : sharesS total ws = ([], 2) := by simp [sharesS, hA, hB, hC]
    rw [hr]; clear hr
    go_enter Try.func34, Try.ntmps34
    go_wp2_with (first | (go_at_call 45; refine (within_any _ _ _ _).mono ?_; rintro e w' ⟨rfl, rfl⟩) | (go_at_call 60; refine (allWithin_any _ ws _ _ _ HI.out).mono ?_; rintro e w' ⟨rfl, rfl⟩))
    go_ret2
    exact Out.mk_nil w 2
  obtain ⟨l1, l2⟩ := inB_t hA
  obtain ⟨t1, t2⟩ := inB_t hB
  have hw := allB_t hC
  cases hD : (ws.sum == 0)
  · have hr : sharesS total ws = (Sh.shares total ws, 0) := by simp [sharesS, hA, hB, hC, hD]
    rw [hr]; clear hr
    have hs : 0 < ws.sum := by
      have h0 := Sh.sum_nonneg (fun x hx => (hw x hx).1)
      have h1 : ws.sum ≠ 0 := by simpa using hD
      omega
    have HW := hid hw
    clear hw
    go_enter Try.func34, Try.ntmps34
    go_wp2_with (first | (go_at_call 45; refine (within_any _ _ _ _).mono ?_; rintro e w' ⟨rfl, rfl⟩) | (go_at_call 60; refine (allWithin_any _ ws _ _ _ HI.out).mono ?_; rintro e w' ⟨rfl, rfl⟩) | (go_at_call 61; refine (sumOf_any _ ws _ HI.out (part_bd HW.out (by omega))).mono ?_; rintro e w' ⟨rfl, rfl⟩))
    refine (sharesOf_any total _ ws w HI.out t1 t2 HW.out (by omega) (by omega) hs).mono ?_
    rintro e w' ⟨r, rfl, hr, hb⟩
    go_wp2_with fail
    go_ret2
    exact ⟨r, rfl, hr, hb⟩
  · have hr : sharesS total ws = ([], 5) := by simp [sharesS, hA, hB, hC, hD]
    rw [hr]; clear hr
    have HW := hid hw
    clear hw
    go_enter Try.func34, Try.ntmps34
    go_wp2_with (first | (go_at_call 45; refine (within_any _ _ _ _).mono ?_; rintro e w' ⟨rfl, rfl⟩) | (go_at_call 60; refine (allWithin_any _ ws _ _ _ HI.out).mono ?_; rintro e w' ⟨rfl, rfl⟩) | (go_at_call 61; refine (sumOf_any _ ws _ HI.out (part_bd HW.out (by omega))).mono ?_; rintro e w' ⟨rfl, rfl⟩))
    go_ret2
    exact Out.mk_nil w 5

set_option maxHeartbeats 400000 in
theorem spec_SharesOf_any (total : Int) (v : Value) (ws : List Int) (w : World) (h : Ints .i64 w v ws) :
    Calls Try.prog 32 #[.int .i64 total, v] w (Out w (sharesS total ws)) := by
  have HI := hid h
  obtain ⟨hm, a, cap, rfl, hc⟩ := h
  have HC := hid hc
  clear hc
  cases hA : inB ws.length 1 64
  · have hr : sharesS total ws = ([], 3) := by simp [sharesS, hA]
    rw [hr]; clear hr
    go_enter Try.func32, Try.ntmps32
    go_wp2_with (go_at_call 48; refine (l01In_any _ _ _ _).mono ?_; rintro e w' ⟨rfl, rfl⟩)
    go_ret2
    exact Out.mk_nil w 3
  obtain ⟨l1, l2⟩ := inB_t hA
  cases hB : inB total 0 1000000000
  · have hr : sharesS total ws = ([], 2) := by simp [sharesS, hA, hB]
    rw [hr]; clear hr
    go_enter Try.func32, Try.ntmps32
    go_wp2_with (go_at_call 48; refine (l01In_any _ _ _ _).mono ?_; rintro e w' ⟨rfl, rfl⟩)
    go_ret2
    exact Out.mk_nil w 2
  obtain ⟨t1, t2⟩ := inB_t hB
  go_enter Try.func32, Try.ntmps32
  go_wp2_with (go_at_call 48; refine (l01In_any _ _ _ _).mono ?_; rintro e w' ⟨rfl, rfl⟩)
  go_loop [6] (fun i => AllRel 0 1000000000 ws i) (fun i => ws.length - (intOf i).toNat)
  case atStart => exact ⟨0, Nat.zero_le _, rfl, fun j _ h => by omega⟩
  case round =>
    obtain ⟨k, hk, rfl, hall⟩ := hrel
    have HA := hid hall
    clear hall
    by_cases hlt : k < ws.length
    · obtain ⟨b, off, rfl, hcc⟩ := HC.out.resolve_left (by intro e; simp [e] at hlt)
      clear HC
      have hcell := hcc k hlt
      clear hcc
      cases hin : inB ws[k] 0 1000000000
      · have HN : Hid (sharesS total ws = ([], 2)) := by have := allB_no k hlt hin; simp [Hid, sharesS, hA, hB, this]
        go_wp2_with (go_at_call 48; refine (l01In_any _ _ _ _).mono ?_; rintro e w' ⟨rfl, rfl⟩)
        go_ret2
        rw [HN.out]
        exact Out.mk_nil w 2
      · have HI2 := hid hin
        go_wp2_with (go_at_call 48; refine (l01In_any _ _ _ _).mono ?_; rintro e w' ⟨rfl, rfl⟩)
        go_round
        case rel =>
          refine ⟨k + 1, by omega, by go_num, fun j hj hjk => ?_⟩
          rcases (by omega : j < k ∨ j = k) with h | rfl
          · exact HA.out j hj h
          · exact HI2.out
        case measure => simp [intOf]; omega
    · have hC : allB 0 1000000000 ws = true := allB_mk (fun i hi => HA.out i hi (by omega))
      have HW := hid (allB_t hC)
      cases hD : (ws.sum == 0)
      · have hr : Hid (sharesS total ws = (Sh.shares total ws, 0)) := by simp [Hid, sharesS, hA, hB, hC, hD]
        have hs : 0 < ws.sum := by
          have h0 := Sh.sum_nonneg (fun x hx => (HW.out x hx).1)
          have h1 : ws.sum ≠ 0 := by simpa using hD
          omega
        clear hC
        go_wp2_with (first | (go_at_call 58; refine (l01Sum_any _ ws _ HI.out (part_bd HW.out (by omega))).mono ?_; rintro e w' ⟨rfl, rfl⟩))
        refine (l01Shares_any total _ ws w HI.out t1 t2 HW.out (by omega) (by omega) hs).mono ?_
        rintro e w' ⟨r, rfl, hr2, hb⟩
        go_wp2_with fail
        go_ret2
        rw [hr.out]
        exact ⟨r, rfl, hr2, hb⟩
      · have hr : Hid (sharesS total ws = ([], 5)) := by simp [Hid, sharesS, hA, hB, hC, hD]
        clear hC
        go_wp2_with (first | (go_at_call 58; refine (l01Sum_any _ ws _ HI.out (part_bd HW.out (by omega))).mono ?_; rintro e w' ⟨rfl, rfl⟩))
        go_ret2
        rw [hr.out]
        exact Out.mk_nil w 5

end Go.Proofs.Ythbihlbbejcpcaa
