/- Walks of the functions that share a total. -/
import Derived.Test.YthbihlbbejcpcaaOwn
import Derived.Test.YthbihlbbejcpcaaShare
import Derived.Deep.DeepCutAuto
namespace Go.Proofs.Ythbihlbbejcpcaa
open Go.RowKit

theorem sumOf_any (v : Value) (zs : List Int) (w : World) (h : Ints .i64 w v zs) (hb : ∀ i, 0 ≤ (zs.take i).sum ∧ (zs.take i).sum ≤ 100000000000) :
    Calls Try.prog 61 #[v] w fun e w' => e = .returned (.int .i64 zs.sum) ∧ w = w' := by
  obtain ⟨hm, a, cap, rfl, hc⟩ := h
  have HB := hid hb
  have HC := hid hc
  clear hb hc
  go_enter Try.func61, Try.ntmps61
  go_wp2
  go_loop [3, 8] (fun s i => ∃ k : Nat, k ≤ zs.length ∧ i = .int .i64 k ∧ s = .int .i64 (zs.take k).sum) (fun _ i => zs.length - (intOf i).toNat)
  case atStart => exact ⟨0, Nat.zero_le _, rfl, rfl⟩
  case round =>
    obtain ⟨k, hk, rfl, rfl⟩ := hrel
    by_cases hlt : k < zs.length
    · obtain ⟨b, off, rfl, hcc⟩ := HC.out.resolve_left (by intro e; simp [e] at hlt)
      clear HC
      have h1 := HB.out k
      have h2 := HB.out (k + 1)
      have h3 := take_sum_succ zs k hlt
      have hcell := hcc k hlt
      rw [h3] at h2
      have H3 := hid h3
      clear h3 hcc
      go_wp2
      go_round
      case rel => exact ⟨k + 1, by omega, by go_num, by rw [H3.out]⟩
      case measure => simp [intOf]; omega
    · go_wp2
      go_ret
      exact ⟨ret_int (by rw [List.take_of_length_le (by omega)]), rfl⟩

theorem l01Sum_any (v : Value) (zs : List Int) (w : World) (h : Ints .i64 w v zs) (hb : ∀ i, 0 ≤ (zs.take i).sum ∧ (zs.take i).sum ≤ 100000000000) :
    Calls Try.prog 58 #[v] w fun e w' => e = .returned (.int .i64 zs.sum) ∧ w = w' := by
  obtain ⟨hm, a, cap, rfl, hc⟩ := h
  have HB := hid hb
  have HC := hid hc
  clear hb hc
  go_enter Try.func58, Try.ntmps58
  go_wp2
  go_loop [3, 4] (fun s i => ∃ k : Nat, k ≤ zs.length ∧ i = .int .i64 k ∧ s = .int .i64 (zs.take k).sum) (fun _ i => zs.length - (intOf i).toNat)
  case atStart => exact ⟨0, Nat.zero_le _, rfl, rfl⟩
  case round =>
    obtain ⟨k, hk, rfl, rfl⟩ := hrel
    by_cases hlt : k < zs.length
    · obtain ⟨b, off, rfl, hcc⟩ := HC.out.resolve_left (by intro e; simp [e] at hlt)
      clear HC
      have h1 := HB.out k
      have h2 := HB.out (k + 1)
      have h3 := take_sum_succ zs k hlt
      have hcell := hcc k hlt
      rw [h3] at h2
      have H3 := hid h3
      clear h3 hcc
      go_wp2
      go_round
      case rel => exact ⟨k + 1, by omega, by go_num, by rw [H3.out]⟩
      case measure => simp [intOf]; omega
    · go_wp2
      go_ret
      exact ⟨ret_int (by rw [List.take_of_length_le (by omega)]), rfl⟩

/-- All numbers are lo to hi. -/
def allB (lo hi : Int) (zs : List Int) : Bool := zs.all (inB · lo hi)
theorem allB_t {lo hi : Int} {zs : List Int} (h : allB lo hi zs = true) : ∀ x ∈ zs, lo ≤ x ∧ x ≤ hi := fun x hx => inB_t (List.all_eq_true.1 h x hx)
theorem allB_mk {lo hi : Int} {zs : List Int} (h : ∀ i (_ : i < zs.length), inB zs[i] lo hi = true) : allB lo hi zs = true := by
  refine List.all_eq_true.2 fun x hx => ?_
  obtain ⟨i, hi, rfl⟩ := List.getElem_of_mem hx
  exact h i hi
theorem allB_no {lo hi : Int} {zs : List Int} (i : Nat) (hi' : i < zs.length) (h : inB zs[i] lo hi = false) : allB lo hi zs = false := by
  cases hb : allB lo hi zs
  · rfl
  · have := List.all_eq_true.1 hb zs[i] (List.getElem_mem hi'); simp [h] at this

def AllRel (lo hi : Int) (zs : List Int) (i : Value) : Prop := ∃ k : Nat, k ≤ zs.length ∧ i = .int .i64 k ∧ ∀ j (hj : j < zs.length), j < k → inB zs[j] lo hi = true

theorem allWithin_any (v : Value) (zs : List Int) (lo hi : Int) (w : World) (h : Ints .i64 w v zs) :
    Calls Try.prog 60 #[v, .int .i64 lo, .int .i64 hi] w fun e w' => e = .returned (.bool (allB lo hi zs)) ∧ w = w' := by
  obtain ⟨hm, a, cap, rfl, hc⟩ := h
  have HC := hid hc
  clear hc
  go_enter Try.func60, Try.ntmps60
  go_wp2
  go_loop [11] (fun i => AllRel lo hi zs i) (fun i => zs.length - (intOf i).toNat)
  case atStart => exact ⟨0, Nat.zero_le _, rfl, fun j _ h => by omega⟩
  case round =>
    obtain ⟨k, hk, rfl, hall⟩ := hrel
    have HA := hid hall
    clear hall
    by_cases hlt : k < zs.length
    · obtain ⟨b, off, rfl, hcc⟩ := HC.out.resolve_left (by intro e; simp [e] at hlt)
      clear HC
      have hcell := hcc k hlt
      clear hcc
      cases hin : inB zs[k] lo hi
      · have HN := hid (allB_no k hlt hin)
        go_wp2_with (go_at_call 45; refine (within_any _ _ _ _).mono ?_; rintro e w' ⟨rfl, rfl⟩)
        go_ret
        exact ⟨ret_bool HN.out.symm, rfl⟩
      · have HI := hid hin
        go_wp2_with (go_at_call 45; refine (within_any _ _ _ _).mono ?_; rintro e w' ⟨rfl, rfl⟩)
        go_round
        case rel =>
          refine ⟨k + 1, by omega, by go_num, fun j hj hjk => ?_⟩
          rcases (by omega : j < k ∨ j = k) with h | rfl
          · exact HA.out j hj h
          · exact HI.out
        case measure => simp [intOf]; omega
    · have HN : Hid (allB lo hi zs = true) := allB_mk (fun i hi => HA.out i hi (by omega))
      go_wp2
      go_ret
      exact ⟨ret_bool HN.out.symm, rfl⟩

def MaxRel (zs : List Int) (m i : Value) : Prop := ∃ k : Nat, 1 ≤ k ∧ k ≤ zs.length ∧ i = .int .i64 k ∧ m = .int .i64 (zs.getD (Sh.bestTo zs (k - 1)) 0)

set_option maxHeartbeats 400000 in
theorem slicesMax_any (v : Value) (zs : List Int) (w : World) (h : Ints .i64 w v zs) (h0 : 0 < zs.length) :
    Calls Try.prog 66 #[v] w fun e w' => e = .returned (.int .i64 (zs.getD (Sh.best zs) 0)) ∧ w = w' := by
  obtain ⟨hm, a, cap, rfl, hc⟩ := h
  obtain ⟨b, off, rfl, hcc⟩ := hc.resolve_left (by intro e; simp [e] at h0)
  have hc0 := hcc 0 h0
  rw [Nat.add_zero] at hc0
  have HC := hid hcc
  clear hc hcc
  have hz : Hid (zs[0] = zs.getD 0 0) := by simp [List.getD, h0, Hid]
  go_enter Try.func66, Try.ntmps66
  go_wp2
  go_loop [3, 4] (fun m i => MaxRel zs m i) (fun _ i => zs.length - (intOf i).toNat)
  case atStart => exact ⟨1, by omega, by omega, rfl, by rw [hz.out]; rfl⟩
  case round =>
    clear hc0
    obtain ⟨k, h1, hk, rfl, rfl⟩ := hrel
    by_cases hlt : k < zs.length
    · have hcell := HC.out k hlt
      have hgd : Hid (zs.getD k 0 = zs[k]) := by simp [List.getD, hlt, Hid]
      have hbs : Hid (Sh.bestTo zs k = if zs.getD (Sh.bestTo zs (k - 1)) 0 < zs.getD k 0 then k else Sh.bestTo zs (k - 1)) := by
        obtain ⟨j, rfl⟩ : ∃ j, k = j + 1 := ⟨k - 1, by omega⟩
        rfl
      obtain ⟨m, hmx⟩ : ∃ m, m = zs.getD (Sh.bestTo zs (k - 1)) 0 := ⟨_, rfl⟩
      rw [← hmx]
      have HM := hid hmx
      clear hmx
      by_cases hgt : m < zs[k]
      · have hnx : Hid (zs[k] = zs.getD (Sh.bestTo zs k) 0) := by
          have e1 := hbs.out; rw [← HM.out, hgd.out, if_pos hgt] at e1
          rw [e1]; exact hgd.out.symm
        go_wp2
        go_round
        case rel => exact ⟨k + 1, by omega, by omega, by go_num, by rw [Nat.add_sub_cancel, ← hnx.out]⟩
        case measure => simp [intOf]; omega
      · have hnx : Hid (m = zs.getD (Sh.bestTo zs k) 0) := by
          have e1 := hbs.out; rw [← HM.out, hgd.out, if_neg hgt] at e1
          rw [e1]; exact HM.out
        go_wp2
        go_round
        case rel => exact ⟨k + 1, by omega, by omega, by go_num, by rw [Nat.add_sub_cancel, ← hnx.out]⟩
        case measure => simp [intOf]; omega
    · obtain rfl : k = zs.length := by omega
      go_wp2
      go_ret
      exact ⟨rfl, rfl⟩

def IdxRel (i : Value) (n : Nat) : Prop := ∃ k : Nat, k ≤ n ∧ i = .int .i64 k

theorem slicesIndex_any (v : Value) (zs : List Int) (x : Int) (n : Nat) (w : World) (h : Ints .i64 w v zs) (hn : n < zs.length) (hx : zs[n] = x) (hfirst : ∀ j (hj : j < zs.length), j < n → zs[j] ≠ x) :
    Calls Try.prog 65 #[v, .int .i64 x] w fun e w' => e = .returned (.int .i64 n) ∧ w = w' := by
  obtain ⟨hm, a, cap, rfl, hc⟩ := h
  obtain ⟨b, off, rfl, hcc⟩ := hc.resolve_left (by intro e; simp [e] at hn)
  have HC := hid hcc
  have HX := hid hx
  have HF := hid hfirst
  clear hc hcc hx hfirst
  go_enter Try.func65, Try.ntmps65
  go_wp2
  go_loop [8] (fun i => IdxRel i n) (fun i => zs.length - (intOf i).toNat)
  case atStart => exact ⟨0, by omega, rfl⟩
  case round =>
    obtain ⟨k, hk, rfl⟩ := hrel
    have hlt : k < zs.length := by omega
    have hcell := HC.out k hlt
    by_cases e : k = n
    · subst e
      have hb : (x == zs[k]) = true := by rw [HX.out]; simp
      go_wp2
      go_ret
      exact ⟨rfl, rfl⟩
    · have hb : (x == zs[k]) = false := beq_eq_false_iff_ne.2 (fun e2 => HF.out k hlt (by omega) e2.symm)
      go_wp2
      go_round
      case rel => exact ⟨k + 1, by omega, by go_num⟩
      case measure => simp [intOf]; omega


end Go.Proofs.Ythbihlbbejcpcaa
