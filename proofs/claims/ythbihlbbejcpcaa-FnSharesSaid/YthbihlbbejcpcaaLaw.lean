/- Helpers of the laws: likeInts, sum, size. -/
import Derived.Test.YthbihlbbejcpcaaEx
namespace Go.Proofs.Ythbihlbbejcpcaa
open Go.RowKit

theorem size_any (n : Int) (w : World) (h1 : -4000000000000000000 ≤ n) (h2 : n ≤ 4000000000000000000) :
    Calls Try.prog 27 #[.int .i64 n] w fun e w' => e = .returned (.int .i64 (n.natAbs : Int)) ∧ w = w' := by
  by_cases h0 : n < 0 <;> go_enter Try.func27, Try.ntmps27 <;> go_wp2 <;> go_ret <;> exact ⟨ret_int (by omega), rfl⟩

set_option maxHeartbeats 400000 in
theorem likeInts_any (v u : Value) (zs ys : List Int) (w : World) (h : Ints .i64 w v zs) (h' : Ints .i64 w u ys) :
    Calls Try.prog 41 #[v, u] w fun e w' => e = .returned (.bool (decide (zs = ys))) ∧ ∃ n, w' = w.drewN n := by
  obtain ⟨hm, a, cap, rfl, hc⟩ := h
  obtain ⟨hm', a', cap', rfl, hc'⟩ := h'
  have HC := hid hc
  have HC' := hid hc'
  clear hc hc'
  by_cases hl : zs.length = ys.length
  case neg =>
    have hd : Hid (decide (zs = ys) = false) := by
      apply decide_eq_false; intro e; exact hl (by rw [e])
    have hb : ((zs.length : Int) != (ys.length : Int)) = true := by rw [bne_iff_ne]; omega
    go_enter Try.func41, Try.ntmps41
    go_wp2
    go_ret
    exact ⟨ret_bool hd.out.symm, 0, rfl⟩
  have hb : ((zs.length : Int) != (ys.length : Int)) = false := by simp [hl]
  have HL := hid hl
  clear hl
  go_enter Try.func41, Try.ntmps41
  go_wp2
  go_loopw [5] (fun i wr => EqRel zs ys w i wr) (fun i _ => zs.length - (intOf i).toNat)
  case atStart => exact ⟨0, 0, rfl, by omega, rfl, rfl⟩
  case round =>
    obtain ⟨k, m, rfl, hk, ht, rfl⟩ := hrel
    have HT := hid ht
    clear ht
    by_cases hlt : k < zs.length
    · have hlt2 : k < ys.length := by have := HL.out; omega
      obtain ⟨b, off, rfl, hcc⟩ := HC.out.resolve_left (by intro e; simp [e] at hlt)
      obtain ⟨b', off', rfl, hcc'⟩ := HC'.out.resolve_left (by intro e; simp [e] at hlt2)
      clear HC HC'
      have hcell := hcc k hlt
      have hcell' := hcc' k hlt2
      clear hcc hcc'
      have hlti : (k : Int) < ys.length := by omega
      have hlti2 : (k : Int) < zs.length := by omega
      go_wp2
      go_quiet (fail)
      by_cases he : zs[k] = ys[k]
      · have HE := hid he
        have hb2 : (zs[k] != ys[k]) = false := by simp [he]
        clear he
        go_wp2
        go_roundw
        case rel => exact ⟨k + 1, _, by go_num, by omega, take_succ_eq hlt hlt2 HT.out HE.out, rfl⟩
        case measure => simp [intOf]; omega
      · have hb2 : (zs[k] != ys[k]) = true := by simp [he]
        have hd : Hid (decide (zs = ys) = false) := by
          apply decide_eq_false; intro e; apply he; subst e; rfl
        clear he
        go_wp2
        go_ret
        exact ⟨ret_bool hd.out.symm, _, by rw [World.drewN_drewN]⟩
    · have hd : Hid (decide (zs = ys) = true) := by
        apply decide_eq_true
        have h1 := HT.out
        have h2 := HL.out
        rw [List.take_of_length_le (by omega), List.take_of_length_le (by omega)] at h1
        exact h1
      go_wp2
      go_ret
      exact ⟨ret_bool hd.out.symm, m, rfl⟩

theorem likeInts_b (v u : Value) (zs ys : List Int) (w : World) (h : Ints .i64 w v zs) (h' : Ints .i64 w u ys) :
    Calls Try.prog 41 #[v, u] w fun e w' => e = .returned (.bool (decide (zs = ys))) ∧ Below w.heap.size w w' :=
  (likeInts_any v u zs ys w h h').mono fun e w' ⟨he, n, hn⟩ => ⟨he, by rw [hn]; exact ⟨rfl, rfl, rfl, Nat.le_refl _, fun _ _ => rfl⟩⟩
theorem likeInts_t (v u : Value) (zs : List Int) (w : World) (h : Ints .i64 w v zs) (h' : Ints .i64 w u zs) :
    Calls Try.prog 41 #[v, u] w fun e w' => e = .returned (.bool true) ∧ Below w.heap.size w w' :=
  (likeInts_b v u zs zs w h h').mono fun e w' ⟨he, hb⟩ => ⟨by rw [he]; simp, hb⟩

theorem lawsSum_any (v : Value) (zs : List Int) (w : World) (h : Ints .i64 w v zs) (hb : ∀ i, 0 ≤ (zs.take i).sum ∧ (zs.take i).sum ≤ 100000000000) :
    Calls Try.prog 42 #[v] w fun e w' => e = .returned (.int .i64 zs.sum) ∧ w = w' := by
  obtain ⟨hm, a, cap, rfl, hc⟩ := h
  have HB := hid hb
  have HC := hid hc
  clear hb hc
  go_enter Try.func42, Try.ntmps42
  go_wp2
  go_loop [3, 4] (fun s i => ∃ k : Nat, k ≤ zs.length ∧ i = .int .i64 k ∧ s = .int .i64 (zs.take k).sum) (fun _ i => zs.length - (intOf i).toNat)
  case atStart => exact ⟨0, Nat.zero_le _, rfl, rfl⟩
  case round =>
    obtain ⟨k, hk, rfl, rfl⟩ := hrel
    by_cases hlt : k < zs.length
    · obtain ⟨b, off, rfl, hcc⟩ := HC.out.resolve_left (by intro e; simp [e] at hlt)
      clear HC
      have h1 := HB.out k
      have h2 := HB.out (k + 1)
      have h3 := take_sum_succ zs k hlt
      have hcell := hcc k hlt
      rw [h3] at h2
      have H3 := hid h3
      clear h3 hcc
      go_wp2
      go_round
      case rel => exact ⟨k + 1, by omega, by go_num, by rw [H3.out]⟩
      case measure => simp [intOf]; omega
    · go_wp2
      go_ret
      exact ⟨ret_int (by rw [List.take_of_length_le (by omega)]), rfl⟩


end Go.Proofs.Ythbihlbbejcpcaa
