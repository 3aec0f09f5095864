/- Helpers of the exact laws on slices of integers: toInt64S, eqInt64S, markInt64S, heldInt64S. -/
import Derived.Test.YtdapdaadglaoiaaBase
import Derived.Test.YtdapdaadglaoiaaMem
import Derived.BigQuiet
import Derived.RegionTactic
namespace Go.Proofs.Ytdapdaadglaoiaa
open Go.RowKit

theorem info64 : (Try.prog.info? 2).map (fun i => (i.zero, i.size, i.bytes)) = some (some (.int .i64 0), 1, 8) := by kernel_rfl

def ToRel (T : TypeId) (zs : List Int) (w : World) (i : Value) (wr : World) : Prop :=
  ∃ k : Nat, i = .int .i64 k ∧ k ≤ zs.length ∧ IntBlk T wr w.heap.size (zs.take k ++ List.replicate (zs.length - k) 0) ∧ Below w.heap.size w wr

theorem fill_set (zs : List Int) (k : Nat) (h : k < zs.length) : (zs.take k ++ List.replicate (zs.length - k) 0).set k zs[k] = zs.take (k + 1) ++ List.replicate (zs.length - (k + 1)) 0 := by
  apply List.ext_getElem
  · simp; omega
  · intro i h1 h2
    simp only [List.getElem_set, List.getElem_append, List.length_take, List.getElem_take, List.getElem_replicate]
    by_cases e : k = i
    · subst e; rw [if_pos rfl, dif_pos (by omega)]
    · rw [if_neg e]
      by_cases e2 : i < k
      · rw [dif_pos (by omega), dif_pos (by omega)]
      · rw [dif_neg (by omega), dif_neg (by omega)]

set_option maxHeartbeats 400000 in
theorem toInt64S_any (v : Value) (zs : List Int) (w : World) (h : Ints .i64 w v zs) (hlen : zs.length ≤ 2000000) :
    Calls Try.prog 42 #[v] w fun e w' => ∃ r, e = .returned r ∧ Slc (fun b => w.heap.size ≤ b ∧ b < w'.heap.size) w' r zs ∧ Below w.heap.size w w' := by
  obtain ⟨_, a, cap, rfl, hc⟩ := h
  have HC := hid hc
  clear hc
  have hmk := run_make_row' (P := Try.prog) 33 2 (.int .i64 0) 8 Try.underlying33 info64 rfl .i64 .i64 zs.length (by omega) (by omega)
  go_enter Try.func42, Try.ntmps42
  go_wp2
  clear hmk
  go_loopw [4] (fun i wr => ToRel 2 zs w i wr) (fun i _ => zs.length - (intOf i).toNat)
  case atStart => exact ⟨0, rfl, by omega, by simpa using IntBlk.made 2 w zs.length, (Below.refl _ _).alloc (Nat.le_refl _) _⟩
  case round =>
    obtain ⟨k, rfl, hk, hblk, hbel⟩ := hrel
    by_cases hlt : k < zs.length
    · obtain ⟨b, off, rfl, hcc⟩ := HC.out.resolve_left (by intro e; simp [e] at hlt)
      clear HC
      have hcell := hcc k hlt
      have hcell2 := (hbel.cell (p := ⟨b, off + k, none⟩) (World.block_lt_of_cell? _ _ hcell)).trans hcell
      have hf := hblk.frozen k
      have hold := hblk.cell k (by simp; omega)
      have HSET := hid (hblk.set k zs[k])
      have HB := hid (hbel.setCell (p := ⟨w.heap.size, k, none⟩) (Nat.le_refl _) (.int .i64 zs[k]))
      clear hcc hbel hblk hcell
      go_wp2
      go_roundw
      case rel => exact ⟨k + 1, by go_num, by omega, by rw [← fill_set zs k hlt]; exact HSET.out, HB.out⟩
      case measure => simp [intOf]; omega
    · have e : k = zs.length := by omega
      subst e
      have HB := hid hblk
      have HBel := hid hbel
      have hsz := hblk.lt
      clear hblk hbel
      go_wp2
      go_ret
      refine ⟨_, rfl, IntBlk.slc (T := 2) (by simpa using HB.out) ⟨Nat.le_refl _, hsz⟩ (by omega), HBel.out⟩

def EqRel (zs ys : List Int) (w : World) (i : Value) (wr : World) : Prop :=
  ∃ k m : Nat, i = .int .i64 k ∧ k ≤ zs.length ∧ zs.take k = ys.take k ∧ wr = w.drewN m

theorem take_succ_eq {zs ys : List Int} {k : Nat} (h1 : k < zs.length) (h2 : k < ys.length) (h : zs.take k = ys.take k) (e : zs[k] = ys[k]) : zs.take (k + 1) = ys.take (k + 1) := by
  rw [List.take_succ_eq_append_getElem h1, List.take_succ_eq_append_getElem h2, h, e]

set_option maxHeartbeats 400000 in
theorem eqInt64S_any (v u : Value) (zs ys : List Int) (w : World) (h : Ints .i64 w v zs) (h' : Ints .i64 w u ys) :
    Calls Try.prog 34 #[v, u] w fun e w' => e = .returned (.bool (decide (zs = ys))) ∧ ∃ n, w' = w.drewN n := by
  obtain ⟨hm, a, cap, rfl, hc⟩ := h
  obtain ⟨hm', a', cap', rfl, hc'⟩ := h'
  have HC := hid hc
  have HC' := hid hc'
  clear hc hc'
  by_cases hl : zs.length = ys.length
  case neg =>
    have hd : Hid (decide (zs = ys) = false) := by
      apply decide_eq_false; intro e; exact hl (by rw [e])
    have hb : ((zs.length : Int) != (ys.length : Int)) = true := by rw [bne_iff_ne]; omega
    go_enter Try.func34, Try.ntmps34
    go_wp2
    go_ret
    exact ⟨ret_bool hd.out.symm, 0, rfl⟩
  have hb : ((zs.length : Int) != (ys.length : Int)) = false := by simp [hl]
  have HL := hid hl
  clear hl
  go_enter Try.func34, Try.ntmps34
  go_wp2
  go_loopw [5] (fun i wr => EqRel zs ys w i wr) (fun i _ => zs.length - (intOf i).toNat)
  case atStart => exact ⟨0, 0, rfl, by omega, rfl, rfl⟩
  case round =>
    obtain ⟨k, m, rfl, hk, ht, rfl⟩ := hrel
    have HT := hid ht
    clear ht
    by_cases hlt : k < zs.length
    · have hlt2 : k < ys.length := by have := HL.out; omega
      obtain ⟨b, off, rfl, hcc⟩ := HC.out.resolve_left (by intro e; simp [e] at hlt)
      obtain ⟨b', off', rfl, hcc'⟩ := HC'.out.resolve_left (by intro e; simp [e] at hlt2)
      clear HC HC'
      have hcell := hcc k hlt
      have hcell' := hcc' k hlt2
      clear hcc hcc'
      have hlti : (k : Int) < ys.length := by omega
      have hlti2 : (k : Int) < zs.length := by omega
      go_wp2
      go_quiet (fail)
      by_cases he : zs[k] = ys[k]
      · have HE := hid he
        have hb2 : (zs[k] != ys[k]) = false := by simp [he]
        clear he
        go_wp2
        go_roundw
        case rel => exact ⟨k + 1, _, by go_num, by omega, take_succ_eq hlt hlt2 HT.out HE.out, rfl⟩
        case measure => simp [intOf]; omega
      · have hb2 : (zs[k] != ys[k]) = true := by simp [he]
        have hd : Hid (decide (zs = ys) = false) := by
          apply decide_eq_false; intro e; apply he; subst e; rfl
        clear he
        go_wp2
        go_ret
        exact ⟨ret_bool hd.out.symm, _, by rw [World.drewN_drewN]⟩
    · have hd : Hid (decide (zs = ys) = true) := by
        apply decide_eq_true
        have h1 := HT.out
        have h2 := HL.out
        rw [List.take_of_length_le (by omega), List.take_of_length_le (by omega)] at h1
        exact h1
      go_wp2
      go_ret
      exact ⟨ret_bool hd.out.symm, m, rfl⟩

/-- The numbers k, k + 1, .. -/
def iota (k : Int) (n : Nat) : List Int := (List.range n).map (fun i : Nat => k + (i : Int))
theorem iota_length (k : Int) (n : Nat) : (iota k n).length = n := by simp [iota]
theorem iota_get (k : Int) (n i : Nat) (h : i < (iota k n).length) : (iota k n)[i] = k + i := by simp [iota]
theorem iota_set (k : Int) (zs : List Int) (i : Nat) (h : i < zs.length) : (iota k i ++ zs.drop i).set i (k + i) = iota k (i + 1) ++ zs.drop (i + 1) := by
  apply List.ext_getElem
  · simp [iota]; omega
  · intro j h1 h2
    simp only [List.getElem_set, List.getElem_append, iota_length, iota_get, List.getElem_drop]
    by_cases e : i = j
    · subst e; rw [if_pos rfl, dif_pos (by omega)]
    · rw [if_neg e]
      by_cases e2 : j < i
      · rw [dif_pos (by omega), dif_pos (by omega)]
      · rw [dif_neg (by omega), dif_neg (by omega)]
        congr 1; omega

def MarkRel (P : Nat → Prop) (v : Value) (zs : List Int) (k0 : Int) (w : World) (t i : Value) (wr : World) : Prop :=
  ∃ k : Nat, i = .int .i64 k ∧ t = .int .i64 (k0 + k) ∧ k ≤ zs.length ∧ Slc P wr v (iota k0 k ++ zs.drop k) ∧ Kept P w wr

set_option maxHeartbeats 400000 in
theorem markInt64S_any (P : Nat → Prop) (v : Value) (zs : List Int) (k0 : Int) (w : World) (h : Slc P w v zs) (h0 : 0 ≤ k0) (h1 : k0 ≤ 1000000000000) :
    Calls Try.prog 37 #[v, .int .i64 k0] w fun e w' => e = .returned (.int .i64 (k0 + zs.length)) ∧ Slc P w' v (iota k0 zs.length) ∧ Kept P w w' := by
  have HS := hid h
  obtain ⟨hm, a, cap, rfl, hc⟩ := h
  clear hc
  go_enter Try.func37, Try.ntmps37
  go_wp2
  go_loopw [1, 5] (fun t i wr => MarkRel P (.slice a zs.length cap) zs k0 w t i wr) (fun _ i _ => zs.length - (intOf i).toNat)
  case atStart => exact ⟨0, rfl, by simp, by omega, by simpa [iota] using HS.out, Kept.refl _ _⟩
  case round =>
    obtain ⟨k, rfl, rfl, hk, hs, hkp⟩ := hrel
    by_cases hlt : k < zs.length
    · have hl : (iota k0 k ++ zs.drop k).length = zs.length := by simp [iota_length]; omega
      obtain ⟨b, off, rfl, hp, hblt, hf, hcc⟩ := hs.at (by omega)
      have hf1 := hf (off + k)
      have hcell := hcc k (by omega)
      obtain ⟨x, hx⟩ : ∃ x, (iota k0 k ++ zs.drop k)[k]'(by omega) = x := ⟨_, rfl⟩
      rw [hx] at hcell
      have HSET := hid (hs.set k (by omega) (k0 + k))
      have HK := hid (hkp.setCell (p := ⟨b, off + k, none⟩) hp (.int .i64 (k0 + k)))
      clear hs hkp hf hcc hx hl HS
      go_wp2
      go_roundw
      case rel => exact ⟨k + 1, by go_num, by go_num, by omega, by rw [← iota_set k0 zs k hlt]; exact HSET.out, HK.out⟩
      case measure => simp [intOf]; omega
    · have e : k = zs.length := by omega
      subst e
      have HS2 := hid hs
      have HK := hid hkp
      clear hs hkp
      go_wp2
      go_ret
      exact ⟨rfl, by simpa using HS2.out, HK.out⟩

def HeldRel (n : Nat) (k0 : Int) (t i : Value) : Prop := ∃ k : Nat, i = .int .i64 k ∧ t = .int .i64 (k0 + k) ∧ k ≤ n

set_option maxHeartbeats 400000 in
theorem heldInt64S_any (v : Value) (n : Nat) (k0 : Int) (w : World) (h : Ints .i64 w v (iota k0 n)) (h0 : 0 ≤ k0) (h1 : k0 ≤ 1000000000000) :
    Calls Try.prog 38 #[v, .int .i64 k0] w fun e w' => e = .returned (.int .i64 (k0 + n)) ∧ w = w' := by
  obtain ⟨hm, a, cap, rfl, hc⟩ := h
  simp only [iota_length, iota_get] at hm hc ⊢
  have HC := hid hc
  clear hc
  go_enter Try.func38, Try.ntmps38
  go_wp2
  go_loop [1, 5] (fun t i => HeldRel n k0 t i) (fun _ i => n - (intOf i).toNat)
  case atStart => exact ⟨0, rfl, by simp, by omega⟩
  case round =>
    obtain ⟨k, rfl, rfl, hk⟩ := hrel
    by_cases hlt : k < n
    · obtain ⟨b, off, rfl, hcc⟩ := HC.out.resolve_left (by intro e; have := congrArg List.length e; simp [iota] at this; omega)
      clear HC
      have hcell := hcc k hlt
      clear hcc
      go_wp2
      go_round
      case rel => exact ⟨k + 1, by go_num, by go_num, by omega⟩
      case measure => simp [intOf]; omega
    · have e : k = n := by omega
      subst e
      go_wp2
      go_ret
      exact ⟨rfl, rfl⟩

theorem eqInt64S_b (v u : Value) (zs ys : List Int) (w : World) (h : Ints .i64 w v zs) (h' : Ints .i64 w u ys) :
    Calls Try.prog 34 #[v, u] w fun e w' => e = .returned (.bool (decide (zs = ys))) ∧ Below w.heap.size w w' :=
  (eqInt64S_any v u zs ys w h h').mono fun e w' ⟨he, n, hn⟩ => ⟨he, by rw [hn]; exact ⟨rfl, rfl, rfl, Nat.le_refl _, fun _ _ => rfl⟩⟩
theorem eqInt64S_t (v u : Value) (zs : List Int) (w : World) (h : Ints .i64 w v zs) (h' : Ints .i64 w u zs) :
    Calls Try.prog 34 #[v, u] w fun e w' => e = .returned (.bool true) ∧ Below w.heap.size w w' :=
  (eqInt64S_b v u zs zs w h h').mono fun e w' ⟨he, hb⟩ => ⟨by rw [he]; simp, hb⟩

end Go.Proofs.Ytdapdaadglaoiaa
