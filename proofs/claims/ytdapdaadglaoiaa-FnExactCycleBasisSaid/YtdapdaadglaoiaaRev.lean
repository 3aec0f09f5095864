/- slices.Reverse of a slice of integers that the call may write. -/
import Derived.Test.YtdapdaadglaoiaaOwn
namespace Go.Proofs.Ytdapdaadglaoiaa
open Go.RowKit

/-- The k outermost elements of both ends are exchanged. -/
def rvs (zs : List Int) (k : Nat) : List Int := (List.range zs.length).map (fun p : Nat => if p < k ∨ zs.length - k ≤ p then zs.getD (zs.length - 1 - p) 0 else zs.getD p 0)
theorem rvs_len (zs : List Int) (k : Nat) : (rvs zs k).length = zs.length := by simp [rvs]
theorem rvs_get (zs : List Int) (k p : Nat) (h : p < (rvs zs k).length) : (rvs zs k)[p] = if p < k ∨ zs.length - k ≤ p then zs.getD (zs.length - 1 - p) 0 else zs.getD p 0 := by simp [rvs]
theorem rvs_zero (zs : List Int) : rvs zs 0 = zs := by
  apply List.ext_getElem
  · rw [rvs_len]
  · intro p h1 h2
    rw [rvs_get, if_neg (by omega)]
    simp [List.getD, h2]
theorem rvs_end (zs : List Int) (k j : Nat) (h : k + j + 1 = zs.length) (h1 : j ≤ k) (h2 : k ≤ j + 1) : rvs zs k = zs.reverse := by
  apply List.ext_getElem
  · rw [rvs_len]; simp
  · intro p h3 h4
    have hp : p < zs.length := by rw [rvs_len] at h3; exact h3
    rw [rvs_get, List.getElem_reverse]
    split
    · simp [List.getD, show zs.length - 1 - p < zs.length by omega]
    · have e : zs.length - 1 - p = p := by omega
      simp [e, List.getD, hp]
theorem rvs_step (zs : List Int) (k j : Nat) (h : k + j + 1 = zs.length) (h1 : k < j) (x y : Int) (hx : zs.getD j 0 = x) (hy : zs.getD k 0 = y) : ((rvs zs k).set k x).set j y = rvs zs (k + 1) := by
  subst hx hy
  apply List.ext_getElem
  · simp [rvs_len]
  · intro p h3 h4
    have hp : p < zs.length := by rw [rvs_len] at h4; exact h4
    rw [rvs_get, List.getElem_set, List.getElem_set]
    by_cases e1 : j = p
    · subst e1
      rw [if_pos rfl, if_pos (by omega), (by omega : zs.length - 1 - j = k)]
    · rw [if_neg e1]
      by_cases e2 : k = p
      · subst e2
        rw [if_pos rfl, if_pos (by omega), (by omega : zs.length - 1 - k = j)]
      · rw [if_neg e2, rvs_get]
        by_cases e3 : p < k ∨ zs.length - k ≤ p
        · rw [if_pos e3, if_pos (by omega)]
        · rw [if_neg e3, if_neg (by omega)]

def RvNil (w : World) (i j : Value) (wr : World) : Prop := i = .int .i64 0 ∧ j = .int .i64 (-1) ∧ wr = w
def RvRel (P : Nat → Prop) (zs : List Int) (v : Value) (w : World) (i j : Value) (wr : World) : Prop :=
  ∃ k m : Nat, i = .int .i64 k ∧ j = .int .i64 m ∧ k + m + 1 = zs.length ∧ k ≤ m + 1 ∧ Slc P wr v (rvs zs k) ∧ Kept P w wr

set_option maxHeartbeats 1000000 in
set_option maxRecDepth 100000 in
theorem reverse_any (P : Nat → Prop) (v : Value) (zs : List Int) (w : World) (h : Slc P w v zs) :
    Calls Try.prog 145 #[v] w fun e w' => e = .returned (.tuple #[]) ∧ Slc P w' v zs.reverse ∧ Kept P w w' := by
  have HS := hid h
  obtain ⟨hm, a, cap, rfl, hc⟩ := h
  clear hc
  by_cases h0 : zs.length = 0
  · have hz : zs = [] := List.eq_nil_of_length_eq_zero h0
    subst hz
    go_enter Try.func145, Try.ntmps145
    go_wp2_with fail
    go_loopw [2, 3] (fun i j wr => RvNil w i j wr) (fun i j _ => 0)
    case atStart => exact ⟨rfl, rfl, rfl⟩
    case round =>
      obtain ⟨rfl, rfl, rfl⟩ := hrel
      go_wp2_with fail
      go_end0
      exact ⟨rfl, HS.out, Kept.refl _ _⟩
  go_enter Try.func145, Try.ntmps145
  go_wp2_with fail
  go_loopw [2, 3] (fun i j wr => RvRel P zs (.slice a zs.length cap) w i j wr) (fun i j _ => (intOf j + 1 - intOf i).toNat)
  case atStart => exact ⟨0, zs.length - 1, rfl, by go_num, by omega, by omega, by rw [rvs_zero]; exact HS.out, Kept.refl _ _⟩
  case round =>
    clear HS
    obtain ⟨k, m, rfl, rfl, hkm, hle, hs, hkp⟩ := hrel
    have hrl := rvs_len zs k
    by_cases hlt : k < m
    · obtain ⟨b, off, rfl, hp, hblt, hf, hcc⟩ := hs.at (by omega)
      obtain ⟨y, hy⟩ : ∃ y, zs.getD k 0 = y := ⟨_, rfl⟩
      obtain ⟨x, hx⟩ : ∃ x, zs.getD m 0 = x := ⟨_, rfl⟩
      have q1 := hcc k (by omega)
      rw [rvs_get, if_neg (by omega), hy] at q1
      have q2 := hcc m (by omega)
      rw [rvs_get, if_neg (by omega), hx] at q2
      have f1 := hf (off + k)
      have f2 := hf (off + m)
      have HSET := hid ((hs.set k (by omega) x).set m (by simp; omega) y)
      have HK := hid ((hkp.setCell (p := ⟨b, off + k, none⟩) hp (.int .i64 x)).setCell (p := ⟨b, off + m, none⟩) hp (.int .i64 y))
      have HST := hid (rvs_step zs k m hkm hlt x y hx hy)
      have hl1 : (k : Int) < m := by omega
      have hl2 : (k : Int) < zs.length := by omega
      have hl3 : (m : Int) < zs.length := by omega
      clear hs hkp hf hcc hx hy hrl
      go_wp2_with fail
      go_region
      go_wp2_with fail
      go_roundw
      case rel => exact ⟨k + 1, m - 1, by go_num, by go_num, by omega, by omega, by rw [← HST.out]; exact HSET.out.below (Below.refl _ _).drew, HK.out.drew⟩
      case measure => simp [intOf]; omega
    · have hend : Hid (rvs zs k = zs.reverse) := rvs_end zs k m (by omega) (by omega) (by omega)
      have HS := hid hs
      have HK := hid hkp
      clear hs hkp hrl
      go_wp2_with fail
      go_end0
      exact ⟨rfl, by rw [← hend.out]; exact HS.out, HK.out⟩

end Go.Proofs.Ytdapdaadglaoiaa
