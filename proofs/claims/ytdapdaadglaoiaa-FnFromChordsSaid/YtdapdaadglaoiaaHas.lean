/- slices.BinarySearch and l02Has at a slice of numbers. -/
import Derived.Test.YtdapdaadglaoiaaMem
import Derived.Test.YtdapdaadglaoiaaBase
import Derived.Test.YtdapdaadglaoiaaOwn
import Derived.Test.YtdapdaadglaoiaaLay2
namespace Go.Proofs.Ytdapdaadglaoiaa
open Go.RowKit

set_option maxHeartbeats 2000000 in
set_option maxRecDepth 1000000 in
theorem bsearch_nil (c : Nat) (a : Option Addr) (x : Int) (w : World) :
    Calls Try.prog 164 #[.slice a 0 c, .int .i64 x] w fun e w' => e = .returned (.tuple #[.int .i64 0, .bool false]) ∧ Below w.heap.size w w' := by
  go_enter Try.func164, Try.ntmps164
  go_wp2_with fail
  go_loopw [7, 8] (fun s7 s8 wr => s7 = .int .i64 0 ∧ s8 = .int .i64 0 ∧ Below w.heap.size w wr) (fun _ _ _ => 0)
  case atStart => exact ⟨rfl, rfl, Below.refl _ _⟩
  case round =>
    obtain ⟨rfl, rfl, hb⟩ := hrel
    have HB := hid hb
    clear hb
    go_wp2_with fail
    go_ret2
    exact ⟨rfl, HB.out⟩

theorem bsearch_any (P : Nat → Prop) (v : Value) (zs : List Int) (x : Int) (w : World) (h : Slc P w v zs) (hs : zs.Pairwise (fun a b => a ≤ b)) :
    Calls Try.prog 164 #[v, .int .i64 x] w fun e w' => (∃ k : Nat, e = .returned (.tuple #[.int .i64 k, .bool (zs.contains x)])) ∧ Below w.heap.size w w' := by
  obtain ⟨hm, a, cap, rfl, h⟩ := h
  rcases h with rfl | ⟨b, off, rfl, _, _, hc⟩
  · refine (bsearch_nil cap a x w).mono ?_
    rintro e w' ⟨rfl, hb⟩
    exact ⟨⟨0, rfl⟩, hb⟩
  · have hc' : ∀ j, j < zs.length → w.cell? ⟨b, off + j, none⟩ = some (.int .i64 (zs.getD j 0)) := fun j hj => by
      rw [hc j hj]; simp [List.getD, hj]
    have hcl : Calls Try.prog 164 #[.slice (some ⟨b, off, none⟩) zs.length cap, .int .i64 x] w _ := AnyG.slices_BinarySearch_int bsr b off zs.length cap zs x w (Nat.le_refl _) (by omega) hc' (by rw [List.take_length]; exact hs)
    refine hcl.mono ?_
    rintro e w' ⟨rfl, q, rfl⟩
    rw [List.take_length]
    exact ⟨⟨_, rfl⟩, ⟨rfl, rfl, rfl, Nat.le_refl _, fun _ _ => rfl⟩⟩

set_option maxHeartbeats 1000000 in
set_option maxRecDepth 100000 in
theorem l02Has_any (P : Nat → Prop) (v : Value) (zs : List Int) (x : Int) (w : World) (h : Slc P w v zs) :
    Calls Try.prog 111 #[v, .int .i64 x] w fun e w' => e = .returned (.bool (zs.contains x)) ∧ Below w.heap.size w w' := by
  have hm := h.1
  obtain ⟨_, a, cap, rfl, h⟩ := h
  have HS := hid h
  clear h
  go_enter Try.func111, Try.ntmps111
  go_wp2_with fail
  go_loopw [5] (fun i wr => ∃ k : Nat, i = .int .i64 k ∧ k ≤ zs.length ∧ (zs.take k).contains x = false ∧ Below w.heap.size w wr) (fun i _ => zs.length - (intOf i).toNat)
  case atStart => exact ⟨0, rfl, by omega, by simp, Below.refl _ _⟩
  case round =>
    obtain ⟨k, rfl, hk, hno, hb⟩ := hrel
    by_cases hlt : k < zs.length
    · rcases HS.out with h0 | ⟨b, off, rfl, _, _, hc⟩
      · rw [h0] at hlt; simp at hlt
      have hbl : b < w.heap.size := by
        have := hc k hlt
        rcases Nat.lt_or_ge b w.heap.size with h1 | h1
        · exact h1
        · simp [World.cell?, Array.getElem?_eq_none h1] at this
      have q0 := (hb.cell (p := ⟨b, off + k, none⟩) hbl).trans (hc k hlt)
      have HB := hid hb
      have hkI : (k : Int) < zs.length := by omega
      by_cases he : zs[k] = x
      · have hr : Hid (zs.contains x = true) := by
          rw [Hid, List.contains_iff_mem, ← he]; exact List.getElem_mem _
        rw [he] at q0
        clear hb hc he
        go_wp2_with fail
        go_ret
        rw [hr.out]
        exact ⟨rfl, HB.out⟩
      · have hr : Hid ((zs.take (k + 1)).contains x = false) := by
          rw [Hid, List.take_succ_eq_append_getElem hlt]
          simp only [List.contains_append, hno, Bool.false_or]
          have hx : (x == zs[k]) = false := by simp; exact fun h => he h.symm
          simp [List.contains, List.elem, hx]
        have hne : (zs[k] == x) = false := by simp [he]
        clear hb hc
        go_wp2_with fail
        go_roundw
        case rel => exact ⟨k + 1, by go_num, by omega, hr.out, HB.out⟩
        case measure => simp [intOf]; omega
    · obtain rfl : k = zs.length := by omega
      rw [List.take_length] at hno
      have hr : Hid (zs.contains x = false) := hno
      have HB := hid hb
      clear hb hno
      go_wp2_with fail
      go_ret
      rw [hr.out]
      exact ⟨rfl, HB.out⟩

end Go.Proofs.Ytdapdaadglaoiaa
