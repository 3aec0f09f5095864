/- likeRows of equal rows. -/
import Derived.Test.YtdapdaadglaoiaaBasis
import Derived.Test.YtdapdaadglaoiaaLike2
namespace Go.Proofs.Ytdapdaadglaoiaa
open Go.RowKit

set_option maxHeartbeats 400000 in
set_option maxRecDepth 100000 in
theorem likeRows_t (v u : Value) (xss : List (List Int)) (w : World) (h : MatR w v xss) (h' : MatR w u xss) (hl : xss.length ≤ 1000000) :
    Calls Try.prog 51 #[v, u] w fun e w' => e = .returned (.bool true) ∧ Below w.heap.size w w' := by
  obtain ⟨a0, k0, rfl, _⟩ := id h
  obtain ⟨a1, k1, rfl, _⟩ := id h'
  have H0 := hid h
  have H1 := hid h'
  clear h h'
  go_enter Try.func51, Try.ntmps51
  go_wp2_with fail
  go_loopw [5] (fun i wr => ∃ k : Nat, i = .int .i64 k ∧ k ≤ xss.length ∧ Below w.heap.size w wr) (fun i _ => xss.length - (intOf i).toNat)
  case atStart => exact ⟨0, rfl, by omega, Below.refl _ _⟩
  case round =>
    obtain ⟨k, rfl, hk, hb⟩ := hrel
    by_cases hlt : k < xss.length
    · obtain ⟨b0, o0, rfl, hl0, hc0⟩ := (H0.out.below hb).at (by omega)
      obtain ⟨b1, o1, rfl, hl1, hc1⟩ := (H1.out.below hb).at (by omega)
      obtain ⟨x0, q0, i0⟩ := hc0 k hlt
      obtain ⟨x1, q1, i1⟩ := hc1 k hlt
      have hkI : (k : Int) < xss.length := by omega
      have I0 := hid i0
      have I1 := hid i1
      have HB := hid hb
      clear hc0 hc1 i0 i1 hb
      go_wp2_with fail
      go_still_tail 8, (by kernel_rfl)
      change wpList _ _ _ _ _ (World.drew _)
      go_wp2_with fail
      refine (likeInts_t _ _ _ _ (I0.out.below (Below.refl _ _).drew) (I1.out.below (Below.refl _ _).drew)).mono ?_
      rintro e w2 ⟨rfl, b2⟩
      have HB2 := hid (HB.out.trans ((below_undrew b2).mono HB.out.size))
      clear b2 q0 q1
      go_wp2_with fail
      go_roundw
      case rel => exact ⟨k + 1, by go_num, by omega, HB2.out⟩
      case measure => simp [intOf]; omega
    · obtain rfl : k = xss.length := by omega
      have HB := hid hb
      clear hb
      go_wp2_with fail
      go_ret
      exact ⟨rfl, HB.out⟩

end Go.Proofs.Ytdapdaadglaoiaa
