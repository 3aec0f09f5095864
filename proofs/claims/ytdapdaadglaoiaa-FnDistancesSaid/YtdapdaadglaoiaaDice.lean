/- The dice of the laws: some number in a range. -/
import Derived.Test.YtdapdaadglaoiaaDrN
import Derived.Laws.BitsAllLaws
import Derived.Laws.Shifts
import Derived.IntWalk
import Derived.StillTailTactics
namespace Go.Proofs.Ytdapdaadglaoiaa
open Go.RowKit

def Dice (w : World) (b : Nat) : Prop :=
  ∃ a len cap, ∃ i h : Int, Blk w b #[.slice a len cap, .int .i64 i, .int .u64 h] 120 ∧ 0 ≤ i ∧ i ≤ len ∧ 0 ≤ h ∧ h < 18446744073709551616 ∧ Bytes w a len b
def RoRel (w : World) (a : Option Addr) (len cap : Nat) (i : Value) (wr : World) : Prop :=
  ∃ k : Nat, ∃ h : Int, i = .int .i64 k ∧ k ≤ len ∧ Blk wr w.heap.size #[.slice a len cap, .int .i64 0, .int .u64 h] 120 ∧ 0 ≤ h ∧ h < 18446744073709551616 ∧ Below w.heap.size w wr
theorem wrap64_rng (z : Int) : 0 ≤ IntKind.u64.wrap z ∧ IntKind.u64.wrap z < 18446744073709551616 := by rw [IntKind.wrap_u64]; omega

set_option maxHeartbeats 1000000 in
set_option maxRecDepth 100000 in
theorem roll_any (a : Option Addr) (len cap : Nat) (seed : Int) (w : World) (h : Bytes w a len w.heap.size) :
    Calls Try.prog 76 #[.slice a len cap, .int .u64 seed] w fun e w' => e = .returned (.pointer (some ⟨w.heap.size, 0, none⟩)) ∧ Dice w' w.heap.size ∧ Below w.heap.size w w' := by
  have hl := h.1
  have HB := hid h
  clear h
  go_enter Try.func76, Try.ntmps76
  go_wp2_with fail
  go_loopw [6] (fun i wr => RoRel w a len cap i wr) (fun i _ => len - (intOf i).toNat)
  case atStart => exact ⟨0, _, rfl, by omega, Blk.new _ _ _, (wrap64_rng _).1, (wrap64_rng _).2, below_new _ _⟩
  case round =>
    obtain ⟨k, h, rfl, hk, hx, h0, h1, hb⟩ := hrel
    by_cases hlt : k < len
    · obtain ⟨b, off, rfl, hbl, hc⟩ := HB.out.2.resolve_left (by omega)
      obtain ⟨x, x0, x1, hcx⟩ := hc k hlt
      have hc1 := (hb.cell (p := ⟨b, off + k, none⟩) hbl).trans hcx
      have c2 := hx.cell 2 (by simp)
      have f2 := hx.frozen 2
      have hltI : (k : Int) < len := by omega
      have HX := hid hx
      have HBB := hid hb
      clear hc hcx hx hb
      go_wp2_with fail
      go_still_tail 15, (by kernel_rfl)
      change wpList _ _ _ _ _ (World.drew _)
      go_wp2_with fail
      go_roundw
      case rel => exact ⟨k + 1, _, by go_num, by omega, HX.out.drew.set 2 _, (wrap64_rng _).1, (wrap64_rng _).2, (HBB.out.drew).setCell (Nat.le_refl _) _⟩
      case measure => simp [intOf]; omega
    · obtain rfl : k = len := by omega
      have HX := hid hx
      have HBB := hid hb
      clear hx hb
      go_wp2_with fail
      go_ret
      refine ⟨rfl, ⟨_, k, cap, 0, h, HX.out, by omega, by omega, h0, h1, HB.out.kept (Kept.of_below (X := fun _ => False) HBB.out) (fun k e => e.elim)⟩, HBB.out⟩

set_option maxHeartbeats 1000000 in
set_option maxRecDepth 100000 in
theorem below_any (b : Nat) (n : Int) (w : World) (hn : 1 ≤ n) (hn2 : n ≤ 1000000000) (h : Dice w b) :
    Calls Try.prog 77 #[.pointer (some ⟨b, 0, none⟩), .int .i64 n] w fun e w' => ∃ r : Int, e = .returned (.int .i64 r) ∧ 0 ≤ r ∧ r < n ∧ Kept (· = b) w w' := by
  obtain ⟨a, len, cap, i, h, hx, hi0, hi1, h0, h1, hb⟩ := h
  have hl := hb.1
  obtain ⟨H, hH⟩ : ∃ H, IntKind.u64.wrap (IntKind.u64.wrap (h * 6364136223846793005) + 1442695040888963407) = H := ⟨_, rfl⟩
  have hH0 : 0 ≤ H ∧ H < 18446744073709551616 := by rw [← hH]; exact wrap64_rng _
  obtain ⟨H0, H1⟩ := hH0
  obtain ⟨M, hM, hM1⟩ : ∃ M : Nat, bits .and .u64 (H / 8589934592) 16777215 = (M : Int) ∧ M ≤ 16777215 := by
    refine ⟨(H / 8589934592).toNat &&& 16777215, ?_, Nat.and_le_right⟩
    have := u64_and (H / 8589934592) 16777215 (by omega) (by omega) (by omega) (by omega)
    simpa using this
  have hw : wrap64 (M : Int) = M := by unfold wrap64; omega
  have hmod : ∀ z : Int, 0 ≤ z % n ∧ z % n < n := fun z => ⟨Int.emod_nonneg z (by omega), Int.emod_lt_of_pos z (by omega)⟩
  have HMOD := hid hmod
  clear hmod
  have c0 := hx.cell 0 (by simp)
  have c1 := hx.cell 1 (by simp)
  have c2 := hx.cell 2 (by simp)
  have f1 := hx.frozen 1
  have f2 := hx.frozen 2
  have HX := hid hx
  have hbl := hx.lt
  clear hx
  go_enter Try.func77, Try.ntmps77
  go_wp2_with fail
  have hx2 := HX.out.set 2 (.int .u64 H)
  simp only [List.setIfInBounds_toArray, List.set_cons_succ, List.set_cons_zero] at hx2
  obtain ⟨W, hW⟩ : ∃ W, w.setCell ⟨b, 2, none⟩ (.int .u64 H) = W := ⟨_, rfl⟩
  have hk2 : Kept (· = b) w W := by rw [← hW]; exact (Kept.refl (· = b) w).setCell (p := ⟨b, 2, none⟩) rfl _
  rw [hW] at hx2 ⊢
  have d0 := hx2.cell 0 (by simp)
  have d1 := hx2.cell 1 (by simp)
  have g1 := hx2.frozen 1
  have HK := hid hk2
  have HB := hid hb
  clear c0 c1 c2 f1 f2 HX hW hk2 hb hx2
  go_quiet (fail)
  by_cases hlt : i < len
  · obtain ⟨x0, off, rfl, hbl2, hc⟩ := HB.out.2.resolve_left (by omega)
    obtain ⟨j, rfl⟩ : ∃ j : Nat, i = j := ⟨i.toNat, by omega⟩
    obtain ⟨y, y0, y1, hcy⟩ := hc j (by omega)
    have hc1 := HK.out.cell hcy (by simp only; omega)
    clear hc hcy
    go_wp2_with fail
    go_quiet (fail)
    go_wp2_with fail
    go_ret
    have := HMOD.out ((M : Int) + y)
    exact ⟨_, rfl, this.1, this.2, (HK.out.drewN _).setCell (p := ⟨b, 1, none⟩) rfl _⟩
  · go_wp2_with fail
    go_ret
    have := HMOD.out (M : Int)
    exact ⟨_, rfl, this.1, this.2, HK.out.drewN _⟩

end Go.Proofs.Ytdapdaadglaoiaa
