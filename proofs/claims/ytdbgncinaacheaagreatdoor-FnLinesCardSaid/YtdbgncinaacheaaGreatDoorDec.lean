/- l01Dec: a number of at least 0 in decimal. -/
import Derived.Test.YtdbgncinaacheaaGreatDoorBase
import Derived.Test.YtdbgncinaacheaaGreatDoorMem
import Derived.Test.YtdbgncinaacheaaGreatDoorNet
import Derived.Lib.ItoaNum
import Derived.IntWalk
import Derived.Deep.QuietTactic
import Derived.RegionTactic
import Derived.Deep.RegionHeld3
import Derived.Lib.SliceRun
import Derived.Laws.BytesArg
namespace Go.Proofs.YtdbgncinaacheaaGreatDoor
open Go.RowKit

theorem strOne_sz (z : Int) : (strOfNums [z]).size = 1 := rfl
set_option maxRecDepth 100000 in
theorem conv_one' (W : World) (z : Int) : (convert 22 9 (.slice (some ⟨W.heap.size, 0, none⟩) 1 1)).run Tryz.prog (W.alloc (.cells #[.int .u8 z] 5)) = .ok (.string (strOfNums [z])) (W.alloc (.cells #[.int .u8 z] 5)) :=
  run_convert_bytes_arg _ 22 5 Tryz.underlying22 Tryz.underlying5 W.heap.size 0 1 1 [z] rfl (fun i hi => by
    obtain rfl : i = 0 := by omega
    rw [World.cell?_alloc_new]; rfl) 9 Tryz.underlying9

set_option maxRecDepth 100000 in
theorem conv_at (W : World) (b : Nat) (z : Int) (hc : W.cell? ⟨b, 0, none⟩ = some (.int .u8 z)) : (convert 22 9 (.slice (some ⟨b, 0, none⟩) 1 1)).run Tryz.prog W = .ok (.string (strOfNums [z])) W :=
  run_convert_bytes_arg _ 22 5 Tryz.underlying22 Tryz.underlying5 b 0 1 1 [z] rfl (fun i hi => by
    obtain rfl : i = 0 := by omega
    exact hc) 9 Tryz.underlying9

/-- The digits of a number. -/
def decS (n : Nat) : ByteArray := if n < 10 then strOfNums [48 + (n : Int)] else decS (n / 10) ++ strOfNums [48 + ((n % 10 : Nat) : Int)]
termination_by n

theorem decS_sz (k n : Nat) (h : n < 10 ^ (k + 1)) : (decS n).size ≤ k + 1 := by
  induction k generalizing n with
  | zero =>
    rw [decS, if_pos (by simpa using h), strOne_sz]
    omega
  | succ k ih =>
    rw [decS]
    split
    · rw [strOne_sz]; omega
    · rw [ByteArray.size_append, strOne_sz]
      have := ih (n / 10) (by rw [Nat.pow_succ] at h; omega)
      omega
theorem decS_sz19 (n : Nat) (h : n ≤ 9223372036854775807) : (decS n).size ≤ 19 := decS_sz 18 n (by omega)

set_option maxHeartbeats 1000000 in
set_option maxRecDepth 100000 in
theorem l01Dec_any (n : Nat) (w : World) (hn : n ≤ 9223372036854775807) :
    Calls Tryz.prog 38 #[.int .i64 n] w fun e w' => e = .returned (.string (decS n)) ∧ Below w.heap.size w w' := by
  induction n using Nat.strongRecOn generalizing w with
  | ind n ih =>
    by_cases h1 : n < 10
    · have hcv := conv_one' w (48 + (n : Int))
      have hd : Hid (decS n = strOfNums [48 + (n : Int)]) := by rw [Hid, decS, if_pos h1]
      have h1I : (n : Int) < 10 := by omega
      clear ih h1
      go_enter Tryz.func38, Tryz.ntmps38
      go_wp2_with fail
      go_ret
      rw [hd.out]
      exact ⟨rfl, below_new _ _⟩
    · have hd : Hid (decS n = decS (n / 10) ++ strOfNums [48 + ((n % 10 : Nat) : Int)]) := by rw [Hid, decS, if_neg h1]
      have h1I : ¬ ((n : Int) < 10) := by omega
      have IH := hid (ih (n / 10) (by omega))
      obtain ⟨q, hq⟩ : ∃ q, n / 10 = q := ⟨_, rfl⟩
      obtain ⟨r, hr⟩ : ∃ r, n % 10 = r := ⟨_, rfl⟩
      have hqI : (n : Int).tdiv 10 = (q : Int) := by rw [← hq]; rfl
      have hrI : (n : Int).tmod 10 = (r : Int) := by rw [← hr]; rfl
      have hr10 : r < 10 := by omega
      have hqn : q ≤ n := by omega
      have s1 : IntKind.i64.wrap (q : Int) = q := IntWalk.i64_in _ (by omega)
      have s2 : IntKind.i64.wrap (48 + (r : Int)) = 48 + r := IntWalk.i64_in _ (by omega)
      have s3 : IntKind.u8.wrap (48 + (r : Int)) = 48 + r := IntWalk.u8_in _ (by omega)
      rw [hq] at IH hd
      rw [hr] at hd
      clear ih h1 hq hr
      go_enter Tryz.func38, Tryz.ntmps38
      have z1 := decS_sz19 q (by omega)
      have z2 := strOne_sz (48 + (r : Int))
      have z3 : ¬ (9223372036854775807 < (decS q).size + 1) := by omega
      have hcv := fun W => conv_one' W (48 + (r : Int))
      have hcd := conv_at (w.alloc (.cells #[.int .u8 (48 + (r : Int))] 5)).drew w.heap.size (48 + (r : Int)) (by show World.cell? (w.alloc _) _ = _; rw [World.cell?_alloc_new]; rfl)
      go_wp2_with fail
      go_region_with (go_at_call 38; refine (IH.out _ (by omega)).mono ?_; rintro e w2 ⟨rfl, b2⟩; first | (have hcw := conv_at w2 w.heap.size (48 + (r : Int)) ((b2.cell (p := ⟨w.heap.size, 0, none⟩) (by simp)).trans (by first | (rw [World.cell?_alloc_new]; rfl) | (show World.cell? (w.alloc _) _ = _; rw [World.cell?_alloc_new]; rfl)))) | skip)
      all_goals
        go_wp2_with fail
        go_ret
        rw [hd.out]
        first
          | exact ⟨rfl, below_undrew b2⟩
          | exact ⟨rfl, (below_undrew b2).alloc (below_undrew b2).size _⟩
          | exact ⟨rfl, ((below_new _ _).trans (b2.mono (by simp)))⟩
          | exact ⟨rfl, ((below_new w _).drew.trans (b2.mono (by simp)))⟩
          | exact ⟨rfl, (below_undrew b2).trans ((below_new w2 _).mono (below_undrew b2).size)⟩

end Go.Proofs.YtdbgncinaacheaaGreatDoor
