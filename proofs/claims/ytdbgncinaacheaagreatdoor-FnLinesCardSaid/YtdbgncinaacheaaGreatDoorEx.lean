/- Helpers of the exact laws on slices of integers: toInt64S, eqInt64S, markInt64S, heldInt64S. -/
import Derived.Test.YtdbgncinaacheaaGreatDoorBase
import Derived.Test.YtdbgncinaacheaaGreatDoorMem
import Derived.BigQuiet
import Derived.RegionTactic
namespace Go.Proofs.YtdbgncinaacheaaGreatDoor
open Go.RowKit

theorem info64 : (Tryz.prog.info? 2).map (fun i => (i.zero, i.size, i.bytes)) = some (some (.int .i64 0), 1, 8) := by kernel_rfl

def ToRel (T : TypeId) (zs : List Int) (w : World) (i : Value) (wr : World) : Prop :=
  ∃ k : Nat, i = .int .i64 k ∧ k ≤ zs.length ∧ IntBlk T wr w.heap.size (zs.take k ++ List.replicate (zs.length - k) 0) ∧ Below w.heap.size w wr

theorem fill_set (zs : List Int) (k : Nat) (h : k < zs.length) : (zs.take k ++ List.replicate (zs.length - k) 0).set k zs[k] = zs.take (k + 1) ++ List.replicate (zs.length - (k + 1)) 0 := by
  apply List.ext_getElem
  · simp; omega
  · intro i h1 h2
    simp only [List.getElem_set, List.getElem_append, List.length_take, List.getElem_take, List.getElem_replicate]
    by_cases e : k = i
    · subst e; rw [if_pos rfl, dif_pos (by omega)]
    · rw [if_neg e]
      by_cases e2 : i < k
      · rw [dif_pos (by omega), dif_pos (by omega)]
      · rw [dif_neg (by omega), dif_neg (by omega)]

def EqRel (zs ys : List Int) (w : World) (i : Value) (wr : World) : Prop :=
  ∃ k m : Nat, i = .int .i64 k ∧ k ≤ zs.length ∧ zs.take k = ys.take k ∧ wr = w.drewN m

theorem take_succ_eq {zs ys : List Int} {k : Nat} (h1 : k < zs.length) (h2 : k < ys.length) (h : zs.take k = ys.take k) (e : zs[k] = ys[k]) : zs.take (k + 1) = ys.take (k + 1) := by
  rw [List.take_succ_eq_append_getElem h1, List.take_succ_eq_append_getElem h2, h, e]

/-- The numbers k, k + 1, .. -/
def iota (k : Int) (n : Nat) : List Int := (List.range n).map (fun i : Nat => k + (i : Int))
theorem iota_length (k : Int) (n : Nat) : (iota k n).length = n := by simp [iota]
theorem iota_get (k : Int) (n i : Nat) (h : i < (iota k n).length) : (iota k n)[i] = k + i := by simp [iota]
theorem iota_set (k : Int) (zs : List Int) (i : Nat) (h : i < zs.length) : (iota k i ++ zs.drop i).set i (k + i) = iota k (i + 1) ++ zs.drop (i + 1) := by
  apply List.ext_getElem
  · simp [iota]; omega
  · intro j h1 h2
    simp only [List.getElem_set, List.getElem_append, iota_length, iota_get, List.getElem_drop]
    by_cases e : i = j
    · subst e; rw [if_pos rfl, dif_pos (by omega)]
    · rw [if_neg e]
      by_cases e2 : j < i
      · rw [dif_pos (by omega), dif_pos (by omega)]
      · rw [dif_neg (by omega), dif_neg (by omega)]
        congr 1; omega

def MarkRel (P : Nat → Prop) (v : Value) (zs : List Int) (k0 : Int) (w : World) (t i : Value) (wr : World) : Prop :=
  ∃ k : Nat, i = .int .i64 k ∧ t = .int .i64 (k0 + k) ∧ k ≤ zs.length ∧ Slc P wr v (iota k0 k ++ zs.drop k) ∧ Kept P w wr

def HeldRel (n : Nat) (k0 : Int) (t i : Value) : Prop := ∃ k : Nat, i = .int .i64 k ∧ t = .int .i64 (k0 + k) ∧ k ≤ n

end Go.Proofs.YtdbgncinaacheaaGreatDoor
