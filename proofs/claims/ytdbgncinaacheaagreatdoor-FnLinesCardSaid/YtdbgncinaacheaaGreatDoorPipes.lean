/- pipesAt, l02At: the pipes at a node. -/
import Derived.Test.YtdbgncinaacheaaGreatDoorCode
import Derived.Test.YtdbgncinaacheaaGreatDoorOwn
namespace Go.Proofs.YtdbgncinaacheaaGreatDoor
open Go.RowKit

/-- The indices below k of the pipes with f. -/
def selP (f : Pp → Bool) (ps : List Pp) (k : Nat) : List Int := ((List.range k).filter (fun i => f (ps.getD i zP))).map (fun i : Nat => (i : Int))
theorem selP_succ (f : Pp → Bool) (ps : List Pp) (k : Nat) (h : k < ps.length) : selP f ps (k + 1) = selP f ps k ++ (if f ps[k] = true then [(k : Int)] else []) := by
  have e : ps.getD k zP = ps[k] := by simp [List.getD, h]
  unfold selP
  rw [List.range_succ, List.filter_append, List.map_append]
  congr 1
  by_cases hf : f ps[k] = true
  · rw [if_pos hf, List.filter_cons, e, if_pos hf]; rfl
  · rw [if_neg hf, List.filter_cons, e, if_neg hf]; rfl
theorem selP_len (f : Pp → Bool) (ps : List Pp) (k : Nat) : (selP f ps k).length ≤ k := by
  unfold selP
  rw [List.length_map]
  exact Nat.le_trans (List.length_filter_le _ _) (by simp)
def atF (v : Int) (p : Pp) : Bool := p.fr == v || p.to == v
def PaRel (f : Pp → Bool) (ps : List Pp) (w : World) (i s : Value) (wr : World) : Prop :=
  ∃ k : Nat, i = .int .i64 k ∧ k ≤ ps.length ∧ OwnI 2 w.heap.size wr s (selP f ps k) ∧ Below w.heap.size w wr

def PsRel (f : Pp → Bool) (ps : List Pp) (w : World) (l : List Value) (i s : Value) (wr : World) : Prop :=
  ∃ k : Nat, i = .int .i64 k ∧ k ≤ ps.length ∧ OwnI 2 w.heap.size wr s (selP f ps k) ∧ Below w.heap.size w wr ∧ Box wr w.heap.size l ∧ ¬ s.ownBlock = some w.heap.size

end Go.Proofs.YtdbgncinaacheaaGreatDoor
