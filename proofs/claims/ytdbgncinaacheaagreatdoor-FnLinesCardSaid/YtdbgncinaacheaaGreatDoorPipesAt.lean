/- checkNodes, l02NodeCode, PipesAt of both sides. -/
import Derived.Test.YtdbgncinaacheaaGreatDoorPipes
namespace Go.Proofs.YtdbgncinaacheaaGreatDoor
open Go.RowKit

/-- The code of a network and nodes. -/
def codeNs (n : Net) (zs : List Int) : Int := if netB n = true then (if zs.all (fun z => inB z 0 ((n.nodes.length : Int) - 1)) = true then 0 else 2) else 1
def CkRel (m : Nat) (zs : List Int) (W : World) (i : Value) (wr : World) : Prop := ∃ k : Nat, i = .int .i64 k ∧ k ≤ zs.length ∧ (∀ j (hj : j < zs.length), j < k → inB zs[j] 0 ((m : Int) - 1) = true) ∧ Below W.heap.size W wr

/-- A fresh list of numbers and a code. -/
def OutI (w : World) (p : List Int × Int) (e : Ending) (w' : World) : Prop :=
  ∃ r, e = .returned (.tuple #[r, .int .i64 p.2]) ∧ Slc (fun b => w.heap.size ≤ b ∧ b < w'.heap.size) w' r p.1 ∧ Below w.heap.size w w'
def paR (n : Net) (v : Int) : List Int × Int := if codeNs n [v] = 0 then (selP (atF v) n.pipes n.pipes.length, 0) else ([], codeNs n [v])

theorem paR_len (n : Net) (v : Int) (h : n.pipes.length ≤ 2000000) : (paR n v).1.length ≤ 2000000 := by
  unfold paR
  split
  · exact Nat.le_trans (selP_len _ _ _) h
  · simp

end Go.Proofs.YtdbgncinaacheaaGreatDoor
