/- NodeNamed, both. -/
import Derived.Test.YtdbgncinaacheaaGreatDoorIsNetS
namespace Go.Proofs.YtdbgncinaacheaaGreatDoor
open Go.RowKit

theorem ret_two {a b c d : Int} (h : c = a ∧ d = b) : (Ending.returned (.tuple #[.int .i64 a, .int .i64 b]) : Ending) = .returned (.tuple #[.int .i64 c, .int .i64 d]) := by rw [h.1, h.2]

def nnA (n : Net) (s : ByteArray) : Int := if netB n = true then (if nIdx n.nodes s < 0 then 0 else nIdx n.nodes s) else 0
def nnB (n : Net) (s : ByteArray) : Int := if netB n = true then (if nIdx n.nodes s < 0 then 4 else 0) else 1

def NnRel (ns : List Nd) (s : ByteArray) (W : World) (v : Value) (wr : World) : Prop := ∃ k : Nat, v = .int .i64 k ∧ k ≤ ns.length ∧ (∀ j (hj : j < ns.length), j < k → sEq ns[j].name s = false) ∧ wr = W

end Go.Proofs.YtdbgncinaacheaaGreatDoor
