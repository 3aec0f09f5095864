/- Helpers of the exact laws on one node: toNode, szNode. -/
import Derived.Test.YtdapdaadglaoiaaBase
import Derived.Test.YtdapdaadglaoiaaNet
namespace Go.Proofs.Ytdapdaadglaoiaa
open Go.RowKit

/-- The value of a node. -/
abbrev vN (x : Nd) : Value := .agg #[.string x.name, .int .i64 x.low, .int .i64 x.high]

theorem toNode_any (x : Nd) (w : World) :
    Calls Try.prog 159 #[.agg #[.string x.name, .int .i64 x.low, .int .i64 x.high]] w fun e w' => e = .returned (.agg #[.string x.name, .int .i64 x.low, .int .i64 x.high]) ∧ Below w.heap.size w w' := by
  go_enter Try.func159, Try.ntmps159
  go_wp2
  refine bodyPost_ret (v := .agg #[.string x.name, .int .i64 x.low, .int .i64 x.high]) (by simp [results, Try.results159, go_sem]) rfl ⟨rfl, ?_⟩
  exact (((Below.refl _ _).alloc (Nat.le_refl _) _).alloc (by simp) _).alloc (by simp; omega) _

def szL (l n : Int) : Int := if n ≤ l then l - n else -1
theorem szNode_any (x : Nd) (l : Int) (w : World) (hs : x.name.size ≤ 9223372036854775807) (h0 : 0 ≤ l) (h1 : l ≤ 2000000) :
    Calls Try.prog 158 #[.agg #[.string x.name, .int .i64 x.low, .int .i64 x.high], .int .i64 l] w fun e w' => e = .returned (.int .i64 (szL l x.name.size)) ∧ Below w.heap.size w w' := by
  by_cases h : (x.name.size : Int) ≤ l
  · have hr : Hid (szL l x.name.size = l - x.name.size) := if_pos h
    go_enter Try.func158, Try.ntmps158
    go_wp2
    go_ret
    exact ⟨ret_int hr.out.symm, (Below.refl _ _).alloc (Nat.le_refl _) _⟩
  · have hr : Hid (szL l x.name.size = -1) := if_neg h
    go_enter Try.func158, Try.ntmps158
    go_wp2
    go_ret
    exact ⟨ret_int hr.out.symm, (Below.refl _ _).alloc (Nat.le_refl _) _⟩

end Go.Proofs.Ytdapdaadglaoiaa
