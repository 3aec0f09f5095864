/- NodeNamed, both. -/
import Derived.Test.YtdapdaadglaoiaaIsNetS
namespace Go.Proofs.Ytdapdaadglaoiaa
open Go.RowKit

theorem ret_two {a b c d : Int} (h : c = a ∧ d = b) : (Ending.returned (.tuple #[.int .i64 a, .int .i64 b]) : Ending) = .returned (.tuple #[.int .i64 c, .int .i64 d]) := by rw [h.1, h.2]

def nnA (n : Net) (s : ByteArray) : Int := if netB n = true then (if nIdx n.nodes s < 0 then 0 else nIdx n.nodes s) else 0
def nnB (n : Net) (s : ByteArray) : Int := if netB n = true then (if nIdx n.nodes s < 0 then 4 else 0) else 1

set_option maxHeartbeats 400000 in
theorem impl_NodeNamed_any (nv pv : Value) (n : Net) (s : ByteArray) (w : World) (h : NetAt w nv pv n) (hcap : CapOk nv) :
    Calls Try.prog 71 #[.agg #[nv, pv], .string s] w fun e w' => e = .returned (.tuple #[.int .i64 (nnA n s), .int .i64 (nnB n s)]) ∧ Below w.heap.size w w' := by
  obtain ⟨a0, k0, rfl⟩ := h.1.shape
  obtain ⟨a1, k1, rfl⟩ := h.2.2.shape
  have hWb := below_new w (.cells #[.slice a0 n.nodes.length k0, .slice a1 n.pipes.length k1] 27)
  have hbx := Box.new w #[.slice a0 n.nodes.length k0, .slice a1 n.pipes.length k1] 27
  have h := h.below hWb
  go_enter Try.func71, Try.ntmps71
  go_wp2_with fail
  refine (impl_IsNetwork_any _ _ n _ h hcap).mono ?_
  cases hb : netB n
  · have ha : Hid (nnA n s = 0 ∧ nnB n s = 1) := by simp [Hid, nnA, nnB, hb]
    rintro e w1 ⟨rfl, b1⟩
    have B := hid (hWb.trans (b1.mono hWb.size))
    go_wp2_with fail
    go_ret2
    exact ⟨ret_two ha.out, B.out⟩
  · rintro e w1 ⟨rfl, b1⟩
    have B := hid (hWb.trans (b1.mono hWb.size))
    obtain ⟨c0, c1⟩ := (hbx.below b1).two
    have h := h.below b1
    clear hWb b1 hbx
    go_wp2_with fail
    refine (nodeIndex_any _ _ n.nodes s _ h.1 ⟨_, _, _, rfl⟩).mono ?_
    rintro e w2 ⟨rfl, b2⟩
    have B := hid (B.out.trans (b2.mono B.out.size))
    clear b2 h c0 c1
    cases hd : decide (nIdx n.nodes s < 0)
    · have ha : Hid (nnA n s = nIdx n.nodes s ∧ nnB n s = 0) := by
        have := of_decide_eq_false hd
        simp only [Hid, nnA, nnB, hb, if_true, if_neg this, and_self]
      go_wp2_with fail
      go_ret2
      exact ⟨ret_two ha.out, B.out⟩
    · have ha : Hid (nnA n s = 0 ∧ nnB n s = 4) := by
        have := of_decide_eq_true hd
        simp only [Hid, nnA, nnB, hb, if_true, if_pos this, and_self]
      go_wp2_with fail
      go_ret2
      exact ⟨ret_two ha.out, B.out⟩

def NnRel (ns : List Nd) (s : ByteArray) (W : World) (v : Value) (wr : World) : Prop := ∃ k : Nat, v = .int .i64 k ∧ k ≤ ns.length ∧ (∀ j (hj : j < ns.length), j < k → sEq ns[j].name s = false) ∧ wr = W

end Go.Proofs.Ytdapdaadglaoiaa
