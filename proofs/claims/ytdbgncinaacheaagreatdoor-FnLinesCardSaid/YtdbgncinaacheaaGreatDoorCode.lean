/- Codes of networks with nodes and pipes; OtherEnd, both. -/
import Derived.Test.YtdbgncinaacheaaGreatDoorNamed
namespace Go.Proofs.YtdbgncinaacheaaGreatDoor
open Go.RowKit

theorem isPipeOf_alloc (nv pv : Value) (m : Nat) (x : Int) (w : World) (hl : m ≤ 9223372036854775807) (hnv : ∃ a n c, nv = .slice a n c) (hpv : ∃ a c, pv = .slice a m c) :
    Calls Tryz.prog 24 #[.agg #[nv, pv], .int .i64 x] w fun e w' => e = .returned (.bool (inB x 0 ((m : Int) - 1))) ∧ w' = w.alloc (.cells #[nv, pv] 34) := by
  obtain ⟨a1, n1, k1, rfl⟩ := hnv
  obtain ⟨a0, k0, rfl⟩ := hpv
  go_enter Tryz.func24, Tryz.ntmps24
  go_wp2_with (go_at_call 40; refine (within_any _ _ _ _).mono ?_; rintro e w' ⟨rfl, rfl⟩)
  go_ret
  exact ⟨rfl, rfl⟩
def oth (p : Pp) (v : Int) : Int := if p.fr = v then p.to else p.fr
/-- The code of a network and a number that must be in 0 .. m - 1. -/
def codeOf (n : Net) (m : Nat) (x : Int) : Int := if netB n = true then (if inB x 0 ((m : Int) - 1) = true then 0 else 2) else 1

set_option maxHeartbeats 400000 in
theorem l02PipeCode_any (nv pv : Value) (n : Net) (x : Int) (w : World) (h : NetAt w nv pv n) :
    Calls Tryz.prog 26 #[.agg #[nv, pv], .int .i64 x] w fun e w' => e = .returned (.int .i64 (codeOf n n.pipes.length x)) ∧ Below w.heap.size w w' := by
  obtain ⟨a0, k0, rfl⟩ := h.1.shape
  obtain ⟨a1, k1, rfl⟩ := h.2.2.shape
  have hl := h.2.2.1
  have hWb := below_new w (.cells #[.slice a0 n.nodes.length k0, .slice a1 n.pipes.length k1] 34)
  have hbx := Box.new w #[.slice a0 n.nodes.length k0, .slice a1 n.pipes.length k1] 34
  have h := h.below hWb
  go_enter Tryz.func26, Tryz.ntmps26
  go_wp2_with fail
  refine (spec_IsNetwork_any _ _ n _ h).mono ?_
  cases hb : netB n
  · have ha : Hid (codeOf n n.pipes.length x = 1) := by simp [Hid, codeOf, hb]
    rintro e w1 ⟨rfl, b1⟩
    have B := hid (hWb.trans (b1.mono hWb.size))
    go_wp2_with fail
    go_ret
    exact ⟨ret_int ha.out.symm, B.out⟩
  · rintro e w1 ⟨rfl, b1⟩
    have B := hid (hWb.trans (b1.mono hWb.size))
    obtain ⟨c0, c1⟩ := (hbx.below b1).two
    clear hWb b1 hbx h
    cases hx : inB x 0 ((n.pipes.length : Int) - 1)
    · have ha : Hid (codeOf n n.pipes.length x = 2) := by simp [Hid, codeOf, hb, hx]
      go_wp2_with (go_at_call 45; refine (l01In_any _ _ _ _).mono ?_; rintro e w' ⟨rfl, rfl⟩)
      go_ret
      exact ⟨ret_int ha.out.symm, B.out⟩
    · have ha : Hid (codeOf n n.pipes.length x = 0) := by simp [Hid, codeOf, hb, hx]
      go_wp2_with (go_at_call 45; refine (l01In_any _ _ _ _).mono ?_; rintro e w' ⟨rfl, rfl⟩)
      go_ret
      exact ⟨ret_int ha.out.symm, B.out⟩

def pAt (n : Net) (x : Int) : Pp := n.pipes.getD x.toNat zP
theorem pAt_nat {n : Net} {k : Nat} (hk : k < n.pipes.length) : pAt n k = n.pipes[k] := by simp [pAt, List.getD, hk]
def oeB (n : Net) (x v : Int) : Int := if netB n = true then (if inB x 0 ((n.pipes.length : Int) - 1) = true ∧ inB v 0 ((n.nodes.length : Int) - 1) = true then (if (pAt n x).fr = v ∨ (pAt n x).to = v then 0 else 5) else 2) else 1
def oeA (n : Net) (x v : Int) : Int := if oeB n x v = 0 then oth (pAt n x) v else 0

end Go.Proofs.YtdbgncinaacheaaGreatDoor
