/- Codes of networks with nodes and pipes; OtherEnd, both. -/
import Derived.Test.YtdapdaadglaoiaaNamed
namespace Go.Proofs.Ytdapdaadglaoiaa
open Go.RowKit

theorem isPipeOf_alloc (nv pv : Value) (m : Nat) (x : Int) (w : World) (hl : m ≤ 9223372036854775807) (hnv : ∃ a n c, nv = .slice a n c) (hpv : ∃ a c, pv = .slice a m c) :
    Calls Try.prog 93 #[.agg #[nv, pv], .int .i64 x] w fun e w' => e = .returned (.bool (inB x 0 ((m : Int) - 1))) ∧ w' = w.alloc (.cells #[nv, pv] 27) := by
  obtain ⟨a1, n1, k1, rfl⟩ := hnv
  obtain ⟨a0, k0, rfl⟩ := hpv
  go_enter Try.func93, Try.ntmps93
  go_wp2_with (go_at_call 99; refine (within_any _ _ _ _).mono ?_; rintro e w' ⟨rfl, rfl⟩)
  go_ret
  exact ⟨rfl, rfl⟩
theorem l02Node_alloc (nv pv : Value) (m : Nat) (x : Int) (w : World) (hl : m ≤ 9223372036854775807) (hnv : ∃ a c, nv = .slice a m c) (hpv : ∃ a n c, pv = .slice a n c) :
    Calls Try.prog 97 #[.agg #[nv, pv], .int .i64 x] w fun e w' => e = .returned (.bool (inB x 0 ((m : Int) - 1))) ∧ w' = w.alloc (.cells #[nv, pv] 27) := by
  obtain ⟨a1, n1, k1, rfl⟩ := hpv
  obtain ⟨a0, k0, rfl⟩ := hnv
  go_enter Try.func97, Try.ntmps97
  go_wp2_with (go_at_call 91; refine (l01In_any _ _ _ _).mono ?_; rintro e w' ⟨rfl, rfl⟩)
  go_ret
  exact ⟨rfl, rfl⟩
def oth (p : Pp) (v : Int) : Int := if p.fr = v then p.to else p.fr
theorem otherEnd_alloc (p : Pp) (v : Int) (w : World) :
    Calls Try.prog 95 #[.agg #[.int .i64 p.fr, .int .i64 p.to, .int .i64 p.k, .int .i64 p.vol, .int .i64 p.lim], .int .i64 v] w fun e w' => e = .returned (.int .i64 (oth p v)) ∧ w' = w.alloc (.cells #[.int .i64 p.fr, .int .i64 p.to, .int .i64 p.k, .int .i64 p.vol, .int .i64 p.lim] 73) := by
  obtain ⟨fr, tt, pk, vol, lim⟩ := p
  by_cases h : fr = v
  · subst h
    have hr : Hid (oth ⟨fr, tt, pk, vol, lim⟩ fr = tt) := if_pos rfl
    go_enter Try.func95, Try.ntmps95
    go_wp2_with fail
    go_ret
    exact ⟨ret_int hr.out.symm, rfl⟩
  · have hr : Hid (oth ⟨fr, tt, pk, vol, lim⟩ v = fr) := if_neg h
    go_enter Try.func95, Try.ntmps95
    go_wp2_with fail
    go_ret
    exact ⟨ret_int hr.out.symm, rfl⟩

/-- The code of a network and a number that must be in 0 .. m - 1. -/
def codeOf (n : Net) (m : Nat) (x : Int) : Int := if netB n = true then (if inB x 0 ((m : Int) - 1) = true then 0 else 2) else 1

set_option maxHeartbeats 400000 in
theorem l02PipeCode_any (nv pv : Value) (n : Net) (x : Int) (w : World) (h : NetAt w nv pv n) :
    Calls Try.prog 96 #[.agg #[nv, pv], .int .i64 x] w fun e w' => e = .returned (.int .i64 (codeOf n n.pipes.length x)) ∧ Below w.heap.size w w' := by
  obtain ⟨a0, k0, rfl⟩ := h.1.shape
  obtain ⟨a1, k1, rfl⟩ := h.2.2.shape
  have hl := h.2.2.1
  have hWb := below_new w (.cells #[.slice a0 n.nodes.length k0, .slice a1 n.pipes.length k1] 27)
  have hbx := Box.new w #[.slice a0 n.nodes.length k0, .slice a1 n.pipes.length k1] 27
  have h := h.below hWb
  go_enter Try.func96, Try.ntmps96
  go_wp2_with fail
  refine (spec_IsNetwork_any _ _ n _ h).mono ?_
  cases hb : netB n
  · have ha : Hid (codeOf n n.pipes.length x = 1) := by simp [Hid, codeOf, hb]
    rintro e w1 ⟨rfl, b1⟩
    have B := hid (hWb.trans (b1.mono hWb.size))
    go_wp2_with fail
    go_ret
    exact ⟨ret_int ha.out.symm, B.out⟩
  · rintro e w1 ⟨rfl, b1⟩
    have B := hid (hWb.trans (b1.mono hWb.size))
    obtain ⟨c0, c1⟩ := (hbx.below b1).two
    clear hWb b1 hbx h
    cases hx : inB x 0 ((n.pipes.length : Int) - 1)
    · have ha : Hid (codeOf n n.pipes.length x = 2) := by simp [Hid, codeOf, hb, hx]
      go_wp2_with (go_at_call 91; refine (l01In_any _ _ _ _).mono ?_; rintro e w' ⟨rfl, rfl⟩)
      go_ret
      exact ⟨ret_int ha.out.symm, B.out⟩
    · have ha : Hid (codeOf n n.pipes.length x = 0) := by simp [Hid, codeOf, hb, hx]
      go_wp2_with (go_at_call 91; refine (l01In_any _ _ _ _).mono ?_; rintro e w' ⟨rfl, rfl⟩)
      go_ret
      exact ⟨ret_int ha.out.symm, B.out⟩

theorem l02Other_any (nv pv : Value) (n : Net) (k : Nat) (v : Int) (w : World) (h : NetAt w nv pv n) (hk : k < n.pipes.length) (h1 : 0 ≤ n.pipes[k].fr) (h2 : n.pipes[k].fr ≤ 1000) (h3 : 0 ≤ n.pipes[k].to) (h4 : n.pipes[k].to ≤ 1000) (h5 : 0 ≤ v) (h6 : v ≤ 1000) :
    Calls Try.prog 98 #[.agg #[nv, pv], .int .i64 k, .int .i64 v] w fun e w' => e = .returned (.int .i64 (n.pipes[k].fr + n.pipes[k].to - v)) ∧ Below w.heap.size w w' := by
  obtain ⟨a0, k0, rfl⟩ := h.1.shape
  obtain ⟨a1, k1, rfl⟩ := h.2.2.shape
  have hl := h.2.2.1
  have hWb := hid (below_new w (.cells #[.slice a0 n.nodes.length k0, .slice a1 n.pipes.length k1] 27))
  have hp := h.2.2
  obtain ⟨b, off, rfl, hb, hcc⟩ := hp.at' (by omega)
  obtain ⟨c0, c1, c2, c3, c4⟩ := cellsP (hcc k hk)
  clear hcc hp h
  go_enter Try.func98, Try.ntmps98
  go_wp2_with fail
  go_quiet (fail)
  go_wp2_with fail
  go_ret
  have hw : IntKind.i64.wrap (IntKind.i64.wrap (n.pipes[k].fr + n.pipes[k].to) - v) = n.pipes[k].fr + n.pipes[k].to - v := by rw [IntKind.wrap_i64, IntKind.wrap_i64]; omega
  exact ⟨ret_int hw, below_drewN hWb.out _⟩

def pAt (n : Net) (x : Int) : Pp := n.pipes.getD x.toNat zP
theorem pAt_nat {n : Net} {k : Nat} (hk : k < n.pipes.length) : pAt n k = n.pipes[k] := by simp [pAt, List.getD, hk]
def oeB (n : Net) (x v : Int) : Int := if netB n = true then (if inB x 0 ((n.pipes.length : Int) - 1) = true ∧ inB v 0 ((n.nodes.length : Int) - 1) = true then (if (pAt n x).fr = v ∨ (pAt n x).to = v then 0 else 5) else 2) else 1
def oeA (n : Net) (x v : Int) : Int := if oeB n x v = 0 then oth (pAt n x) v else 0

set_option maxHeartbeats 1000000 in
theorem impl_OtherEnd_any (nv pv : Value) (n : Net) (x v : Int) (w : World) (h : NetAt w nv pv n) (hcap : CapOk nv) :
    Calls Try.prog 20 #[.agg #[nv, pv], .int .i64 x, .int .i64 v] w fun e w' => e = .returned (.tuple #[.int .i64 (oeA n x v), .int .i64 (oeB n x v)]) ∧ Below w.heap.size w w' := by
  obtain ⟨a0, k0, rfl⟩ := h.1.shape
  obtain ⟨a1, k1, rfl⟩ := h.2.2.shape
  have hl := h.2.2.1
  have hl1 := h.1.1
  have hWb := below_new w (.cells #[.slice a0 n.nodes.length k0, .slice a1 n.pipes.length k1] 27)
  have hbx := Box.new w #[.slice a0 n.nodes.length k0, .slice a1 n.pipes.length k1] 27
  have h := h.below hWb
  go_enter Try.func20, Try.ntmps20
  go_wp2_with fail
  refine (impl_IsNetwork_any _ _ n _ h hcap).mono ?_
  cases hb : netB n
  · have ha : oeB n x v = 1 := by simp [oeB, hb]
    have ha : Hid (oeA n x v = 0 ∧ oeB n x v = 1) := by simp [Hid, oeA, ha]
    rintro e w1 ⟨rfl, b1⟩
    have B := hid (hWb.trans (b1.mono hWb.size))
    go_wp2_with fail
    go_ret2
    exact ⟨ret_two ha.out, B.out⟩
  rintro e w1 ⟨rfl, b1⟩
  have B := hid (hWb.trans (b1.mono hWb.size))
  have hb1 := hbx.below b1
  obtain ⟨c0, c1⟩ := hb1.two
  have hz := hb1.1
  have hp := (h.below b1).2.2
  clear hWb b1 hbx h hb1
  cases hx : inB x 0 ((n.pipes.length : Int) - 1)
  · have ha : oeB n x v = 2 := by simp [oeB, hb, hx]
    have ha : Hid (oeA n x v = 0 ∧ oeB n x v = 2) := by simp [Hid, oeA, ha]
    go_wp2_with (go_at_call 93; refine (isPipeOf_alloc _ _ n.pipes.length _ _ hl ⟨_, _, _, rfl⟩ ⟨_, _, rfl⟩).mono ?_; rintro e w2 ⟨rfl, rfl⟩)
    go_ret2
    exact ⟨ret_two ha.out, by repeat (first | exact B.out | apply below_al)⟩
  cases hv : inB v 0 ((n.nodes.length : Int) - 1)
  · have ha : oeB n x v = 2 := by simp [oeB, hb, hv]
    have ha : Hid (oeA n x v = 0 ∧ oeB n x v = 2) := by simp [Hid, oeA, ha]
    go_wp2_with (first | (go_at_call 93; refine (isPipeOf_alloc _ _ n.pipes.length _ _ hl ⟨_, _, _, rfl⟩ ⟨_, _, rfl⟩).mono ?_; rintro e w2 ⟨rfl, rfl⟩) | (go_at_call 94; refine (isNodeOf_alloc _ _ n.nodes _ _ hl1 ⟨_, _, rfl⟩ ⟨_, _, _, rfl⟩).mono ?_; rintro e w2 ⟨rfl, rfl⟩))
    go_ret2
    exact ⟨ret_two ha.out, by repeat (first | exact B.out | apply below_al)⟩
  obtain ⟨x1, x2⟩ := inB_t hx
  obtain ⟨k, rfl⟩ : ∃ k : Nat, x = k := ⟨x.toNat, by omega⟩
  have hk : k < n.pipes.length := by omega
  obtain ⟨b, off, rfl, hbl, hcc⟩ := hp.at' (by omega)
  obtain ⟨d0, d1, d2, d3, d4⟩ := cellsP (hcc k hk)
  have hq := pAt_nat hk
  clear hcc hp
  by_cases e1 : n.pipes[k].fr = v
  · have ha : oeB n k v = 0 := by simp [oeB, hb, hx, hv, hq, e1]
    have ha : Hid (oeA n k v = oth n.pipes[k] v ∧ oeB n k v = 0) := by simp [Hid, oeA, ha, hq]
    have f1 : (v != n.pipes[k].fr) = false := by simp [e1]
    clear e1 hq
    go_wp2_with (first | (go_at_call 93; refine (isPipeOf_alloc _ _ n.pipes.length _ _ hl ⟨_, _, _, rfl⟩ ⟨_, _, rfl⟩).mono ?_; rintro e w2 ⟨rfl, rfl⟩) | (go_at_call 94; refine (isNodeOf_alloc _ _ n.nodes _ _ hl1 ⟨_, _, rfl⟩ ⟨_, _, _, rfl⟩).mono ?_; rintro e w2 ⟨rfl, rfl⟩) | (go_at_call 95; refine (otherEnd_alloc n.pipes[k] v _).mono ?_; rintro e w2 ⟨rfl, rfl⟩))
    go_ret2
    exact ⟨ret_two ha.out, by repeat (first | exact B.out | apply below_al)⟩
  have f1 : (v != n.pipes[k].fr) = true := by simpa using (fun e => e1 e.symm : ¬ v = n.pipes[k].fr)
  by_cases e2 : n.pipes[k].to = v
  · have ha : oeB n k v = 0 := by simp [oeB, hb, hx, hv, hq, e2]
    have ha : Hid (oeA n k v = oth n.pipes[k] v ∧ oeB n k v = 0) := by simp [Hid, oeA, ha, hq]
    have f2 : (v != n.pipes[k].to) = false := by simp [e2]
    clear e1 e2 hq
    go_wp2_with (first | (go_at_call 93; refine (isPipeOf_alloc _ _ n.pipes.length _ _ hl ⟨_, _, _, rfl⟩ ⟨_, _, rfl⟩).mono ?_; rintro e w2 ⟨rfl, rfl⟩) | (go_at_call 94; refine (isNodeOf_alloc _ _ n.nodes _ _ hl1 ⟨_, _, rfl⟩ ⟨_, _, _, rfl⟩).mono ?_; rintro e w2 ⟨rfl, rfl⟩) | (go_at_call 95; refine (otherEnd_alloc n.pipes[k] v _).mono ?_; rintro e w2 ⟨rfl, rfl⟩))
    go_ret2
    exact ⟨ret_two ha.out, by repeat (first | exact B.out | apply below_al)⟩
  · have ha : oeB n k v = 5 := by simp [oeB, hb, hx, hv, hq, e1, e2]
    have ha : Hid (oeA n k v = 0 ∧ oeB n k v = 5) := by simp [Hid, oeA, ha]
    have f2 : (v != n.pipes[k].to) = true := by simpa using (fun e => e2 e.symm : ¬ v = n.pipes[k].to)
    clear e1 e2 hq
    go_wp2_with (first | (go_at_call 93; refine (isPipeOf_alloc _ _ n.pipes.length _ _ hl ⟨_, _, _, rfl⟩ ⟨_, _, rfl⟩).mono ?_; rintro e w2 ⟨rfl, rfl⟩) | (go_at_call 94; refine (isNodeOf_alloc _ _ n.nodes _ _ hl1 ⟨_, _, rfl⟩ ⟨_, _, _, rfl⟩).mono ?_; rintro e w2 ⟨rfl, rfl⟩))
    go_ret2
    exact ⟨ret_two ha.out, by repeat (first | exact B.out | apply below_al)⟩

set_option maxHeartbeats 1000000 in
theorem spec_OtherEnd_any (nv pv : Value) (n : Net) (x v : Int) (w : World) (h : NetAt w nv pv n) :
    Calls Try.prog 21 #[.agg #[nv, pv], .int .i64 x, .int .i64 v] w fun e w' => e = .returned (.tuple #[.int .i64 (oeA n x v), .int .i64 (oeB n x v)]) ∧ Below w.heap.size w w' := by
  obtain ⟨a0, k0, rfl⟩ := h.1.shape
  obtain ⟨a1, k1, rfl⟩ := h.2.2.shape
  have hl := h.2.2.1
  have hl1 := h.1.1
  have hWb := below_new w (.cells #[.slice a0 n.nodes.length k0, .slice a1 n.pipes.length k1] 27)
  have hbx := Box.new w #[.slice a0 n.nodes.length k0, .slice a1 n.pipes.length k1] 27
  have h := h.below hWb
  go_enter Try.func21, Try.ntmps21
  go_wp2_with fail
  refine (l02PipeCode_any _ _ n x _ h).mono ?_
  cases hb : netB n
  · have ha : oeB n x v = 1 := by simp [oeB, hb]
    have ha : Hid (oeA n x v = 0 ∧ oeB n x v = 1) := by simp [Hid, oeA, ha]
    have hc : codeOf n n.pipes.length x = 1 := by simp [codeOf, hb]
    rw [hc]
    rintro e w1 ⟨rfl, b1⟩
    have B := hid (hWb.trans (b1.mono hWb.size))
    go_wp2_with fail
    go_ret2
    exact ⟨ret_two ha.out, B.out⟩
  cases hx : inB x 0 ((n.pipes.length : Int) - 1)
  · have ha : oeB n x v = 2 := by simp [oeB, hb, hx]
    have ha : Hid (oeA n x v = 0 ∧ oeB n x v = 2) := by simp [Hid, oeA, ha]
    have hc : codeOf n n.pipes.length x = 2 := by simp [codeOf, hb, hx]
    rw [hc]
    rintro e w1 ⟨rfl, b1⟩
    have B := hid (hWb.trans (b1.mono hWb.size))
    go_wp2_with fail
    go_ret2
    exact ⟨ret_two ha.out, B.out⟩
  have hc : codeOf n n.pipes.length x = 0 := by simp [codeOf, hb, hx]
  rw [hc]
  rintro e w1 ⟨rfl, b1⟩
  have B := hid (hWb.trans (b1.mono hWb.size))
  have hb1 := hbx.below b1
  obtain ⟨c0, c1⟩ := hb1.two
  have hz := hb1.1
  have h := h.below b1
  have hp := h.2.2
  clear hWb b1 hbx hb1 hc
  cases hv : inB v 0 ((n.nodes.length : Int) - 1)
  · have ha : oeB n x v = 2 := by simp [oeB, hb, hv]
    have ha : Hid (oeA n x v = 0 ∧ oeB n x v = 2) := by simp [Hid, oeA, ha]
    go_wp2_with (go_at_call 97; refine (l02Node_alloc _ _ n.nodes.length _ _ hl1 ⟨_, _, rfl⟩ ⟨_, _, _, rfl⟩).mono ?_; rintro e w2 ⟨rfl, rfl⟩)
    go_ret2
    exact ⟨ret_two ha.out, by repeat (first | exact B.out | apply below_al)⟩
  obtain ⟨x1, x2⟩ := inB_t hx
  obtain ⟨k, rfl⟩ : ∃ k : Nat, x = k := ⟨x.toNat, by omega⟩
  have hk : k < n.pipes.length := by omega
  obtain ⟨b, off, rfl, hbl, hcc⟩ := hp.at' (by omega)
  obtain ⟨d0, d1, d2, d3, d4⟩ := cellsP (hcc k hk)
  have hq := pAt_nat hk
  obtain ⟨v1, v2⟩ := inB_t hv
  have hpp := netB_pipe hb (List.getElem_mem hk)
  have hn24 := (netB_t hb).2.1
  clear hcc hp
  by_cases e1 : n.pipes[k].fr = v
  · have ha : oeB n k v = 0 := by simp [oeB, hb, hx, hv, hq, e1]
    have ha : Hid (oeA n k v = n.pipes[k].fr + n.pipes[k].to - v ∧ oeB n k v = 0) := by refine ⟨?_, ha⟩; unfold oeA oth; rw [if_pos ha, hq, if_pos e1]; omega
    have f1 : (n.pipes[k].fr != v) = false := by simp [e1]
    obtain ⟨g1, g2, g3, g4, g5⟩ := hpp
    clear e1 hq
    go_wp2_with (first | (go_at_call 97; refine (l02Node_alloc _ _ n.nodes.length _ _ hl1 ⟨_, _, rfl⟩ ⟨_, _, _, rfl⟩).mono ?_; rintro e w2 ⟨rfl, rfl⟩) | (go_at_call 98; refine (l02Other_any _ _ n k v _ (h.below (below_new _ _)) hk (by omega) (by omega) (by omega) (by omega) (by omega) (by omega)).mono ?_; rintro e w3 ⟨rfl, b3⟩))
    go_ret2
    exact ⟨ret_two ha.out, (below_al B.out).trans (b3.mono (below_al B.out).size)⟩
  have f1 : (n.pipes[k].fr != v) = true := by simpa using e1
  by_cases e2 : n.pipes[k].to = v
  · have ha : oeB n k v = 0 := by simp [oeB, hb, hx, hv, hq, e2]
    have ha : Hid (oeA n k v = n.pipes[k].fr + n.pipes[k].to - v ∧ oeB n k v = 0) := by refine ⟨?_, ha⟩; unfold oeA oth; rw [if_pos ha, hq, if_neg e1]; omega
    have f2 : (n.pipes[k].to != v) = false := by simp [e2]
    obtain ⟨g1, g2, g3, g4, g5⟩ := hpp
    clear e1 e2 hq
    go_wp2_with (first | (go_at_call 97; refine (l02Node_alloc _ _ n.nodes.length _ _ hl1 ⟨_, _, rfl⟩ ⟨_, _, _, rfl⟩).mono ?_; rintro e w2 ⟨rfl, rfl⟩) | (go_at_call 98; refine (l02Other_any _ _ n k v _ (h.below (below_new _ _)) hk (by omega) (by omega) (by omega) (by omega) (by omega) (by omega)).mono ?_; rintro e w3 ⟨rfl, b3⟩))
    go_ret2
    exact ⟨ret_two ha.out, (below_al B.out).trans (b3.mono (below_al B.out).size)⟩
  · have ha : oeB n k v = 5 := by simp [oeB, hb, hx, hv, hq, e1, e2]
    have ha : Hid (oeA n k v = 0 ∧ oeB n k v = 5) := by simp [Hid, oeA, ha]
    have f2 : (n.pipes[k].to != v) = true := by simpa using e2
    clear e1 e2 hq hpp
    go_wp2_with (go_at_call 97; refine (l02Node_alloc _ _ n.nodes.length _ _ hl1 ⟨_, _, rfl⟩ ⟨_, _, _, rfl⟩).mono ?_; rintro e w2 ⟨rfl, rfl⟩)
    go_ret2
    exact ⟨ret_two ha.out, by repeat (first | exact B.out | apply below_al)⟩

end Go.Proofs.Ytdapdaadglaoiaa
