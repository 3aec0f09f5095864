/- PipeLine of both sides. -/
import Derived.Test.YtdbgncinaacheaaGreatDoorPL1
import Derived.Test.YtdbgncinaacheaaGreatDoorPL2
namespace Go.Proofs.YtdbgncinaacheaaGreatDoor
open Go.RowKit
open Go.Lib hiding intOf

def plA (n : Net) (x : Int) : ByteArray := if codeOf n n.pipes.length x = 0 then tb (ppL n.nodes (pAt n x)) else ⟨#[]⟩
theorem codeOf_zero' {n : Net} {m : Nat} {x : Int} (h : codeOf n m x = 0) : netB n = true ∧ 0 ≤ x ∧ x < m := by
  unfold codeOf at h
  split at h
  · next hb =>
    split at h
    · next hx => have := inB_t hx; exact ⟨hb, by omega, by omega⟩
    · cases h
  · cases h
theorem ret_sc {a b : ByteArray} {c d : Int} (h : a = b ∧ c = d) : (Ending.returned (.tuple #[.string b, .int .i64 d]) : Ending) = .returned (.tuple #[.string a, .int .i64 c]) := by rw [h.1, h.2]

set_option maxHeartbeats 1000000 in
set_option maxRecDepth 100000 in
theorem impl_PipeLine_any (nv pv : Value) (n : Net) (x : Int) (w : World) (h : NetAt w nv pv n) (hcap : CapOk nv) (ht : Tab w) :
    Calls Tryz.prog 11 #[.agg #[nv, pv], .int .i64 x] w fun e w' => e = .returned (.tuple #[.string (plA n x), .int .i64 (codeOf n n.pipes.length x)]) ∧ Below w.heap.size w w' := by
  obtain ⟨a0, k0, rfl⟩ := h.1.shape
  obtain ⟨a1, k1, rfl⟩ := h.2.2.shape
  have hl := h.2.2.1
  have hWb := below_new w (.cells #[.slice a0 n.nodes.length k0, .slice a1 n.pipes.length k1] 34)
  have hbx := Box.new w #[.slice a0 n.nodes.length k0, .slice a1 n.pipes.length k1] 34
  have h := h.below hWb
  have HT := hid (ht.below hWb)
  clear ht
  go_enter Tryz.func11, Tryz.ntmps11
  go_wp2_with fail
  refine (impl_IsNetwork_any _ _ n _ h hcap).mono ?_
  cases hb : netB n
  · have ha : Hid (plA n x = ⟨#[]⟩ ∧ codeOf n n.pipes.length x = 1) := by simp [Hid, plA, codeOf, hb]
    rintro e w1 ⟨rfl, b1⟩
    have B := hid (hWb.trans (b1.mono hWb.size))
    go_wp2_with fail
    go_ret2
    exact ⟨ret_sc ha.out, B.out⟩
  rintro e w1 ⟨rfl, b1⟩
  have B := hid (hWb.trans (b1.mono hWb.size))
  have hb1 := hbx.below b1
  obtain ⟨c0, c1⟩ := hb1.two
  have hz := hb1.1
  have h := h.below b1
  have HT := hid (HT.out.below b1)
  cases hx : inB x 0 ((n.pipes.length : Int) - 1)
  · have ha : Hid (plA n x = ⟨#[]⟩ ∧ codeOf n n.pipes.length x = 2) := by simp [Hid, plA, codeOf, hb, hx]
    clear hWb b1 hbx h hb1
    go_wp2_with (go_at_call 24; refine (isPipeOf_alloc _ _ n.pipes.length _ _ hl ⟨_, _, _, rfl⟩ ⟨_, _, rfl⟩).mono ?_; rintro e w2 ⟨rfl, rfl⟩)
    go_ret2
    exact ⟨ret_sc ha.out, by repeat (first | exact B.out | apply below_al)⟩
  · obtain ⟨x1, x2⟩ := inB_t hx
    obtain ⟨k, rfl⟩ : ∃ k : Nat, x = k := ⟨x.toNat, by omega⟩
    have hk : k < n.pipes.length := by omega
    have ha : Hid (plA n k = tb (ppL n.nodes n.pipes[k]) ∧ codeOf n n.pipes.length k = 0) := by simp [Hid, plA, codeOf, hb, hx, pAt_nat hk]
    have C : ∀ W, Below w1.heap.size w1 W → _ := fun W hW => pipeLine_any _ _ n k W (h.below hW) hb hk (HT.out.below hW)
    have HC := hid C
    clear hWb b1 hbx h hb1 C
    go_wp2_with (go_at_call 24; refine (isPipeOf_alloc _ _ n.pipes.length _ _ hl ⟨_, _, _, rfl⟩ ⟨_, _, rfl⟩).mono ?_; rintro e w2 ⟨rfl, rfl⟩)
    refine (HC.out _ (below_new _ _)).mono ?_
    rintro e w3 ⟨rfl, b3⟩
    have B3 := hid (B.out.trans (((below_new w1 _).trans (b3.mono (by simp))).mono B.out.size))
    clear b3
    go_wp2_with fail
    go_ret2
    exact ⟨ret_sc ha.out, B3.out⟩

set_option maxHeartbeats 1000000 in
set_option maxRecDepth 100000 in
theorem spec_PipeLine_any (nv pv : Value) (n : Net) (x : Int) (w : World) (h : NetAt w nv pv n) :
    Calls Tryz.prog 12 #[.agg #[nv, pv], .int .i64 x] w fun e w' => e = .returned (.tuple #[.string (plA n x), .int .i64 (codeOf n n.pipes.length x)]) ∧ Below w.heap.size w w' := by
  obtain ⟨a0, k0, rfl⟩ := h.1.shape
  obtain ⟨a1, k1, rfl⟩ := h.2.2.shape
  have hWb := below_new w (.cells #[.slice a0 n.nodes.length k0, .slice a1 n.pipes.length k1] 34)
  have hbx := Box.new w #[.slice a0 n.nodes.length k0, .slice a1 n.pipes.length k1] 34
  have h := h.below hWb
  go_enter Tryz.func12, Tryz.ntmps12
  go_wp2_with fail
  refine (l02PipeCode_any _ _ n x _ h).mono ?_
  obtain ⟨c, hc⟩ : ∃ c, codeOf n n.pipes.length x = c := ⟨_, rfl⟩
  rw [hc]
  rintro e w1 ⟨rfl, b1⟩
  have B := hid (hWb.trans (b1.mono hWb.size))
  by_cases h0 : c = 0
  · subst h0
    obtain ⟨hb, x0, x1⟩ := codeOf_zero' hc
    obtain ⟨k, rfl⟩ : ∃ k : Nat, x = k := ⟨x.toNat, by omega⟩
    have hk : k < n.pipes.length := by omega
    have ha : Hid (plA n k = tb (ppL n.nodes n.pipes[k]) ∧ codeOf n n.pipes.length k = 0) := ⟨by simp [plA, hc, pAt_nat hk], hc⟩
    have hb1 := hbx.below b1
    obtain ⟨c0, c1⟩ := hb1.two
    have h := h.below b1
    obtain ⟨b, off, rfl, hbl, hcc⟩ := h.2.2.at' (by omega)
    obtain ⟨d0, d1, d2, d3, d4⟩ := cellsP (hcc k hk)
    have C : ∀ W, Below w1.heap.size w1 W → _ := fun W hW => l03Pipe_any _ _ n n.pipes[k] W (h.below hW) hb (List.getElem_mem hk)
    have HC := hid C
    clear hWb b1 hbx h hb1 C hcc hc hb
    go_wp2_with fail
    go_region_with (go_at_call 27; refine (HC.out _ (Below.refl _ _).drew).mono ?_; rintro e w3 ⟨rfl, b3⟩; have B3 := hid (B.out.trans ((below_undrew b3).mono B.out.size)); clear b3)
    all_goals
      go_wp2_with fail
      go_ret2
      exact ⟨ret_sc ha.out, B3.out⟩
  · have ha : Hid (plA n x = ⟨#[]⟩ ∧ codeOf n n.pipes.length x = c) := ⟨by rw [plA, hc, if_neg h0], hc⟩
    clear hWb b1 hbx h hc
    go_wp2_with fail
    go_ret2
    exact ⟨ret_sc ha.out, B.out⟩

end Go.Proofs.YtdbgncinaacheaaGreatDoor
