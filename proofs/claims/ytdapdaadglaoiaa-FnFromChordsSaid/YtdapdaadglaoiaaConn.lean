/- isConnected, IsConnected, IsTree of both sides; l04Count. -/
import Derived.Test.YtdapdaadglaoiaaReach
import Derived.Deep.RegionHeld3
namespace Go.Proofs.Ytdapdaadglaoiaa
open Go.RowKit

def conB (n : Net) : Bool := decide ((srch n 0).order.length = n.nodes.length)
def icB (n : Net) : Bool := netB n && conB n
def itB (n : Net) : Bool := netB n && (conB n && decide (n.pipes.length + 1 = n.nodes.length))

set_option maxHeartbeats 400000 in
set_option maxRecDepth 100000 in
theorem isConnected_any (nv pv : Value) (n : Net) (w : World) (h : NetAt w nv pv n) (hb : netB n = true) :
    Calls Try.prog 127 #[.agg #[nv, pv]] w fun e w' => e = .returned (.bool (conB n)) ∧ Below w.heap.size w w' := by
  obtain ⟨a0, k0, rfl⟩ := h.1.shape
  obtain ⟨a1, k1, rfl⟩ := h.2.2.shape
  have hnl := netB_t hb
  have hWb := below_new w (.cells #[.slice a0 n.nodes.length k0, .slice a1 n.pipes.length k1] 27)
  have hbx := Box.new w #[.slice a0 n.nodes.length k0, .slice a1 n.pipes.length k1] 27
  have hsf := searchFrom_any _ _ n 0 _ ((h.below hWb).below (Below.refl _ _).drew) hb (by omega) (by omega)
  have g := good_srch hb (v := 0) (by omega) (by omega)
  have hle := g.le_nodes
  have hres : Hid (conB n = decide (((srch n 0).order.length : Int) = n.nodes.length)) := by
    unfold conB Hid
    by_cases e : (srch n 0).order.length = n.nodes.length
    · simp [e]
    · rw [decide_eq_false e, decide_eq_false (by omega)]
  obtain ⟨s, hs⟩ : ∃ s, s = srch n (0 : Int) := ⟨_, rfl⟩
  rw [← hs] at hres hsf hle
  have HSF := hid hsf
  obtain ⟨c0, c1⟩ := hbx.two
  have hbw := hbx.1
  have HW := hid hWb
  clear hs hsf g h hWb hbx
  go_enter Try.func127, Try.ntmps127
  go_wp2_with fail
  go_region_held3 (fun W => W.cell? ⟨w.heap.size, 0, none⟩ = some (.slice a0 n.nodes.length k0) ∧ W.cell? ⟨w.heap.size, 1, none⟩ = some (.slice a1 n.pipes.length k1))
    (first | exact ⟨c0, c1⟩ | exact ⟨C0, C1⟩)
    (first | (go_at_call 143; refine (HSF.out).mono ?_; rintro e w1 ⟨ov, dv, ev, rfl, so, sd, se, b1⟩; have b1 := below_undrew b1; have C0 := (b1.cell (p := ⟨w.heap.size, 0, none⟩) hbw).trans c0; have C1 := (b1.cell (p := ⟨w.heap.size, 1, none⟩) hbw).trans c1; obtain ⟨_, oa, oc, rfl, _⟩ := so; obtain ⟨_, da, dc, rfl, _⟩ := sd; obtain ⟨_, ea, ec, rfl, _⟩ := se; have hfd := fun W => field_search_order oa s.order.length oc da s.dist.length dc ea s.ent.length ec W))
  go_wp2_with fail
  go_ret
  refine ⟨?_, HW.out.trans (b1.mono HW.out.size)⟩
  rw [hres.out]
  rfl

set_option maxHeartbeats 400000 in
theorem impl_IsConnected_any (nv pv : Value) (n : Net) (w : World) (h : NetAt w nv pv n) (hcap : CapOk nv) :
    Calls Try.prog 87 #[.agg #[nv, pv]] w fun e w' => e = .returned (.bool (icB n)) ∧ Below w.heap.size w w' := by
  obtain ⟨a0, k0, rfl⟩ := h.1.shape
  obtain ⟨a1, k1, rfl⟩ := h.2.2.shape
  have hWb := below_new w (.cells #[.slice a0 n.nodes.length k0, .slice a1 n.pipes.length k1] 27)
  have hbx := Box.new w #[.slice a0 n.nodes.length k0, .slice a1 n.pipes.length k1] 27
  have h := h.below hWb
  go_enter Try.func87, Try.ntmps87
  go_wp2_with fail
  refine (impl_IsNetwork_any _ _ n _ h hcap).mono ?_
  cases hb : netB n
  · have hr : Hid (icB n = false) := by simp [Hid, icB, hb]
    rintro e w1 ⟨rfl, b1⟩
    have B := hid (hWb.trans (b1.mono hWb.size))
    go_wp2_with fail
    go_ret
    exact ⟨ret_bool hr.out.symm, B.out⟩
  · have hr : Hid (icB n = conB n) := by simp [Hid, icB, hb]
    rintro e w1 ⟨rfl, b1⟩
    have B := hid (hWb.trans (b1.mono hWb.size))
    obtain ⟨c0, c1⟩ := (hbx.below b1).two
    have h := h.below b1
    clear hWb b1 hbx
    go_wp2_with (go_at_call 127; refine (isConnected_any _ _ n _ h hb).mono ?_; rintro e w2 ⟨rfl, b2⟩)
    go_ret
    exact ⟨ret_bool hr.out.symm, B.out.trans (b2.mono B.out.size)⟩

set_option maxHeartbeats 400000 in
theorem impl_IsTree_any (nv pv : Value) (n : Net) (w : World) (h : NetAt w nv pv n) (hcap : CapOk nv) :
    Calls Try.prog 47 #[.agg #[nv, pv]] w fun e w' => e = .returned (.bool (itB n)) ∧ Below w.heap.size w w' := by
  obtain ⟨a0, k0, rfl⟩ := h.1.shape
  obtain ⟨a1, k1, rfl⟩ := h.2.2.shape
  have hWb := below_new w (.cells #[.slice a0 n.nodes.length k0, .slice a1 n.pipes.length k1] 27)
  have hbx := Box.new w #[.slice a0 n.nodes.length k0, .slice a1 n.pipes.length k1] 27
  have h := h.below hWb
  have hbw := hbx.1
  go_enter Try.func47, Try.ntmps47
  go_wp2_with fail
  refine (impl_IsNetwork_any _ _ n _ h hcap).mono ?_
  cases hb : netB n
  · have hr : Hid (itB n = false) := by simp [Hid, itB, hb]
    rintro e w1 ⟨rfl, b1⟩
    have B := hid (hWb.trans (b1.mono hWb.size))
    go_wp2_with fail
    go_ret
    exact ⟨ret_bool hr.out.symm, B.out⟩
  · have hnl := netB_t hb
    rintro e w1 ⟨rfl, b1⟩
    have B := hid (hWb.trans (b1.mono hWb.size))
    have bx := hbx.below b1
    obtain ⟨c0, c1⟩ := bx.two
    have hbw := bx.1
    have h := h.below b1
    have HX := hid bx
    clear hWb b1 hbx bx
    cases hc : conB n
    · have hr : Hid (itB n = false) := by simp [Hid, itB, hc]
      go_wp2_with (go_at_call 127; refine (isConnected_any _ _ n _ h hb).mono ?_; rw [hc]; rintro e w2 ⟨rfl, b2⟩)
      go_ret
      exact ⟨ret_bool hr.out.symm, B.out.trans (b2.mono B.out.size)⟩
    · have hr : Hid (itB n = decide ((n.pipes.length : Int) = n.nodes.length - 1)) := by
        simp only [Hid, itB, hc, hb, Bool.true_and]
        by_cases e : n.pipes.length + 1 = n.nodes.length
        · rw [decide_eq_true e, decide_eq_true (by omega)]
        · rw [decide_eq_false e, decide_eq_false (by omega)]
      go_wp2_with (go_at_call 127; refine (isConnected_any _ _ n _ h hb).mono ?_; rw [hc]; rintro e w2 ⟨rfl, b2⟩; obtain ⟨c2, c3⟩ := (HX.out.below b2).two; have hbw2 := (HX.out.below b2).1)
      go_ret
      refine ⟨?_, B.out.trans (b2.mono B.out.size)⟩
      rw [hr.out]
      rfl

def CtRel (C : List Int) (w1 : World) (c i : Value) (wr : World) : Prop := ∃ k : Nat, i = .int .i64 k ∧ k ≤ C.length ∧ c = .int .i64 (rootsTo C k : Nat) ∧ wr = w1

set_option maxHeartbeats 400000 in
theorem l04Count_any (nv pv : Value) (n : Net) (w : World) (h : NetAt w nv pv n) (hb : netB n = true) :
    Calls Try.prog 126 #[.agg #[nv, pv]] w fun e w' => e = .returned (.int .i64 (rootsTo (comps n) n.nodes.length : Nat)) ∧ Below w.heap.size w w' := by
  obtain ⟨a0, k0, rfl⟩ := h.1.shape
  obtain ⟨a1, k1, rfl⟩ := h.2.2.shape
  have hnl := netB_t hb
  have hWb := below_new w (.cells #[.slice a0 n.nodes.length k0, .slice a1 n.pipes.length k1] 27)
  have hbx := Box.new w #[.slice a0 n.nodes.length k0, .slice a1 n.pipes.length k1] 27
  have h := h.below hWb
  have hlen := compIter_len n n.nodes.length
  go_enter Try.func126, Try.ntmps126
  go_wp2_with fail
  refine (l04Components_any _ _ n _ h hb).mono ?_
  obtain ⟨C, hC⟩ : ∃ C, C = comps n := ⟨_, rfl⟩
  rw [show compIter n n.nodes.length = comps n from rfl, ← hC] at hlen
  rw [← hC]
  have HLEN := hid hlen
  have HC := hid hC
  rintro e w1 ⟨r, rfl, hr, b1⟩
  have B := hid (hWb.trans (b1.mono hWb.size))
  have HR := hid hr
  have hC24 : C.length ≤ 24 := by omega
  obtain ⟨_, ra, rc, rfl, _⟩ := hr
  clear hWb b1 hbx h hC hlen
  go_wp2_with fail
  go_loopw [4, 5] (fun c i wr => CtRel C w1 c i wr) (fun _ i _ => C.length - (intOf i).toNat)
  case atStart => exact ⟨0, rfl, by omega, rfl, rfl⟩
  case round =>
    obtain ⟨k, rfl, hk, rfl, rfl⟩ := hrel
    have hrt := rootsTo_le C k
    by_cases hlt : k < C.length
    · obtain ⟨rb, ro, rfl, _, _, _, hc⟩ := HR.out.at (by omega)
      have c0 := hc k hlt
      have hgd : C.getD k 0 = C[k] := by simp [List.getD, hlt]
      have hsuc := rootsTo_succ C k
      rw [hgd] at hsuc
      clear hc hgd
      by_cases he : C[k] = (k : Int)
      · rw [if_pos he] at hsuc
        have HS := hid hsuc
        have hbt : (C[k] == (k : Int)) = true := by simpa using he
        clear hsuc he
        go_wp2_with fail
        go_roundw
        case rel => exact ⟨k + 1, by go_num, by omega, by rw [HS.out]; go_num, rfl⟩
        case measure => simp [intOf]; omega
      · rw [if_neg he] at hsuc
        have HS := hid hsuc
        have hbt : (C[k] == (k : Int)) = false := by simpa using he
        clear hsuc he
        go_wp2_with fail
        go_roundw
        case rel => exact ⟨k + 1, by go_num, by omega, by rw [HS.out]; rfl, rfl⟩
        case measure => simp [intOf]; omega
    · obtain rfl : k = C.length := by omega
      go_wp2_with fail
      go_ret
      exact ⟨ret_int (by rw [HLEN.out, HC.out]), B.out⟩

set_option maxHeartbeats 400000 in
theorem spec_IsConnected_any (nv pv : Value) (n : Net) (w : World) (h : NetAt w nv pv n) :
    Calls Try.prog 128 #[.agg #[nv, pv]] w fun e w' => e = .returned (.bool (icB n)) ∧ Below w.heap.size w w' := by
  obtain ⟨a0, k0, rfl⟩ := h.1.shape
  obtain ⟨a1, k1, rfl⟩ := h.2.2.shape
  have hWb := below_new w (.cells #[.slice a0 n.nodes.length k0, .slice a1 n.pipes.length k1] 27)
  have hbx := Box.new w #[.slice a0 n.nodes.length k0, .slice a1 n.pipes.length k1] 27
  have h := h.below hWb
  go_enter Try.func128, Try.ntmps128
  go_wp2_with fail
  refine (spec_IsNetwork_any _ _ n _ h).mono ?_
  cases hb : netB n
  · have hr : Hid (icB n = false) := by simp [Hid, icB, hb]
    rintro e w1 ⟨rfl, b1⟩
    have B := hid (hWb.trans (b1.mono hWb.size))
    go_wp2_with fail
    go_ret
    exact ⟨ret_bool hr.out.symm, B.out⟩
  · have hr : Hid (icB n = decide ((rootsTo (comps n) n.nodes.length : Int) = 1)) := by
      simp only [Hid, icB, hb, Bool.true_and, conB]
      by_cases e : (srch n 0).order.length = n.nodes.length
      · rw [decide_eq_true e, decide_eq_true (by have := (conn_iff hb).2 e; omega)]
      · rw [decide_eq_false e, decide_eq_false (by intro h; exact e ((conn_iff hb).1 (by omega)))]
    rintro e w1 ⟨rfl, b1⟩
    have B := hid (hWb.trans (b1.mono hWb.size))
    obtain ⟨c0, c1⟩ := (hbx.below b1).two
    have h := h.below b1
    clear hWb b1 hbx
    go_wp2_with (go_at_call 126; refine (l04Count_any _ _ n _ h hb).mono ?_; rintro e w2 ⟨rfl, b2⟩)
    go_ret
    refine ⟨?_, B.out.trans (b2.mono B.out.size)⟩
    rw [hr.out]
    rfl

set_option maxHeartbeats 400000 in
theorem spec_IsTree_any (nv pv : Value) (n : Net) (w : World) (h : NetAt w nv pv n) :
    Calls Try.prog 48 #[.agg #[nv, pv]] w fun e w' => e = .returned (.bool (itB n)) ∧ Below w.heap.size w w' := by
  obtain ⟨a0, k0, rfl⟩ := h.1.shape
  obtain ⟨a1, k1, rfl⟩ := h.2.2.shape
  have hl1 := h.1.1
  have hl2 := h.2.2.1
  have hWb := below_new w (.cells #[.slice a0 n.nodes.length k0, .slice a1 n.pipes.length k1] 27)
  have hbx := Box.new w #[.slice a0 n.nodes.length k0, .slice a1 n.pipes.length k1] 27
  have h := h.below hWb
  go_enter Try.func48, Try.ntmps48
  go_wp2_with fail
  refine (spec_IsConnected_any _ _ n _ h).mono ?_
  cases hb : icB n
  · have hr : Hid (itB n = false) := by
      have : itB n = (icB n && decide (n.pipes.length + 1 = n.nodes.length)) := by simp [itB, icB, Bool.and_assoc]
      rw [hb] at this; simpa [Hid] using this
    rintro e w1 ⟨rfl, b1⟩
    have B := hid (hWb.trans (b1.mono hWb.size))
    go_wp2_with fail
    go_ret
    exact ⟨ret_bool hr.out.symm, B.out⟩
  · have hr : Hid (itB n = decide ((n.pipes.length : Int) = n.nodes.length - 1)) := by
      have : itB n = (icB n && decide (n.pipes.length + 1 = n.nodes.length)) := by simp [itB, icB, Bool.and_assoc]
      rw [hb, Bool.true_and] at this
      rw [Hid, this]
      by_cases e : n.pipes.length + 1 = n.nodes.length
      · rw [decide_eq_true e, decide_eq_true (by omega)]
      · rw [decide_eq_false e, decide_eq_false (by omega)]
    rintro e w1 ⟨rfl, b1⟩
    have B := hid (hWb.trans (b1.mono hWb.size))
    have bx := hbx.below b1
    obtain ⟨c0, c1⟩ := bx.two
    have hbw := bx.1
    clear hWb b1 hbx bx
    go_wp2_with fail
    go_ret
    refine ⟨?_, B.out⟩
    rw [hr.out]
    rfl

end Go.Proofs.Ytdapdaadglaoiaa
