/- Flow lists: allWithin, isFlowList, l05List, l05Zero; outflows, l05Out. -/
import Derived.Test.YtdapdaadglaoiaaIsNetI
import Derived.Test.YtdapdaadglaoiaaIsNetS
import Derived.Test.YtdapdaadglaoiaaOwn
import Derived.Deep.RegionHeld3
namespace Go.Proofs.Ytdapdaadglaoiaa
open Go.RowKit

/-- All numbers are lo to hi. -/
def allB (lo hi : Int) (zs : List Int) : Bool := zs.all (inB · lo hi)
theorem allB_t {lo hi : Int} {zs : List Int} (h : allB lo hi zs = true) : ∀ x ∈ zs, lo ≤ x ∧ x ≤ hi := fun x hx => inB_t (List.all_eq_true.1 h x hx)
theorem allB_mk {lo hi : Int} {zs : List Int} (h : ∀ i (_ : i < zs.length), inB zs[i] lo hi = true) : allB lo hi zs = true := by
  refine List.all_eq_true.2 fun x hx => ?_
  obtain ⟨i, hi, rfl⟩ := List.getElem_of_mem hx
  exact h i hi
theorem allB_no {lo hi : Int} {zs : List Int} (i : Nat) (hi' : i < zs.length) (h : inB zs[i] lo hi = false) : allB lo hi zs = false := by
  cases hb : allB lo hi zs
  · rfl
  · have := List.all_eq_true.1 hb zs[i] (List.getElem_mem hi'); simp [h] at this

def AllRel (lo hi : Int) (zs : List Int) (i : Value) : Prop := ∃ k : Nat, k ≤ zs.length ∧ i = .int .i64 k ∧ ∀ j (hj : j < zs.length), j < k → inB zs[j] lo hi = true

theorem allWithin_any (v : Value) (zs : List Int) (lo hi : Int) (w : World) (h : Ints .i64 w v zs) :
    Calls Try.prog 135 #[v, .int .i64 lo, .int .i64 hi] w fun e w' => e = .returned (.bool (allB lo hi zs)) ∧ w = w' := by
  obtain ⟨hm, a, cap, rfl, hc⟩ := h
  have HC := hid hc
  clear hc
  go_enter Try.func135, Try.ntmps135
  go_wp2
  go_loop [11] (fun i => AllRel lo hi zs i) (fun i => zs.length - (intOf i).toNat)
  case atStart => exact ⟨0, Nat.zero_le _, rfl, fun j _ h => by omega⟩
  case round =>
    obtain ⟨k, hk, rfl, hall⟩ := hrel
    have HA := hid hall
    clear hall
    by_cases hlt : k < zs.length
    · obtain ⟨b, off, rfl, hcc⟩ := HC.out.resolve_left (by intro e; simp [e] at hlt)
      clear HC
      have hcell := hcc k hlt
      clear hcc
      cases hin : inB zs[k] lo hi
      · have HN := hid (allB_no k hlt hin)
        go_wp2_with (go_at_call 99; refine (within_any _ _ _ _).mono ?_; rintro e w' ⟨rfl, rfl⟩)
        go_ret
        exact ⟨ret_bool HN.out.symm, rfl⟩
      · have HI := hid hin
        go_wp2_with (go_at_call 99; refine (within_any _ _ _ _).mono ?_; rintro e w' ⟨rfl, rfl⟩)
        go_round
        case rel =>
          refine ⟨k + 1, by omega, by go_num, fun j hj hjk => ?_⟩
          rcases (by omega : j < k ∨ j = k) with h | rfl
          · exact HA.out j hj h
          · exact HI.out
        case measure => simp [intOf]; omega
    · have HN : Hid (allB lo hi zs = true) := allB_mk (fun i hi => HA.out i hi (by omega))
      go_wp2
      go_ret
      exact ⟨ret_bool HN.out.symm, rfl⟩


theorem l05Flow_any (x : Int) (w : World) :
    Calls Try.prog 138 #[.int .i64 x] w fun e w' => e = .returned (.bool (inB x (-30000) 30000)) ∧ w = w' := by
  go_enter Try.func138, Try.ntmps138
  go_wp2_with (go_at_call 91; refine (l01In_any _ _ _ _).mono ?_; rintro e w' ⟨rfl, rfl⟩)
  go_ret
  exact ⟨rfl, rfl⟩

/-- f is a flow list of n. -/
def flowB (n : Net) (f : List Int) : Bool := decide (f.length = n.pipes.length) && allB (-30000) 30000 f

set_option maxHeartbeats 400000 in
set_option maxRecDepth 100000 in
theorem isFlowList_any (nv pv v : Value) (n : Net) (f : List Int) (w : World) (h : NetAt w nv pv n) (hf : Ints .i64 w v f) :
    Calls Try.prog 134 #[.agg #[nv, pv], v] w fun e w' => e = .returned (.bool (flowB n f)) ∧ Below w.heap.size w w' := by
  obtain ⟨a0, k0, rfl⟩ := h.1.shape
  obtain ⟨a1, k1, rfl⟩ := h.2.2.shape
  have hl2 := h.2.2.1
  have hfl := hf.1
  have hWb := below_new w (.cells #[.slice a0 n.nodes.length k0, .slice a1 n.pipes.length k1] 27)
  have HF := hid (hf.below hWb)
  obtain ⟨_, af, cf, rfl, _⟩ := hf
  by_cases hl : f.length = n.pipes.length
  · have hr : Hid (flowB n f = allB (-30000) 30000 f) := by simp [Hid, flowB, hl]
    have hbt : ((f.length : Int) == (n.pipes.length : Int)) = true := by simp [hl]
    clear hl
    go_enter Try.func134, Try.ntmps134
    go_wp2_with (go_at_call 135; refine (allWithin_any _ f _ _ _ HF.out).mono ?_; rintro e w' ⟨rfl, rfl⟩)
    go_ret
    exact ⟨by rw [hr.out]; rfl, hWb⟩
  · have hr : Hid (flowB n f = false) := by simp [Hid, flowB, hl]
    have hbt : ((f.length : Int) == (n.pipes.length : Int)) = false := by simp; omega
    go_enter Try.func134, Try.ntmps134
    go_wp2_with fail
    go_ret
    exact ⟨by rw [hr.out]; rfl, hWb⟩

def LsRel (zs : List Int) (w : World) (i : Value) (wr : World) : Prop := ∃ k : Nat, k ≤ zs.length ∧ i = .int .i64 k ∧ wr = w ∧ ∀ j (hj : j < zs.length), j < k → inB zs[j] (-30000) 30000 = true

set_option maxHeartbeats 400000 in
theorem l05List_any (nv pv v : Value) (n : Net) (f : List Int) (w : World) (h : NetAt w nv pv n) (hf : Ints .i64 w v f) :
    Calls Try.prog 140 #[.agg #[nv, pv], v] w fun e w' => e = .returned (.bool (flowB n f)) ∧ Below w.heap.size w w' := by
  obtain ⟨a0, k0, rfl⟩ := h.1.shape
  obtain ⟨a1, k1, rfl⟩ := h.2.2.shape
  have hl2 := h.2.2.1
  have hfl := hf.1
  have hWb := below_new w (.cells #[.slice a0 n.nodes.length k0, .slice a1 n.pipes.length k1] 27)
  have HF := hid (hf.below hWb)
  obtain ⟨_, af, cf, rfl, _⟩ := hf
  go_enter Try.func140, Try.ntmps140
  go_wp2_with fail
  go_loopw [5] (fun i wr => LsRel f (w.alloc (.cells #[.slice a0 n.nodes.length k0, .slice a1 n.pipes.length k1] 27)) i wr) (fun i _ => f.length - (intOf i).toNat)
  case atStart => exact ⟨0, Nat.zero_le _, rfl, rfl, fun j _ h => by omega⟩
  case round =>
    obtain ⟨k, hk, rfl, rfl, hall⟩ := hrel
    have HA := hid hall
    clear hall
    by_cases hlt : k < f.length
    · obtain ⟨b, off, rfl, _, hcc⟩ := HF.out.at (by omega)
      have hcell := hcc k hlt
      clear hcc
      cases hin : inB f[k] (-30000) 30000
      · have HN : Hid (flowB n f = false) := by simp [Hid, flowB, allB_no k hlt hin]
        go_wp2_with (go_at_call 138; refine (l05Flow_any _ _).mono ?_; rintro e w' ⟨rfl, rfl⟩)
        go_ret
        exact ⟨by rw [HN.out]; rfl, hWb⟩
      · have HI := hid hin
        go_wp2_with (go_at_call 138; refine (l05Flow_any _ _).mono ?_; rintro e w' ⟨rfl, rfl⟩)
        go_roundw
        case rel =>
          refine ⟨k + 1, by omega, by go_num, rfl, fun j hj hjk => ?_⟩
          rcases (by omega : j < k ∨ j = k) with h | rfl
          · exact HA.out j hj h
          · exact HI.out
        case measure => simp [intOf]; omega
    · have HN : Hid (flowB n f = decide ((f.length : Int) = n.pipes.length)) := by
        have := allB_mk (fun i hi => HA.out i hi (by omega))
        unfold Hid flowB
        rw [this, Bool.and_true]
        by_cases e : f.length = n.pipes.length
        · simp [e]
        · rw [decide_eq_false e, decide_eq_false (by omega)]
      go_wp2_with fail
      go_ret
      exact ⟨by rw [HN.out]; rfl, hWb⟩

def ZrRel (zs : List Int) (w : World) (i : Value) (wr : World) : Prop := ∃ k : Nat, k ≤ zs.length ∧ i = .int .i64 k ∧ wr = w ∧ ∀ j (hj : j < zs.length), j < k → zs[j] = 0
theorem zero_in (x : Int) : inB x 0 0 = (x == 0) := by
  by_cases h : x = 0
  · subst h; rfl
  · rw [inB_no (by omega)]; simp [h]

end Go.Proofs.Ytdapdaadglaoiaa
