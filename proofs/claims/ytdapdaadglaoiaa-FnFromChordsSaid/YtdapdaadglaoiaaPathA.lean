/- DistancesFrom and EntriesFrom of both sides; l04Distances (printed by wip/genpath.py, but for l04Distances). -/
import Derived.Test.YtdapdaadglaoiaaSrS
import Derived.Test.YtdapdaadglaoiaaPipesAt
import Derived.Test.YtdapdaadglaoiaaDist
namespace Go.Proofs.Ytdapdaadglaoiaa
open Go.RowKit

theorem codeNs_one {n : Net} {v : Int} (h : codeNs n [v] = 0) : netB n = true ∧ 0 ≤ v ∧ v < n.nodes.length := by
  unfold codeNs at h
  split at h
  · next hb =>
    split at h
    · next hv =>
      have := inB_t (by simpa using hv : inB v 0 ((n.nodes.length : Int) - 1) = true)
      exact ⟨hb, by omega, by omega⟩
    · cases h
  · cases h
theorem field_search_order (a : Option Addr) (l c : Nat) (a' : Option Addr) (l' c' : Nat) (a'' : Option Addr) (l'' c'' : Nat) (w : World) : (Instr.field 117 (.agg #[.slice a l c, .slice a' l' c', .slice a'' l'' c'']) 0).run Try.prog w = .ok (.slice a l c) w := by kernel_rfl
theorem field_search_dist (a : Option Addr) (l c : Nat) (a' : Option Addr) (l' c' : Nat) (a'' : Option Addr) (l'' c'' : Nat) (w : World) : (Instr.field 117 (.agg #[.slice a l c, .slice a' l' c', .slice a'' l'' c'']) 1).run Try.prog w = .ok (.slice a' l' c') w := by kernel_rfl
theorem field_search_ent (a : Option Addr) (l c : Nat) (a' : Option Addr) (l' c' : Nat) (a'' : Option Addr) (l'' c'' : Nat) (w : World) : (Instr.field 117 (.agg #[.slice a l c, .slice a' l' c', .slice a'' l'' c'']) 2).run Try.prog w = .ok (.slice a'' l'' c'') w := by kernel_rfl
def dfR (n : Net) (v : Int) : List Int × Int := if codeNs n [v] = 0 then ((srch n v).dist, 0) else ([], codeNs n [v])
def efR (n : Net) (v : Int) : List Int × Int := if codeNs n [v] = 0 then ((srch n v).ent, 0) else ([], codeNs n [v])
theorem dfR_len (n : Net) (v : Int) : (dfR n v).1.length ≤ 2000000 := by
  unfold dfR
  split
  · next h =>
    obtain ⟨hb, h0, h1⟩ := codeNs_one h
    have := (good_srch hb h0 h1).ld
    have := netB_t hb
    simp only; omega
  · simp
theorem efR_len (n : Net) (v : Int) : (efR n v).1.length ≤ 2000000 := by
  unfold efR
  split
  · next h =>
    obtain ⟨hb, h0, h1⟩ := codeNs_one h
    have := (good_srch hb h0 h1).le
    have := netB_t hb
    simp only; omega
  · simp

set_option maxHeartbeats 400000 in
set_option maxRecDepth 100000 in
theorem impl_DistancesFrom_any (nv pv : Value) (n : Net) (v : Int) (w : World) (h : NetAt w nv pv n) (hcap : CapOk nv) :
    Calls Try.prog 73 #[.agg #[nv, pv], .int .i64 v] w (OutI w (dfR n v)) := by
  obtain ⟨a0, k0, rfl⟩ := h.1.shape
  obtain ⟨a1, k1, rfl⟩ := h.2.2.shape
  have hWb := below_new w (.cells #[.slice a0 n.nodes.length k0, .slice a1 n.pipes.length k1] 27)
  have hbx := Box.new w #[.slice a0 n.nodes.length k0, .slice a1 n.pipes.length k1] 27
  have hW2 := hWb.alloc hWb.size (.cells #[.int .i64 v] 2)
  have hbx := hbx.below (below_new _ (.cells #[.int .i64 v] 2))
  have hvb := Box.new (w.alloc (.cells #[.slice a0 n.nodes.length k0, .slice a1 n.pipes.length k1] 27)) #[.int .i64 v] 2
  have h := h.below hW2
  rw [World.size_alloc] at hvb
  have hcell : ∀ j (hj : j < [v].length), ((w.alloc (.cells #[.slice a0 n.nodes.length k0, .slice a1 n.pipes.length k1] 27)).alloc (.cells #[.int .i64 v] 2)).cell? ⟨w.heap.size + 1, j, none⟩ = some (.int .i64 [v][j]) := fun j hj => by
    obtain rfl : j = 0 := by simpa using hj
    exact hvb.2 0 (by simp)
  go_enter Try.func73, Try.ntmps73
  go_wp2_with fail
  refine (checkNodes_any _ _ n (w.heap.size + 1) [v] 1 _ h hcap hvb.1 hcell (by simp)).mono ?_
  by_cases hc : codeNs n [v] = 0
  · have hr : Hid (dfR n v = ((srch n v).dist, 0)) := by simp [Hid, dfR, hc]
    obtain ⟨hb, v0, v1⟩ := codeNs_one hc
    rw [hc]
    rintro e w1 ⟨rfl, b1⟩
    have B := hid (hW2.trans (b1.mono hW2.size))
    obtain ⟨c0, c1⟩ := (hbx.below b1).two
    have h := h.below b1
    clear hWb hW2 b1 hbx hc hvb hcell
    go_wp2_with fail
    refine (searchFrom_any _ _ n v _ h hb v0 v1).mono ?_
    rintro e w2 ⟨ov, dv, ev, rfl, so, sd, se, b2⟩
    have B2 := hid (B.out.trans (b2.mono B.out.size))
    have HS := hid sd
    have hsz := B.out.size
    obtain ⟨_, oa, oc, rfl, _⟩ := so
    obtain ⟨_, da, dc, rfl, _⟩ := sd
    obtain ⟨_, ea, ec, rfl, _⟩ := se
    have hfd := field_search_dist oa (srch n v).order.length oc da (srch n v).dist.length dc ea (srch n v).ent.length ec w2
    clear b2 c0 c1
    go_wp2_with fail
    go_ret2
    rw [hr.out]
    exact ⟨_, rfl, HS.out.mono (fun b _ hb => ⟨by omega, hb.2⟩), B2.out⟩
  · have hr : Hid (dfR n v = ([], codeNs n [v])) := by simp [Hid, dfR, hc]
    obtain ⟨c, hcc⟩ : ∃ c, codeNs n [v] = c := ⟨_, rfl⟩
    rw [hcc] at hr hc ⊢
    have hc' : (c != 0) = true := by simpa using hc
    rintro e w1 ⟨rfl, b1⟩
    have B := hid (hW2.trans (b1.mono hW2.size))
    clear hcc
    go_wp2_with fail
    go_ret2
    rw [hr.out]
    exact ⟨_, rfl, Slc.nil _ _, B.out⟩

set_option maxHeartbeats 400000 in
set_option maxRecDepth 100000 in
theorem impl_EntriesFrom_any (nv pv : Value) (n : Net) (v : Int) (w : World) (h : NetAt w nv pv n) (hcap : CapOk nv) :
    Calls Try.prog 81 #[.agg #[nv, pv], .int .i64 v] w (OutI w (efR n v)) := by
  obtain ⟨a0, k0, rfl⟩ := h.1.shape
  obtain ⟨a1, k1, rfl⟩ := h.2.2.shape
  have hWb := below_new w (.cells #[.slice a0 n.nodes.length k0, .slice a1 n.pipes.length k1] 27)
  have hbx := Box.new w #[.slice a0 n.nodes.length k0, .slice a1 n.pipes.length k1] 27
  have hW2 := hWb.alloc hWb.size (.cells #[.int .i64 v] 2)
  have hbx := hbx.below (below_new _ (.cells #[.int .i64 v] 2))
  have hvb := Box.new (w.alloc (.cells #[.slice a0 n.nodes.length k0, .slice a1 n.pipes.length k1] 27)) #[.int .i64 v] 2
  have h := h.below hW2
  rw [World.size_alloc] at hvb
  have hcell : ∀ j (hj : j < [v].length), ((w.alloc (.cells #[.slice a0 n.nodes.length k0, .slice a1 n.pipes.length k1] 27)).alloc (.cells #[.int .i64 v] 2)).cell? ⟨w.heap.size + 1, j, none⟩ = some (.int .i64 [v][j]) := fun j hj => by
    obtain rfl : j = 0 := by simpa using hj
    exact hvb.2 0 (by simp)
  go_enter Try.func81, Try.ntmps81
  go_wp2_with fail
  refine (checkNodes_any _ _ n (w.heap.size + 1) [v] 1 _ h hcap hvb.1 hcell (by simp)).mono ?_
  by_cases hc : codeNs n [v] = 0
  · have hr : Hid (efR n v = ((srch n v).ent, 0)) := by simp [Hid, efR, hc]
    obtain ⟨hb, v0, v1⟩ := codeNs_one hc
    rw [hc]
    rintro e w1 ⟨rfl, b1⟩
    have B := hid (hW2.trans (b1.mono hW2.size))
    obtain ⟨c0, c1⟩ := (hbx.below b1).two
    have h := h.below b1
    clear hWb hW2 b1 hbx hc hvb hcell
    go_wp2_with fail
    refine (searchFrom_any _ _ n v _ h hb v0 v1).mono ?_
    rintro e w2 ⟨ov, dv, ev, rfl, so, sd, se, b2⟩
    have B2 := hid (B.out.trans (b2.mono B.out.size))
    have HS := hid se
    have hsz := B.out.size
    obtain ⟨_, oa, oc, rfl, _⟩ := so
    obtain ⟨_, da, dc, rfl, _⟩ := sd
    obtain ⟨_, ea, ec, rfl, _⟩ := se
    have hfd := field_search_ent oa (srch n v).order.length oc da (srch n v).dist.length dc ea (srch n v).ent.length ec w2
    clear b2 c0 c1
    go_wp2_with fail
    go_ret2
    rw [hr.out]
    exact ⟨_, rfl, HS.out.mono (fun b _ hb => ⟨by omega, hb.2⟩), B2.out⟩
  · have hr : Hid (efR n v = ([], codeNs n [v])) := by simp [Hid, efR, hc]
    obtain ⟨c, hcc⟩ : ∃ c, codeNs n [v] = c := ⟨_, rfl⟩
    rw [hcc] at hr hc ⊢
    have hc' : (c != 0) = true := by simpa using hc
    rintro e w1 ⟨rfl, b1⟩
    have B := hid (hW2.trans (b1.mono hW2.size))
    clear hcc
    go_wp2_with fail
    go_ret2
    rw [hr.out]
    exact ⟨_, rfl, Slc.nil _ _, B.out⟩

set_option maxHeartbeats 400000 in
theorem spec_EntriesFrom_any (nv pv : Value) (n : Net) (v : Int) (w : World) (h : NetAt w nv pv n) :
    Calls Try.prog 82 #[.agg #[nv, pv], .int .i64 v] w (OutI w (efR n v)) := by
  obtain ⟨a0, k0, rfl⟩ := h.1.shape
  obtain ⟨a1, k1, rfl⟩ := h.2.2.shape
  have hWb := below_new w (.cells #[.slice a0 n.nodes.length k0, .slice a1 n.pipes.length k1] 27)
  have hbx := Box.new w #[.slice a0 n.nodes.length k0, .slice a1 n.pipes.length k1] 27
  have h := h.below hWb
  go_enter Try.func82, Try.ntmps82
  go_wp2_with fail
  refine (l02NodeCode_any _ _ n v _ h).mono ?_
  by_cases hc : codeNs n [v] = 0
  · have hr : Hid (efR n v = ((srch n v).ent, 0)) := by simp [Hid, efR, hc]
    obtain ⟨hb, v0, v1⟩ := codeNs_one hc
    rw [hc]
    rintro e w1 ⟨rfl, b1⟩
    have B := hid (hWb.trans (b1.mono hWb.size))
    obtain ⟨c0, c1⟩ := (hbx.below b1).two
    have h := h.below b1
    clear hWb b1 hbx hc
    go_wp2_with fail
    refine (l04Search_any _ _ n v _ h hb v0 v1).mono ?_
    rintro e w2 ⟨ev, ov, rfl, se, so, b2⟩
    have B2 := hid (B.out.trans (b2.mono B.out.size))
    have HS := hid se
    have hsz := B.out.size
    obtain ⟨_, oa, oc, rfl, _⟩ := so
    obtain ⟨_, ea, ec, rfl, _⟩ := se
    clear b2 c0 c1
    go_wp2_with fail
    go_ret2
    rw [hr.out]
    exact ⟨_, rfl, HS.out.mono (fun b _ hb => ⟨by omega, hb.2⟩), B2.out⟩
  · have hr : Hid (efR n v = ([], codeNs n [v])) := by simp [Hid, efR, hc]
    obtain ⟨c, hcc⟩ : ∃ c, codeNs n [v] = c := ⟨_, rfl⟩
    rw [hcc] at hr hc ⊢
    have hc' : (c != 0) = true := by simpa using hc
    rintro e w1 ⟨rfl, b1⟩
    have B := hid (hWb.trans (b1.mono hWb.size))
    clear hcc
    go_wp2_with fail
    go_ret2
    rw [hr.out]
    exact ⟨_, rfl, Slc.nil _ _, B.out⟩

set_option maxHeartbeats 400000 in
theorem spec_DistancesFrom_any (nv pv : Value) (n : Net) (v : Int) (w : World) (h : NetAt w nv pv n) :
    Calls Try.prog 74 #[.agg #[nv, pv], .int .i64 v] w (OutI w (dfR n v)) := by
  obtain ⟨a0, k0, rfl⟩ := h.1.shape
  obtain ⟨a1, k1, rfl⟩ := h.2.2.shape
  have hWb := below_new w (.cells #[.slice a0 n.nodes.length k0, .slice a1 n.pipes.length k1] 27)
  have hbx := Box.new w #[.slice a0 n.nodes.length k0, .slice a1 n.pipes.length k1] 27
  have h := h.below hWb
  go_enter Try.func74, Try.ntmps74
  go_wp2_with fail
  refine (l02NodeCode_any _ _ n v _ h).mono ?_
  by_cases hc : codeNs n [v] = 0
  · have hr : Hid (dfR n v = ((srch n v).dist, 0)) := by simp [Hid, dfR, hc]
    obtain ⟨hb, v0, v1⟩ := codeNs_one hc
    rw [hc]
    rintro e w1 ⟨rfl, b1⟩
    have B := hid (hWb.trans (b1.mono hWb.size))
    obtain ⟨c0, c1⟩ := (hbx.below b1).two
    have h := h.below b1
    clear hWb b1 hbx hc
    go_wp2_with fail
    refine (l04Distances_any _ _ n v _ h hb v0 v1).mono ?_
    rintro e w2 ⟨r, rfl, se, b2⟩
    have B2 := hid (B.out.trans (b2.mono B.out.size))
    have HS := hid se
    have hsz := B.out.size
    obtain ⟨_, ea, ec, rfl, _⟩ := se
    clear b2 c0 c1
    go_wp2_with fail
    go_ret2
    rw [hr.out]
    exact ⟨_, rfl, HS.out.mono (fun b _ hb => ⟨by omega, hb.2⟩), B2.out⟩
  · have hr : Hid (dfR n v = ([], codeNs n [v])) := by simp [Hid, dfR, hc]
    obtain ⟨c, hcc⟩ : ∃ c, codeNs n [v] = c := ⟨_, rfl⟩
    rw [hcc] at hr hc ⊢
    have hc' : (c != 0) = true := by simpa using hc
    rintro e w1 ⟨rfl, b1⟩
    have B := hid (hWb.trans (b1.mono hWb.size))
    clear hcc
    go_wp2_with fail
    go_ret2
    rw [hr.out]
    exact ⟨_, rfl, Slc.nil _ _, B.out⟩

end Go.Proofs.Ytdapdaadglaoiaa
