/- slices.Clone of a row of ints that is not empty. -/
import Derived.Test.YtdapdaadglaoiaaOwn
import Derived.Test.YtdapdaadglaoiaaMark
import Derived.Lib.SliceRun
namespace Go.Proofs.Ytdapdaadglaoiaa
open Go.RowKit

set_option maxHeartbeats 400000 in
set_option maxRecDepth 100000 in
theorem cloneI_any (P : Nat → Prop) (v : Value) (zs : List Int) (w : World) (h : Slc P w v zs) (hl : zs.length ≤ 1000000) (h0 : 0 < zs.length) :
    Calls Try.prog 187 #[v] w fun e w' => ∃ r, e = .returned r ∧ OwnI 2 w.heap.size w' r zs ∧ Below w.heap.size w w' := by
  obtain ⟨_, a, cap, rfl, h⟩ := h
  obtain ⟨b, off, rfl, hP, hf, hc⟩ := h.resolve_left (by intro e; simp [e] at h0)
  have hnil := fun W => Lib.run_eql_slice_nil (P := Try.prog) W 33 2 (some ⟨b, off, none⟩) zs.length cap 0 0 Try.underlying33
  simp only [Option.isNone_some] at hnil
  have HC := hid hc
  have hbl : b < w.heap.size := by
    have := hc 0 h0
    rcases Nat.lt_or_ge b w.heap.size with h1 | h1
    · exact h1
    · simp [World.cell?, Array.getElem?_eq_none h1] at this
  clear hc h
  obtain ⟨i0, hi, hz0, hz1, hz2⟩ := info_parts info64
  go_enter Try.func187, Try.ntmps187
  go_wp2_with (at_builtin; refine wpList_append2 rfl (.tmp 5) (.tmp 6) 33 rfl w.heap.size 2 i0 (.int .i64 0) 1 8 Try.underlying33 hi hz0 hz1 hz2 rfl (by decide) (.slice (some ⟨w.heap.size, 0, none⟩) 0 0) 0 [] rfl (OwnI.made _ _ _ (Nat.le_refl _)) ⟨b, off, none⟩ zs.length cap (zs.map (Value.int .i64)) rfl (by simp) ?c1 ?c2 h0 (by omega) (by omega) ?c3 ?_)
  case c1 =>
    intro j u hj
    obtain ⟨hj1, hj2⟩ := List.getElem?_eq_some_iff.1 hj
    rw [List.length_map] at hj1
    rw [List.getElem_map] at hj2
    rw [← hj2]
    have e : (Addr.add ⟨b, off, none⟩ j : Addr) = ⟨b, off + j, none⟩ := by simp [Addr.add]
    rw [e]
    exact ((below_new w _).cell (p := ⟨b, off + j, none⟩) hbl).trans (HC.out j hj1)
  case c2 =>
    intro u hu
    obtain ⟨z, _, rfl⟩ := List.mem_map.1 hu
    rfl
  case c3 => simp
  intro v1 w1 hv1 hk1 hb1
  have hk1 := grown_kept hk1
  have hkk : Below w.heap.size w w1 := (below_new w (.cells #[] 2)).trans (hk1.below (by simp) (fun b hb => by simp [Value.ownBlock] at hb; omega))
  have HV : Hid (OwnI 2 w.heap.size w1 v1 zs) := by
    rw [Hid, OwnI]
    simpa using hv1
  clear hv1 hk1 hb1
  go_wp2_with fail
  go_ret
  exact ⟨_, rfl, HV.out, hkk⟩

end Go.Proofs.Ytdapdaadglaoiaa
