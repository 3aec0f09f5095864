/- The pipes outside the forest, both sides. ChordsOf of both sides. -/
import Derived.Test.YtdapdaadglaoiaaForestS
import Derived.Test.YtdapdaadglaoiaaCycP
import Derived.Test.YtdapdaadglaoiaaHas
namespace Go.Proofs.Ytdapdaadglaoiaa
open Go.RowKit

def choTo (n : Net) (k : Nat) : List Int := ((List.range k).filter (fun i => !inF n i)).map (fun i : Nat => (i : Int))
theorem choTo_succ (n : Net) (k : Nat) : choTo n (k + 1) = choTo n k ++ (if inF n k = true then [] else [(k : Int)]) := by
  unfold choTo
  rw [List.range_succ, List.filter_append, List.map_append]
  congr 1
  by_cases h : inF n k = true <;> simp [h]
theorem choTo_len (n : Net) (k : Nat) : (choTo n k).length ≤ k := by
  unfold choTo
  rw [List.length_map]
  exact Nat.le_trans (List.length_filter_le _ _) (by simp)
theorem forest_has (n : Net) (k : Nat) (hk : k < n.pipes.length) : (forest n).contains (k : Int) = inF n k := by
  cases h : inF n k
  · cases h2 : (forest n).contains (k : Int)
    · rfl
    · rw [List.contains_iff_mem] at h2
      rw [(inF_iff hk).2 h2] at h; cases h
  · rw [List.contains_iff_mem]; exact (inF_iff hk).1 h

def ChRel (n : Net) (l : List Value) (w : World) (B : Nat) (fv : Value) (i s : Value) (wr : World) : Prop :=
  ∃ k : Nat, i = .int .i64 k ∧ k ≤ n.pipes.length ∧ OwnI 2 B wr s (choTo n k) ∧ Box wr w.heap.size l ∧ Slc (fun c => w.heap.size + 1 ≤ c ∧ c < B) wr fv (forest n) ∧ Below w.heap.size w wr ∧ B ≤ wr.heap.size

set_option maxHeartbeats 1000000 in
set_option maxRecDepth 100000 in
theorem chordsOf_any (nv pv : Value) (n : Net) (w : World) (h : NetAt w nv pv n) (hb : netB n = true) :
    Calls Try.prog 121 #[.agg #[nv, pv]] w fun e w' => ∃ r, e = .returned r ∧ OwnI 2 (w.heap.size + 1) w' r (chords n) ∧ Below w.heap.size w w' := by
  obtain ⟨a0, k0, rfl⟩ := h.1.shape
  obtain ⟨a1, k1, rfl⟩ := h.2.2.shape
  have hnl := netB_t hb
  have hWb := below_new w (.cells #[.slice a0 n.nodes.length k0, .slice a1 n.pipes.length k1] 27)
  have hbx := Box.new w #[.slice a0 n.nodes.length k0, .slice a1 n.pipes.length k1] 27
  obtain ⟨c0, c1⟩ := hbx.two
  have h := h.below hWb
  have hfl := forest_le n
  go_enter Try.func121, Try.ntmps121
  go_wp2_with fail
  refine (forestOf_any _ _ n _ h hb).mono ?_
  rintro e w1 ⟨r, rfl, o1, b1⟩
  have z1 := b1.size
  have z0 := hWb.size
  have HB := hid (hWb.trans (b1.mono hWb.size))
  have HX := hid (hbx.below b1)
  have SF := hid ((o1.slc (by omega)).mono (Q := fun c => w.heap.size + 1 ≤ c ∧ c < w1.heap.size) (fun c _ h => ⟨by have := h.1; simp at this; omega, h.2⟩))
  obtain ⟨fa, fc, rfl, _⟩ := o1.shape
  obtain ⟨d0, d1⟩ := HX.out.two
  have zz : w.heap.size + 1 ≤ w1.heap.size := by simp at z1; omega
  clear b1 hWb hbx h o1 c0 c1 z1
  go_wp2_with fail
  go_loopw [13, 4] (fun i s wr => ChRel n [.slice a0 n.nodes.length k0, .slice a1 n.pipes.length k1] w w1.heap.size (.slice fa (forest n).length fc) i s wr) (fun i _ _ => n.pipes.length - (intOf i).toNat)
  case atStart => exact ⟨0, rfl, by omega, OwnI.nil _ _ _, HX.out, SF.out, HB.out, Nat.le_refl _⟩
  case round =>
    clear HX HB SF
    obtain ⟨j, rfl, hj, ho, bx, sc, hbel, hB1⟩ := hrel
    have hcl := choTo_len n j
    by_cases hjl : j < n.pipes.length
    · have hS := hid (choTo_succ n j)
      have hjI : (j : Int) < n.pipes.length := by omega
      have hsrt : (forest n).Pairwise (fun a b => a ≤ b) := (forest_sorted n).imp (fun h => by omega)
      have hfh := forest_has n j hjl
      obtain ⟨e0, e1⟩ := bx.two
      have HO := hid ho
      have HX := hid bx
      have SC := hid sc
      have HB := hid hbel
      clear ho bx sc hbel
      go_wp2_with fail
      refine (bsearch_any _ _ _ _ _ SC.out hsrt).mono ?_
      rintro e w2 ⟨⟨q, rfl⟩, b2⟩
      rw [hfh]
      have z2 := b2.size
      have HO2 := hid (HO.out.below b2)
      have HX2 := hid (HX.out.below b2)
      have SC2 := hid (SC.out.below b2)
      have HB2 := hid (HB.out.trans (b2.mono HB.out.size))
      obtain ⟨g0, g1⟩ := HX2.out.two
      clear b2 e0 e1 hfh HO HX SC HB
      cases hf : inF n j
      · have hz : Hid (choTo n (j + 1) = choTo n j ++ [(j : Int)]) := by have h2 := hS.out; rw [hf] at h2; exact (by simpa using h2 : choTo n (j + 1) = choTo n j ++ [(j : Int)])
        go_wp2_with (at_builtin; refine wpList_app1 rfl (.tmp 24) (.tmp 26) rfl w1.heap.size _ _ rfl (HO2.out.alloc _) w2.heap.size (j : Int) rfl ?c1 ?c2 ?c3 ?_)
        case c1 => simp
        case c2 => omega
        case c3 => simp; omega
        intro v1 w5 hv1 hk1 hb1
        have hlo := HO2.out.lt
        have kk : Kept (fun c => w1.heap.size ≤ c) w2 w5 := ((Kept.refl (fun c => w1.heap.size ≤ c) w2).alloc (.cells #[.int .i64 j] 2)).trans (hk1.mono (fun c _ h => (hlo c h).1))
        have HX5 := hid (HX2.out.kept kk (by omega))
        have SC5 := hid (SC2.out.kept kk (fun c _ h1 h2 => by omega))
        have HB5 := hid (HB2.out.trans (kk.below HB2.out.size (fun c h => by omega)))
        have HV := hid hv1
        have z5 := kk.size
        clear hv1 hk1 hb1 kk hlo
        go_wp2_with fail
        go_roundw
        case rel => exact ⟨j + 1, by go_num, by omega, by rw [hz.out]; exact HV.out, HX5.out, SC5.out, HB5.out, by omega⟩
        case measure => simp [intOf]; omega
      · have hz : Hid (choTo n (j + 1) = choTo n j) := by have h2 := hS.out; rw [hf] at h2; exact (by simpa using h2 : choTo n (j + 1) = choTo n j)
        go_wp2_with fail
        go_roundw
        case rel => exact ⟨j + 1, by go_num, by omega, by rw [hz.out]; exact HO2.out, HX2.out, SC2.out, HB2.out, by omega⟩
        case measure => simp [intOf]; omega
    · obtain rfl : j = n.pipes.length := by omega
      obtain ⟨e0, e1⟩ := bx.two
      have HO := hid ho
      have HB := hid hbel
      obtain ⟨ra, rc, rfl, _⟩ := ho.shape
      clear ho bx sc hbel
      go_wp2_with fail
      go_ret
      exact ⟨_, rfl, HO.out.lower (by omega), HB.out⟩

set_option maxHeartbeats 1000000 in
set_option maxRecDepth 100000 in
theorem l05Chords_any (nv pv : Value) (n : Net) (w : World) (h : NetAt w nv pv n) (hb : netB n = true) :
    Calls Try.prog 120 #[.agg #[nv, pv]] w fun e w' => ∃ r, e = .returned r ∧ OwnI 2 (w.heap.size + 1) w' r (chords n) ∧ Below w.heap.size w w' := by
  obtain ⟨a0, k0, rfl⟩ := h.1.shape
  obtain ⟨a1, k1, rfl⟩ := h.2.2.shape
  have hnl := netB_t hb
  have hWb := below_new w (.cells #[.slice a0 n.nodes.length k0, .slice a1 n.pipes.length k1] 27)
  have hbx := Box.new w #[.slice a0 n.nodes.length k0, .slice a1 n.pipes.length k1] 27
  obtain ⟨c0, c1⟩ := hbx.two
  have h := h.below hWb
  have hfl := forest_le n
  go_enter Try.func120, Try.ntmps120
  go_wp2_with fail
  refine (l04Forest_any _ _ n _ h hb).mono ?_
  rintro e w1 ⟨r, rfl, o1, b1⟩
  have z1 := b1.size
  have z0 := hWb.size
  have HB := hid (hWb.trans (b1.mono hWb.size))
  have HX := hid (hbx.below b1)
  have SF := hid ((o1.slc (by omega)).mono (Q := fun c => w.heap.size + 1 ≤ c ∧ c < w1.heap.size) (fun c _ h => ⟨by have := h.1; simp at this; omega, h.2⟩))
  obtain ⟨fa, fc, rfl, _⟩ := o1.shape
  obtain ⟨d0, d1⟩ := HX.out.two
  have zz : w.heap.size + 1 ≤ w1.heap.size := by simp at z1; omega
  clear b1 hWb hbx h o1 c0 c1 z1
  go_wp2_with fail
  go_loopw [5, 4] (fun i s wr => ChRel n [.slice a0 n.nodes.length k0, .slice a1 n.pipes.length k1] w w1.heap.size (.slice fa (forest n).length fc) i s wr) (fun i _ _ => n.pipes.length - (intOf i).toNat)
  case atStart => exact ⟨0, rfl, by omega, OwnI.made _ _ _ (by omega), HX.out.below (below_new _ _), SF.out.below (below_new _ _), HB.out.alloc HB.out.size _, by simp⟩
  case round =>
    clear HX HB SF
    obtain ⟨j, rfl, hj, ho, bx, sc, hbel, hB1⟩ := hrel
    have hcl := choTo_len n j
    by_cases hjl : j < n.pipes.length
    · have hS := hid (choTo_succ n j)
      have hjI : (j : Int) < n.pipes.length := by omega
      have hsrt : (forest n).Pairwise (fun a b => a ≤ b) := (forest_sorted n).imp (fun h => by omega)
      have hfh := forest_has n j hjl
      obtain ⟨e0, e1⟩ := bx.two
      have HO := hid ho
      have HX := hid bx
      have SC := hid sc
      have HB := hid hbel
      clear ho bx sc hbel
      go_wp2_with fail
      refine (l02Has_any _ _ _ _ _ SC.out).mono ?_
      rintro e w2 ⟨rfl, b2⟩
      rw [hfh]
      have z2 := b2.size
      have HO2 := hid (HO.out.below b2)
      have HX2 := hid (HX.out.below b2)
      have SC2 := hid (SC.out.below b2)
      have HB2 := hid (HB.out.trans (b2.mono HB.out.size))
      obtain ⟨g0, g1⟩ := HX2.out.two
      clear b2 e0 e1 hfh HO HX SC HB
      cases hf : inF n j
      · have hz : Hid (choTo n (j + 1) = choTo n j ++ [(j : Int)]) := by have h2 := hS.out; rw [hf] at h2; exact (by simpa using h2 : choTo n (j + 1) = choTo n j ++ [(j : Int)])
        go_wp2_with (at_builtin; refine wpList_app1 rfl (.tmp 20) (.tmp 22) rfl w1.heap.size _ _ rfl (HO2.out.alloc _) w2.heap.size (j : Int) rfl ?c1 ?c2 ?c3 ?_)
        case c1 => simp
        case c2 => omega
        case c3 => simp; omega
        intro v1 w5 hv1 hk1 hb1
        have hlo := HO2.out.lt
        have kk : Kept (fun c => w1.heap.size ≤ c) w2 w5 := ((Kept.refl (fun c => w1.heap.size ≤ c) w2).alloc (.cells #[.int .i64 j] 2)).trans (hk1.mono (fun c _ h => (hlo c h).1))
        have HX5 := hid (HX2.out.kept kk (by omega))
        have SC5 := hid (SC2.out.kept kk (fun c _ h1 h2 => by omega))
        have HB5 := hid (HB2.out.trans (kk.below HB2.out.size (fun c h => by omega)))
        have HV := hid hv1
        have z5 := kk.size
        clear hv1 hk1 hb1 kk hlo
        go_wp2_with fail
        go_roundw
        case rel => exact ⟨j + 1, by go_num, by omega, by rw [hz.out]; exact HV.out, HX5.out, SC5.out, HB5.out, by omega⟩
        case measure => simp [intOf]; omega
      · have hz : Hid (choTo n (j + 1) = choTo n j) := by have h2 := hS.out; rw [hf] at h2; exact (by simpa using h2 : choTo n (j + 1) = choTo n j)
        go_wp2_with fail
        go_roundw
        case rel => exact ⟨j + 1, by go_num, by omega, by rw [hz.out]; exact HO2.out, HX2.out, SC2.out, HB2.out, by omega⟩
        case measure => simp [intOf]; omega
    · obtain rfl : j = n.pipes.length := by omega
      obtain ⟨e0, e1⟩ := bx.two
      have HO := hid ho
      have HB := hid hbel
      obtain ⟨ra, rc, rfl, _⟩ := ho.shape
      clear ho bx sc hbel
      go_wp2_with fail
      go_ret
      exact ⟨_, rfl, HO.out.lower (by omega), HB.out⟩

end Go.Proofs.Ytdapdaadglaoiaa

namespace Go.Proofs.Ytdapdaadglaoiaa
open Go.RowKit

def cdR (n : Net) : List Int × Int := if netB n = true then (chords n, 0) else ([], 1)
theorem cdR_len (n : Net) : (cdR n).1.length ≤ 2000000 := by
  unfold cdR
  split
  · next h =>
    have := chords_le n
    have := netB_t h
    simp only; omega
  · simp

set_option maxHeartbeats 400000 in
set_option maxRecDepth 100000 in
theorem impl_ChordsOf_any (nv pv : Value) (n : Net) (w : World) (h : NetAt w nv pv n) (hcap : CapOk nv) :
    Calls Try.prog 40 #[.agg #[nv, pv]] w (OutI w (cdR n)) := by
  obtain ⟨a0, k0, rfl⟩ := h.1.shape
  obtain ⟨a1, k1, rfl⟩ := h.2.2.shape
  have hWb := below_new w (.cells #[.slice a0 n.nodes.length k0, .slice a1 n.pipes.length k1] 27)
  have hbx := Box.new w #[.slice a0 n.nodes.length k0, .slice a1 n.pipes.length k1] 27
  have h := h.below hWb
  go_enter Try.func40, Try.ntmps40
  go_wp2_with fail
  refine (impl_IsNetwork_any _ _ n _ h hcap).mono ?_
  cases hb : netB n
  · have hr : Hid (cdR n = ([], 1)) := by simp [Hid, cdR, hb]
    rintro e w1 ⟨rfl, b1⟩
    have HB := hid (hWb.trans (b1.mono hWb.size))
    clear b1 hWb hbx
    go_wp2_with fail
    go_ret2
    rw [hr.out]
    exact ⟨_, rfl, Slc.nil _ _, HB.out⟩
  have hr : Hid (cdR n = (chords n, 0)) := by simp [Hid, cdR, hb]
  have hnl := netB_t hb
  have hfl := chords_le n
  rintro e w1 ⟨rfl, b1⟩
  have HB := hid (hWb.trans (b1.mono hWb.size))
  obtain ⟨c0, c1⟩ := (hbx.below b1).two
  have h := h.below b1
  clear b1 hWb hbx
  go_wp2_with fail
  refine (chordsOf_any _ _ n _ h hb).mono ?_
  rintro e w2 ⟨r, rfl, o2, b2⟩
  have HB2 := hid (HB.out.trans (b2.mono HB.out.size))
  have zb := HB.out.size
  have HO := hid (o2.slc (by omega))
  obtain ⟨ra, rc, rfl, _⟩ := o2.shape
  clear b2 c0 c1 o2
  go_wp2_with fail
  go_ret2
  rw [hr.out]
  exact ⟨_, rfl, HO.out.mono (fun c _ h => ⟨by have := h.1; omega, h.2⟩), HB2.out⟩

set_option maxHeartbeats 400000 in
set_option maxRecDepth 100000 in
theorem spec_ChordsOf_any (nv pv : Value) (n : Net) (w : World) (h : NetAt w nv pv n) :
    Calls Try.prog 39 #[.agg #[nv, pv]] w (OutI w (cdR n)) := by
  obtain ⟨a0, k0, rfl⟩ := h.1.shape
  obtain ⟨a1, k1, rfl⟩ := h.2.2.shape
  have hWb := below_new w (.cells #[.slice a0 n.nodes.length k0, .slice a1 n.pipes.length k1] 27)
  have hbx := Box.new w #[.slice a0 n.nodes.length k0, .slice a1 n.pipes.length k1] 27
  have h := h.below hWb
  go_enter Try.func39, Try.ntmps39
  go_wp2_with fail
  refine (spec_IsNetwork_any _ _ n _ h).mono ?_
  cases hb : netB n
  · have hr : Hid (cdR n = ([], 1)) := by simp [Hid, cdR, hb]
    rintro e w1 ⟨rfl, b1⟩
    have HB := hid (hWb.trans (b1.mono hWb.size))
    clear b1 hWb hbx
    go_wp2_with fail
    go_ret2
    rw [hr.out]
    exact ⟨_, rfl, Slc.nil _ _, HB.out⟩
  have hr : Hid (cdR n = (chords n, 0)) := by simp [Hid, cdR, hb]
  have hnl := netB_t hb
  have hfl := chords_le n
  rintro e w1 ⟨rfl, b1⟩
  have HB := hid (hWb.trans (b1.mono hWb.size))
  obtain ⟨c0, c1⟩ := (hbx.below b1).two
  have h := h.below b1
  clear b1 hWb hbx
  go_wp2_with fail
  refine (l05Chords_any _ _ n _ h hb).mono ?_
  rintro e w2 ⟨r, rfl, o2, b2⟩
  have HB2 := hid (HB.out.trans (b2.mono HB.out.size))
  have zb := HB.out.size
  have HO := hid (o2.slc (by omega))
  obtain ⟨ra, rc, rfl, _⟩ := o2.shape
  clear b2 c0 c1 o2
  go_wp2_with fail
  go_ret2
  rw [hr.out]
  exact ⟨_, rfl, HO.out.mono (fun c _ h => ⟨by have := h.1; omega, h.2⟩), HB2.out⟩

end Go.Proofs.Ytdapdaadglaoiaa
