/- The pipes outside the forest, both sides. -/
import Derived.Test.YtdapdaadglaoiaaForestS
import Derived.Test.YtdapdaadglaoiaaCycP
import Derived.Test.YtdapdaadglaoiaaLay2
namespace Go.Proofs.Ytdapdaadglaoiaa
open Go.RowKit

set_option maxHeartbeats 2000000 in
set_option maxRecDepth 1000000 in
theorem bsearch_nil (c : Nat) (a : Option Addr) (x : Int) (w : World) :
    Calls Try.prog 164 #[.slice a 0 c, .int .i64 x] w fun e w' => e = .returned (.tuple #[.int .i64 0, .bool false]) ∧ Below w.heap.size w w' := by
  go_enter Try.func164, Try.ntmps164
  go_wp2_with fail
  go_loopw [7, 8] (fun s7 s8 wr => s7 = .int .i64 0 ∧ s8 = .int .i64 0 ∧ Below w.heap.size w wr) (fun _ _ _ => 0)
  case atStart => exact ⟨rfl, rfl, Below.refl _ _⟩
  case round =>
    obtain ⟨rfl, rfl, hb⟩ := hrel
    have HB := hid hb
    clear hb
    go_wp2_with fail
    go_ret2
    exact ⟨rfl, HB.out⟩

theorem bsearch_any (P : Nat → Prop) (v : Value) (zs : List Int) (x : Int) (w : World) (h : Slc P w v zs) (hs : zs.Pairwise (fun a b => a ≤ b)) :
    Calls Try.prog 164 #[v, .int .i64 x] w fun e w' => (∃ k : Nat, e = .returned (.tuple #[.int .i64 k, .bool (zs.contains x)])) ∧ Below w.heap.size w w' := by
  obtain ⟨hm, a, cap, rfl, h⟩ := h
  rcases h with rfl | ⟨b, off, rfl, _, _, hc⟩
  · refine (bsearch_nil cap a x w).mono ?_
    rintro e w' ⟨rfl, hb⟩
    exact ⟨⟨0, rfl⟩, hb⟩
  · have hc' : ∀ j, j < zs.length → w.cell? ⟨b, off + j, none⟩ = some (.int .i64 (zs.getD j 0)) := fun j hj => by
      rw [hc j hj]; simp [List.getD, hj]
    have hcl : Calls Try.prog 164 #[.slice (some ⟨b, off, none⟩) zs.length cap, .int .i64 x] w _ := AnyG.slices_BinarySearch_int bsr b off zs.length cap zs x w (Nat.le_refl _) (by omega) hc' (by rw [List.take_length]; exact hs)
    refine hcl.mono ?_
    rintro e w' ⟨rfl, q, rfl⟩
    rw [List.take_length]
    exact ⟨⟨_, rfl⟩, ⟨rfl, rfl, rfl, Nat.le_refl _, fun _ _ => rfl⟩⟩

set_option maxHeartbeats 1000000 in
set_option maxRecDepth 100000 in
theorem l02Has_any (P : Nat → Prop) (v : Value) (zs : List Int) (x : Int) (w : World) (h : Slc P w v zs) :
    Calls Try.prog 111 #[v, .int .i64 x] w fun e w' => e = .returned (.bool (zs.contains x)) ∧ Below w.heap.size w w' := by
  have hm := h.1
  obtain ⟨_, a, cap, rfl, h⟩ := h
  have HS := hid h
  clear h
  go_enter Try.func111, Try.ntmps111
  go_wp2_with fail
  go_loopw [5] (fun i wr => ∃ k : Nat, i = .int .i64 k ∧ k ≤ zs.length ∧ (zs.take k).contains x = false ∧ Below w.heap.size w wr) (fun i _ => zs.length - (intOf i).toNat)
  case atStart => exact ⟨0, rfl, by omega, by simp, Below.refl _ _⟩
  case round =>
    obtain ⟨k, rfl, hk, hno, hb⟩ := hrel
    by_cases hlt : k < zs.length
    · rcases HS.out with h0 | ⟨b, off, rfl, _, _, hc⟩
      · rw [h0] at hlt; simp at hlt
      have hbl : b < w.heap.size := by
        have := hc k hlt
        rcases Nat.lt_or_ge b w.heap.size with h1 | h1
        · exact h1
        · simp [World.cell?, Array.getElem?_eq_none h1] at this
      have q0 := (hb.cell (p := ⟨b, off + k, none⟩) hbl).trans (hc k hlt)
      have HB := hid hb
      have hkI : (k : Int) < zs.length := by omega
      by_cases he : zs[k] = x
      · have hr : Hid (zs.contains x = true) := by
          rw [Hid, List.contains_iff_mem, ← he]; exact List.getElem_mem _
        rw [he] at q0
        clear hb hc he
        go_wp2_with fail
        go_ret
        rw [hr.out]
        exact ⟨rfl, HB.out⟩
      · have hr : Hid ((zs.take (k + 1)).contains x = false) := by
          rw [Hid, List.take_succ_eq_append_getElem hlt]
          simp only [List.contains_append, hno, Bool.false_or]
          have hx : (x == zs[k]) = false := by simp; exact fun h => he h.symm
          simp [List.contains, List.elem, hx]
        have hne : (zs[k] == x) = false := by simp [he]
        clear hb hc
        go_wp2_with fail
        go_roundw
        case rel => exact ⟨k + 1, by go_num, by omega, hr.out, HB.out⟩
        case measure => simp [intOf]; omega
    · obtain rfl : k = zs.length := by omega
      rw [List.take_length] at hno
      have hr : Hid (zs.contains x = false) := hno
      have HB := hid hb
      clear hb hno
      go_wp2_with fail
      go_ret
      rw [hr.out]
      exact ⟨rfl, HB.out⟩



def choTo (n : Net) (k : Nat) : List Int := ((List.range k).filter (fun i => !inF n i)).map (fun i : Nat => (i : Int))
theorem choTo_succ (n : Net) (k : Nat) : choTo n (k + 1) = choTo n k ++ (if inF n k = true then [] else [(k : Int)]) := by
  unfold choTo
  rw [List.range_succ, List.filter_append, List.map_append]
  congr 1
  by_cases h : inF n k = true <;> simp [h]
theorem choTo_len (n : Net) (k : Nat) : (choTo n k).length ≤ k := by
  unfold choTo
  rw [List.length_map]
  exact Nat.le_trans (List.length_filter_le _ _) (by simp)
theorem forest_has (n : Net) (k : Nat) (hk : k < n.pipes.length) : (forest n).contains (k : Int) = inF n k := by
  cases h : inF n k
  · cases h2 : (forest n).contains (k : Int)
    · rfl
    · rw [List.contains_iff_mem] at h2
      rw [(inF_iff hk).2 h2] at h; cases h
  · rw [List.contains_iff_mem]; exact (inF_iff hk).1 h

def ChRel (n : Net) (l : List Value) (w : World) (B : Nat) (fv : Value) (i s : Value) (wr : World) : Prop :=
  ∃ k : Nat, i = .int .i64 k ∧ k ≤ n.pipes.length ∧ OwnI 2 B wr s (choTo n k) ∧ Box wr w.heap.size l ∧ Slc (fun c => w.heap.size + 1 ≤ c ∧ c < B) wr fv (forest n) ∧ Below w.heap.size w wr ∧ B ≤ wr.heap.size

set_option maxHeartbeats 1000000 in
set_option maxRecDepth 100000 in
theorem chordsOf_any (nv pv : Value) (n : Net) (w : World) (h : NetAt w nv pv n) (hb : netB n = true) :
    Calls Try.prog 121 #[.agg #[nv, pv]] w fun e w' => ∃ r, e = .returned r ∧ OwnI 2 (w.heap.size + 1) w' r (chords n) ∧ Below w.heap.size w w' := by
  obtain ⟨a0, k0, rfl⟩ := h.1.shape
  obtain ⟨a1, k1, rfl⟩ := h.2.2.shape
  have hnl := netB_t hb
  have hWb := below_new w (.cells #[.slice a0 n.nodes.length k0, .slice a1 n.pipes.length k1] 27)
  have hbx := Box.new w #[.slice a0 n.nodes.length k0, .slice a1 n.pipes.length k1] 27
  obtain ⟨c0, c1⟩ := hbx.two
  have h := h.below hWb
  have hfl := forest_le n
  go_enter Try.func121, Try.ntmps121
  go_wp2_with fail
  refine (forestOf_any _ _ n _ h hb).mono ?_
  rintro e w1 ⟨r, rfl, o1, b1⟩
  have z1 := b1.size
  have z0 := hWb.size
  have HB := hid (hWb.trans (b1.mono hWb.size))
  have HX := hid (hbx.below b1)
  have SF := hid ((o1.slc (by omega)).mono (Q := fun c => w.heap.size + 1 ≤ c ∧ c < w1.heap.size) (fun c _ h => ⟨by have := h.1; simp at this; omega, h.2⟩))
  obtain ⟨fa, fc, rfl, _⟩ := o1.shape
  obtain ⟨d0, d1⟩ := HX.out.two
  have zz : w.heap.size + 1 ≤ w1.heap.size := by simp at z1; omega
  clear b1 hWb hbx h o1 c0 c1 z1
  go_wp2_with fail
  go_loopw [13, 4] (fun i s wr => ChRel n [.slice a0 n.nodes.length k0, .slice a1 n.pipes.length k1] w w1.heap.size (.slice fa (forest n).length fc) i s wr) (fun i _ _ => n.pipes.length - (intOf i).toNat)
  case atStart => exact ⟨0, rfl, by omega, OwnI.nil _ _ _, HX.out, SF.out, HB.out, Nat.le_refl _⟩
  case round =>
    clear HX HB SF
    obtain ⟨j, rfl, hj, ho, bx, sc, hbel, hB1⟩ := hrel
    have hcl := choTo_len n j
    by_cases hjl : j < n.pipes.length
    · have hS := hid (choTo_succ n j)
      have hjI : (j : Int) < n.pipes.length := by omega
      have hsrt : (forest n).Pairwise (fun a b => a ≤ b) := (forest_sorted n).imp (fun h => by omega)
      have hfh := forest_has n j hjl
      obtain ⟨e0, e1⟩ := bx.two
      have HO := hid ho
      have HX := hid bx
      have SC := hid sc
      have HB := hid hbel
      clear ho bx sc hbel
      go_wp2_with fail
      refine (bsearch_any _ _ _ _ _ SC.out hsrt).mono ?_
      rintro e w2 ⟨⟨q, rfl⟩, b2⟩
      rw [hfh]
      have z2 := b2.size
      have HO2 := hid (HO.out.below b2)
      have HX2 := hid (HX.out.below b2)
      have SC2 := hid (SC.out.below b2)
      have HB2 := hid (HB.out.trans (b2.mono HB.out.size))
      obtain ⟨g0, g1⟩ := HX2.out.two
      clear b2 e0 e1 hfh HO HX SC HB
      cases hf : inF n j
      · have hz : Hid (choTo n (j + 1) = choTo n j ++ [(j : Int)]) := by have h2 := hS.out; rw [hf] at h2; exact (by simpa using h2 : choTo n (j + 1) = choTo n j ++ [(j : Int)])
        go_wp2_with (at_builtin; refine wpList_app1 rfl (.tmp 24) (.tmp 26) rfl w1.heap.size _ _ rfl (HO2.out.alloc _) w2.heap.size (j : Int) rfl ?c1 ?c2 ?c3 ?_)
        case c1 => simp
        case c2 => omega
        case c3 => simp; omega
        intro v1 w5 hv1 hk1 hb1
        have hlo := HO2.out.lt
        have kk : Kept (fun c => w1.heap.size ≤ c) w2 w5 := ((Kept.refl (fun c => w1.heap.size ≤ c) w2).alloc (.cells #[.int .i64 j] 2)).trans (hk1.mono (fun c _ h => (hlo c h).1))
        have HX5 := hid (HX2.out.kept kk (by omega))
        have SC5 := hid (SC2.out.kept kk (fun c _ h1 h2 => by omega))
        have HB5 := hid (HB2.out.trans (kk.below HB2.out.size (fun c h => by omega)))
        have HV := hid hv1
        have z5 := kk.size
        clear hv1 hk1 hb1 kk hlo
        go_wp2_with fail
        go_roundw
        case rel => exact ⟨j + 1, by go_num, by omega, by rw [hz.out]; exact HV.out, HX5.out, SC5.out, HB5.out, by omega⟩
        case measure => simp [intOf]; omega
      · have hz : Hid (choTo n (j + 1) = choTo n j) := by have h2 := hS.out; rw [hf] at h2; exact (by simpa using h2 : choTo n (j + 1) = choTo n j)
        go_wp2_with fail
        go_roundw
        case rel => exact ⟨j + 1, by go_num, by omega, by rw [hz.out]; exact HO2.out, HX2.out, SC2.out, HB2.out, by omega⟩
        case measure => simp [intOf]; omega
    · obtain rfl : j = n.pipes.length := by omega
      obtain ⟨e0, e1⟩ := bx.two
      have HO := hid ho
      have HB := hid hbel
      obtain ⟨ra, rc, rfl, _⟩ := ho.shape
      clear ho bx sc hbel
      go_wp2_with fail
      go_ret
      exact ⟨_, rfl, HO.out.lower (by omega), HB.out⟩

set_option maxHeartbeats 1000000 in
set_option maxRecDepth 100000 in
theorem l05Chords_any (nv pv : Value) (n : Net) (w : World) (h : NetAt w nv pv n) (hb : netB n = true) :
    Calls Try.prog 120 #[.agg #[nv, pv]] w fun e w' => ∃ r, e = .returned r ∧ OwnI 2 (w.heap.size + 1) w' r (chords n) ∧ Below w.heap.size w w' := by
  obtain ⟨a0, k0, rfl⟩ := h.1.shape
  obtain ⟨a1, k1, rfl⟩ := h.2.2.shape
  have hnl := netB_t hb
  have hWb := below_new w (.cells #[.slice a0 n.nodes.length k0, .slice a1 n.pipes.length k1] 27)
  have hbx := Box.new w #[.slice a0 n.nodes.length k0, .slice a1 n.pipes.length k1] 27
  obtain ⟨c0, c1⟩ := hbx.two
  have h := h.below hWb
  have hfl := forest_le n
  go_enter Try.func120, Try.ntmps120
  go_wp2_with fail
  refine (l04Forest_any _ _ n _ h hb).mono ?_
  rintro e w1 ⟨r, rfl, o1, b1⟩
  have z1 := b1.size
  have z0 := hWb.size
  have HB := hid (hWb.trans (b1.mono hWb.size))
  have HX := hid (hbx.below b1)
  have SF := hid ((o1.slc (by omega)).mono (Q := fun c => w.heap.size + 1 ≤ c ∧ c < w1.heap.size) (fun c _ h => ⟨by have := h.1; simp at this; omega, h.2⟩))
  obtain ⟨fa, fc, rfl, _⟩ := o1.shape
  obtain ⟨d0, d1⟩ := HX.out.two
  have zz : w.heap.size + 1 ≤ w1.heap.size := by simp at z1; omega
  clear b1 hWb hbx h o1 c0 c1 z1
  go_wp2_with fail
  go_loopw [5, 4] (fun i s wr => ChRel n [.slice a0 n.nodes.length k0, .slice a1 n.pipes.length k1] w w1.heap.size (.slice fa (forest n).length fc) i s wr) (fun i _ _ => n.pipes.length - (intOf i).toNat)
  case atStart => exact ⟨0, rfl, by omega, OwnI.made _ _ _ (by omega), HX.out.below (below_new _ _), SF.out.below (below_new _ _), HB.out.alloc HB.out.size _, by simp⟩
  case round =>
    clear HX HB SF
    obtain ⟨j, rfl, hj, ho, bx, sc, hbel, hB1⟩ := hrel
    have hcl := choTo_len n j
    by_cases hjl : j < n.pipes.length
    · have hS := hid (choTo_succ n j)
      have hjI : (j : Int) < n.pipes.length := by omega
      have hsrt : (forest n).Pairwise (fun a b => a ≤ b) := (forest_sorted n).imp (fun h => by omega)
      have hfh := forest_has n j hjl
      obtain ⟨e0, e1⟩ := bx.two
      have HO := hid ho
      have HX := hid bx
      have SC := hid sc
      have HB := hid hbel
      clear ho bx sc hbel
      go_wp2_with fail
      refine (l02Has_any _ _ _ _ _ SC.out).mono ?_
      rintro e w2 ⟨rfl, b2⟩
      rw [hfh]
      have z2 := b2.size
      have HO2 := hid (HO.out.below b2)
      have HX2 := hid (HX.out.below b2)
      have SC2 := hid (SC.out.below b2)
      have HB2 := hid (HB.out.trans (b2.mono HB.out.size))
      obtain ⟨g0, g1⟩ := HX2.out.two
      clear b2 e0 e1 hfh HO HX SC HB
      cases hf : inF n j
      · have hz : Hid (choTo n (j + 1) = choTo n j ++ [(j : Int)]) := by have h2 := hS.out; rw [hf] at h2; exact (by simpa using h2 : choTo n (j + 1) = choTo n j ++ [(j : Int)])
        go_wp2_with (at_builtin; refine wpList_app1 rfl (.tmp 20) (.tmp 22) rfl w1.heap.size _ _ rfl (HO2.out.alloc _) w2.heap.size (j : Int) rfl ?c1 ?c2 ?c3 ?_)
        case c1 => simp
        case c2 => omega
        case c3 => simp; omega
        intro v1 w5 hv1 hk1 hb1
        have hlo := HO2.out.lt
        have kk : Kept (fun c => w1.heap.size ≤ c) w2 w5 := ((Kept.refl (fun c => w1.heap.size ≤ c) w2).alloc (.cells #[.int .i64 j] 2)).trans (hk1.mono (fun c _ h => (hlo c h).1))
        have HX5 := hid (HX2.out.kept kk (by omega))
        have SC5 := hid (SC2.out.kept kk (fun c _ h1 h2 => by omega))
        have HB5 := hid (HB2.out.trans (kk.below HB2.out.size (fun c h => by omega)))
        have HV := hid hv1
        have z5 := kk.size
        clear hv1 hk1 hb1 kk hlo
        go_wp2_with fail
        go_roundw
        case rel => exact ⟨j + 1, by go_num, by omega, by rw [hz.out]; exact HV.out, HX5.out, SC5.out, HB5.out, by omega⟩
        case measure => simp [intOf]; omega
      · have hz : Hid (choTo n (j + 1) = choTo n j) := by have h2 := hS.out; rw [hf] at h2; exact (by simpa using h2 : choTo n (j + 1) = choTo n j)
        go_wp2_with fail
        go_roundw
        case rel => exact ⟨j + 1, by go_num, by omega, by rw [hz.out]; exact HO2.out, HX2.out, SC2.out, HB2.out, by omega⟩
        case measure => simp [intOf]; omega
    · obtain rfl : j = n.pipes.length := by omega
      obtain ⟨e0, e1⟩ := bx.two
      have HO := hid ho
      have HB := hid hbel
      obtain ⟨ra, rc, rfl, _⟩ := ho.shape
      clear ho bx sc hbel
      go_wp2_with fail
      go_ret
      exact ⟨_, rfl, HO.out.lower (by omega), HB.out⟩

end Go.Proofs.Ytdapdaadglaoiaa
