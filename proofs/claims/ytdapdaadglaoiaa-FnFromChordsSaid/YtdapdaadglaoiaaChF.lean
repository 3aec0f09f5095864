/- ChordFlows of both sides. -/
import Derived.Test.YtdapdaadglaoiaaChOf
import Derived.Test.YtdapdaadglaoiaaCirc
import Derived.Test.YtdapdaadglaoiaaCut
namespace Go.Proofs.Ytdapdaadglaoiaa
open Go.RowKit

def flCode (n : Net) (f : List Int) : Int := if netB n = true then (if flowB n f = true then 0 else 3) else 1

set_option maxHeartbeats 400000 in
set_option maxRecDepth 100000 in
theorem checkFlows_any (nv pv v : Value) (n : Net) (f : List Int) (w : World) (h : NetAt w nv pv n) (hf : Ints .i64 w v f) (hcap : CapOk nv) :
    Calls Try.prog 123 #[.agg #[nv, pv], v] w fun e w' => e = .returned (.int .i64 (flCode n f)) ∧ Below w.heap.size w w' := by
  obtain ⟨a0, k0, rfl⟩ := h.1.shape
  obtain ⟨a1, k1, rfl⟩ := h.2.2.shape
  have hWb := below_new w (.cells #[.slice a0 n.nodes.length k0, .slice a1 n.pipes.length k1] 27)
  have hbx := Box.new w #[.slice a0 n.nodes.length k0, .slice a1 n.pipes.length k1] 27
  have h := h.below hWb
  have hf := hf.below hWb
  obtain ⟨_, af, cf, rfl, _⟩ := id hf
  go_enter Try.func123, Try.ntmps123
  go_wp2_with fail
  refine (impl_IsNetwork_any _ _ n _ h hcap).mono ?_
  cases hb : netB n
  · have hr : Hid (flCode n f = 1) := by simp [Hid, flCode, hb]
    rintro e w1 ⟨rfl, b1⟩
    have HB := hid (hWb.trans (b1.mono hWb.size))
    clear b1 hWb hbx
    go_wp2_with fail
    go_ret
    exact ⟨by rw [hr.out]; rfl, HB.out⟩
  rintro e w1 ⟨rfl, b1⟩
  have HB := hid (hWb.trans (b1.mono hWb.size))
  have bx := hbx.below b1
  have h := h.below b1
  have hf := hf.below b1
  obtain ⟨c0, c1⟩ := bx.two
  clear b1 hWb hbx
  go_wp2_with fail
  refine (isFlowList_any _ _ _ n f _ h hf).mono ?_
  cases hfl : flowB n f
  · have hr : Hid (flCode n f = 3) := by simp [Hid, flCode, hfl, hb]
    rintro e w2 ⟨rfl, b2⟩
    have HB2 := hid (HB.out.trans (b2.mono HB.out.size))
    clear b2 c0 c1
    go_wp2_with fail
    go_ret
    exact ⟨by rw [hr.out]; rfl, HB2.out⟩
  have hr : Hid (flCode n f = 0) := by simp [Hid, flCode, hfl, hb]
  rintro e w2 ⟨rfl, b2⟩
  have HB2 := hid (HB.out.trans (b2.mono HB.out.size))
  clear b2 c0 c1
  go_wp2_with fail
  go_ret
  exact ⟨by rw [hr.out]; rfl, HB2.out⟩

set_option maxHeartbeats 400000 in
set_option maxRecDepth 100000 in
theorem l05Code_any (nv pv v : Value) (n : Net) (f : List Int) (w : World) (h : NetAt w nv pv n) (hf : Ints .i64 w v f) :
    Calls Try.prog 122 #[.agg #[nv, pv], v] w fun e w' => e = .returned (.int .i64 (flCode n f)) ∧ Below w.heap.size w w' := by
  obtain ⟨a0, k0, rfl⟩ := h.1.shape
  obtain ⟨a1, k1, rfl⟩ := h.2.2.shape
  have hWb := below_new w (.cells #[.slice a0 n.nodes.length k0, .slice a1 n.pipes.length k1] 27)
  have hbx := Box.new w #[.slice a0 n.nodes.length k0, .slice a1 n.pipes.length k1] 27
  have h := h.below hWb
  have hf := hf.below hWb
  obtain ⟨_, af, cf, rfl, _⟩ := id hf
  go_enter Try.func122, Try.ntmps122
  go_wp2_with fail
  refine (spec_IsNetwork_any _ _ n _ h).mono ?_
  cases hb : netB n
  · have hr : Hid (flCode n f = 1) := by simp [Hid, flCode, hb]
    rintro e w1 ⟨rfl, b1⟩
    have HB := hid (hWb.trans (b1.mono hWb.size))
    clear b1 hWb hbx
    go_wp2_with fail
    go_ret
    exact ⟨by rw [hr.out]; rfl, HB.out⟩
  rintro e w1 ⟨rfl, b1⟩
  have HB := hid (hWb.trans (b1.mono hWb.size))
  have bx := hbx.below b1
  have h := h.below b1
  have hf := hf.below b1
  obtain ⟨c0, c1⟩ := bx.two
  clear b1 hWb hbx
  go_wp2_with fail
  refine (l05List_any _ _ _ n f _ h hf).mono ?_
  cases hfl : flowB n f
  · have hr : Hid (flCode n f = 3) := by simp [Hid, flCode, hfl, hb]
    rintro e w2 ⟨rfl, b2⟩
    have HB2 := hid (HB.out.trans (b2.mono HB.out.size))
    clear b2 c0 c1
    go_wp2_with fail
    go_ret
    exact ⟨by rw [hr.out]; rfl, HB2.out⟩
  have hr : Hid (flCode n f = 0) := by simp [Hid, flCode, hfl, hb]
  rintro e w2 ⟨rfl, b2⟩
  have HB2 := hid (HB.out.trans (b2.mono HB.out.size))
  clear b2 c0 c1
  go_wp2_with fail
  go_ret
  exact ⟨by rw [hr.out]; rfl, HB2.out⟩

def cfTo (n : Net) (f : List Int) (k : Nat) : List Int := ((chords n).take k).map (fun c => f.getD c.toNat 0)
theorem cfTo_succ (n : Net) (f : List Int) (k : Nat) (h : k < (chords n).length) : cfTo n f (k + 1) = cfTo n f k ++ [f.getD ((chords n)[k]).toNat 0] := by
  unfold cfTo
  rw [List.take_succ_eq_append_getElem h, List.map_append]; rfl
theorem cfTo_len (n : Net) (f : List Int) (k : Nat) : (cfTo n f k).length ≤ k := by unfold cfTo; simp; omega
def cfR (n : Net) (f : List Int) : List Int × Int := if flCode n f = 0 then (cfTo n f (chords n).length, 0) else ([], flCode n f)
theorem cfR_len (n : Net) (f : List Int) : (cfR n f).1.length ≤ 2000000 := by
  unfold cfR
  split
  · next h =>
    have := chords_le n
    have hb : netB n = true := by
      unfold flCode at h
      split at h
      · assumption
      · cases h
    have := netB_t hb
    have := cfTo_len n f (chords n).length
    simp only; omega
  · simp
theorem flCode_zero {n : Net} {f : List Int} (h : flCode n f = 0) : netB n = true ∧ flowB n f = true := by
  unfold flCode at h
  split at h
  · next hb =>
    split at h
    · next hf => exact ⟨hb, hf⟩
    · cases h
  · cases h
def CfRel (n : Net) (f : List Int) (w : World) (B : Nat) (cv : Value) (i s : Value) (wr : World) : Prop :=
  ∃ k : Nat, i = .int .i64 k ∧ k ≤ (chords n).length ∧ OwnI 2 B wr s (cfTo n f k) ∧ Slc (fun c => w.heap.size + 1 ≤ c ∧ c < B) wr cv (chords n) ∧ Below w.heap.size w wr ∧ B ≤ wr.heap.size

set_option maxHeartbeats 1000000 in
set_option maxRecDepth 100000 in
theorem impl_ChordFlows_any (nv pv v : Value) (n : Net) (f : List Int) (w : World) (h : NetAt w nv pv n) (hf : Ints .i64 w v f) (hcap : CapOk nv) :
    Calls Try.prog 43 #[.agg #[nv, pv], v] w (OutI w (cfR n f)) := by
  obtain ⟨a0, k0, rfl⟩ := h.1.shape
  obtain ⟨a1, k1, rfl⟩ := h.2.2.shape
  have HF := hid hf
  have hWb := below_new w (.cells #[.slice a0 n.nodes.length k0, .slice a1 n.pipes.length k1] 27)
  have hbx := Box.new w #[.slice a0 n.nodes.length k0, .slice a1 n.pipes.length k1] 27
  have h := h.below hWb
  have hf := hf.below hWb
  obtain ⟨_, af, cf, rfl, _⟩ := id hf
  go_enter Try.func43, Try.ntmps43
  go_wp2_with fail
  refine (checkFlows_any _ _ _ n f _ h hf hcap).mono ?_
  by_cases hc : flCode n f = 0
  case neg =>
    have hr : Hid (cfR n f = ([], flCode n f)) := by simp [Hid, cfR, hc]
    obtain ⟨c, hcc⟩ : ∃ c, flCode n f = c := ⟨_, rfl⟩
    rw [hcc] at hr hc ⊢
    have hc' : (c != 0) = true := by simpa using hc
    rintro e w1 ⟨rfl, b1⟩
    have B := hid (hWb.trans (b1.mono hWb.size))
    clear hcc
    go_wp2_with fail
    go_ret2
    rw [hr.out]
    exact ⟨_, rfl, Slc.nil _ _, B.out⟩
  have hr : Hid (cfR n f = (cfTo n f (chords n).length, 0)) := by simp [Hid, cfR, hc]
  obtain ⟨hb, hfb⟩ := flCode_zero hc
  obtain ⟨hfl, _⟩ := flowB_t hfb
  have hnl := netB_t hb
  have hchl := chords_le n
  rw [hc]
  rintro e w1 ⟨rfl, b1⟩
  have HB := hid (hWb.trans (b1.mono hWb.size))
  obtain ⟨c0, c1⟩ := (hbx.below b1).two
  have h := h.below b1
  clear b1 hWb hbx hf hc
  go_wp2_with fail
  refine (chordsOf_any _ _ n _ h hb).mono ?_
  rintro e w2 ⟨r, rfl, o2, b2⟩
  have HB2 := hid (HB.out.trans (b2.mono HB.out.size))
  have zb := HB.out.size
  have z2 := b2.size
  have SF := hid ((o2.slc (by omega)).mono (Q := fun c => w.heap.size + 1 ≤ c ∧ c < w2.heap.size) (fun c _ h => ⟨by have := h.1; omega, h.2⟩))
  obtain ⟨ra, rc, rfl, _⟩ := o2.shape
  clear b2 c0 c1 o2 HB h
  go_wp2_with fail
  go_loopw [19, 7] (fun i s wr => CfRel n f w w2.heap.size (.slice ra (chords n).length rc) i s wr) (fun i _ _ => (chords n).length - (intOf i).toNat)
  case atStart => exact ⟨0, rfl, by omega, OwnI.nil _ _ _, SF.out, HB2.out, Nat.le_refl _⟩
  case round =>
    clear HB2 SF
    obtain ⟨j, rfl, hj, ho, sc, hbel, hB1⟩ := hrel
    have hcl := cfTo_len n f j
    by_cases hjl : j < (chords n).length
    · have hS := hid (cfTo_succ n f j hjl)
      have hjI : (j : Int) < (chords n).length := by omega
      obtain ⟨c, hcj, hcp, _⟩ := chord_at hjl
      have hcj2 : (chords n)[j] = c := by simpa [List.getD, hjl] using hcj
      obtain ⟨cb, co, rfl, _, hcbl, _, hcc⟩ := sc.at (by omega)
      have q0 := hcc j hjl
      rw [hcj2] at q0 hS
      rw [Int.toNat_natCast] at hS
      have hcf : c < f.length := by omega
      have hcfI : (c : Int) < f.length := by omega
      have hf1 := HF.out.below hbel
      obtain ⟨fb, fo, rfl, hfb1, hfc⟩ := hf1.at (by omega)
      have q1 := hfc c hcf
      have hgd : f.getD c 0 = f[c] := by simp [List.getD, hcf]
      rw [hgd] at hS
      have HO := hid ho
      have SC := hid sc
      have HB := hid hbel
      clear ho sc hbel hcc hfc hf1 hcj hcj2 hgd
      go_wp2_with (at_builtin; refine wpList_app1 rfl (.tmp 23) (.tmp 28) rfl w2.heap.size _ _ rfl (HO.out.alloc _) wr.heap.size f[c] rfl ?c1 ?c2 ?c3 ?_)
      case c1 => simp
      case c2 => omega
      case c3 => simp; omega
      intro v1 w5 hv1 hk1 hb1
      have hlo := HO.out.lt
      have kk : Kept (fun c => w2.heap.size ≤ c) wr w5 := ((Kept.refl (fun c => w2.heap.size ≤ c) wr).alloc (.cells #[.int .i64 f[c]] 2)).trans (hk1.mono (fun c _ h => (hlo c h).1))
      have SC5 := hid (SC.out.kept kk (fun c _ h1 h2 => by omega))
      have HB5 := hid (HB.out.trans (kk.below HB.out.size (fun c h => by omega)))
      have HV := hid hv1
      have z5 := kk.size
      clear hv1 hk1 hb1 kk hlo
      go_wp2_with fail
      go_roundw
      case rel => exact ⟨j + 1, by go_num, by omega, by rw [hS.out]; exact HV.out, SC5.out, HB5.out, by omega⟩
      case measure => simp [intOf]; omega
    · obtain rfl : j = (chords n).length := by omega
      have HO := hid ho
      have HB := hid hbel
      obtain ⟨pa, pc, hpe, _⟩ := ho.shape
      subst hpe
      clear ho sc hbel
      go_wp2_with fail
      go_ret2
      rw [hr.out]
      exact ⟨_, rfl, (HO.out.slc (by omega)).mono (fun c _ h => ⟨by have := h.1; omega, h.2⟩), HB.out⟩

set_option maxHeartbeats 1000000 in
set_option maxRecDepth 100000 in
theorem spec_ChordFlows_any (nv pv v : Value) (n : Net) (f : List Int) (w : World) (h : NetAt w nv pv n) (hf : Ints .i64 w v f) :
    Calls Try.prog 41 #[.agg #[nv, pv], v] w (OutI w (cfR n f)) := by
  obtain ⟨a0, k0, rfl⟩ := h.1.shape
  obtain ⟨a1, k1, rfl⟩ := h.2.2.shape
  have HF := hid hf
  have hWb := below_new w (.cells #[.slice a0 n.nodes.length k0, .slice a1 n.pipes.length k1] 27)
  have hbx := Box.new w #[.slice a0 n.nodes.length k0, .slice a1 n.pipes.length k1] 27
  have h := h.below hWb
  have hf := hf.below hWb
  obtain ⟨_, af, cf, rfl, _⟩ := id hf
  go_enter Try.func41, Try.ntmps41
  go_wp2_with fail
  refine (l05Code_any _ _ _ n f _ h hf).mono ?_
  by_cases hc : flCode n f = 0
  case neg =>
    have hr : Hid (cfR n f = ([], flCode n f)) := by simp [Hid, cfR, hc]
    obtain ⟨c, hcc⟩ : ∃ c, flCode n f = c := ⟨_, rfl⟩
    rw [hcc] at hr hc ⊢
    have hc' : (c != 0) = true := by simpa using hc
    rintro e w1 ⟨rfl, b1⟩
    have B := hid (hWb.trans (b1.mono hWb.size))
    clear hcc
    go_wp2_with fail
    go_ret2
    rw [hr.out]
    exact ⟨_, rfl, Slc.nil _ _, B.out⟩
  have hr : Hid (cfR n f = (cfTo n f (chords n).length, 0)) := by simp [Hid, cfR, hc]
  obtain ⟨hb, hfb⟩ := flCode_zero hc
  obtain ⟨hfl, _⟩ := flowB_t hfb
  have hnl := netB_t hb
  have hchl := chords_le n
  rw [hc]
  rintro e w1 ⟨rfl, b1⟩
  have HB := hid (hWb.trans (b1.mono hWb.size))
  obtain ⟨c0, c1⟩ := (hbx.below b1).two
  have h := h.below b1
  clear b1 hWb hbx hf hc
  go_wp2_with fail
  refine (l05Chords_any _ _ n _ h hb).mono ?_
  rintro e w2 ⟨r, rfl, o2, b2⟩
  have HB2 := hid (HB.out.trans (b2.mono HB.out.size))
  have zb := HB.out.size
  have z2 := b2.size
  have SF := hid ((o2.slc (by omega)).mono (Q := fun c => w.heap.size + 1 ≤ c ∧ c < w2.heap.size) (fun c _ h => ⟨by have := h.1; omega, h.2⟩))
  obtain ⟨ra, rc, rfl, _⟩ := o2.shape
  clear b2 c0 c1 o2 HB h
  go_wp2_with fail
  go_loopw [9, 8] (fun i s wr => CfRel n f w w2.heap.size (.slice ra (chords n).length rc) i s wr) (fun i _ _ => (chords n).length - (intOf i).toNat)
  case atStart => exact ⟨0, rfl, by omega, OwnI.made _ _ _ (by omega), SF.out.below (below_new _ _), HB2.out.alloc HB2.out.size _, by simp⟩
  case round =>
    clear HB2 SF
    obtain ⟨j, rfl, hj, ho, sc, hbel, hB1⟩ := hrel
    have hcl := cfTo_len n f j
    by_cases hjl : j < (chords n).length
    · have hS := hid (cfTo_succ n f j hjl)
      have hjI : (j : Int) < (chords n).length := by omega
      obtain ⟨c, hcj, hcp, _⟩ := chord_at hjl
      have hcj2 : (chords n)[j] = c := by simpa [List.getD, hjl] using hcj
      obtain ⟨cb, co, rfl, _, hcbl, _, hcc⟩ := sc.at (by omega)
      have q0 := hcc j hjl
      rw [hcj2] at q0 hS
      rw [Int.toNat_natCast] at hS
      have hcf : c < f.length := by omega
      have hcfI : (c : Int) < f.length := by omega
      have hf1 := HF.out.below hbel
      obtain ⟨fb, fo, rfl, hfb1, hfc⟩ := hf1.at (by omega)
      have q1 := hfc c hcf
      have hgd : f.getD c 0 = f[c] := by simp [List.getD, hcf]
      rw [hgd] at hS
      have HO := hid ho
      have SC := hid sc
      have HB := hid hbel
      clear ho sc hbel hcc hfc hf1 hcj hcj2 hgd
      go_wp2_with (at_builtin; refine wpList_app1 rfl (.tmp 25) (.tmp 33) rfl w2.heap.size _ _ rfl (HO.out.alloc _) wr.heap.size f[c] rfl ?c1 ?c2 ?c3 ?_)
      case c1 => simp
      case c2 => omega
      case c3 => simp; omega
      intro v1 w5 hv1 hk1 hb1
      have hlo := HO.out.lt
      have kk : Kept (fun c => w2.heap.size ≤ c) wr w5 := ((Kept.refl (fun c => w2.heap.size ≤ c) wr).alloc (.cells #[.int .i64 f[c]] 2)).trans (hk1.mono (fun c _ h => (hlo c h).1))
      have SC5 := hid (SC.out.kept kk (fun c _ h1 h2 => by omega))
      have HB5 := hid (HB.out.trans (kk.below HB.out.size (fun c h => by omega)))
      have HV := hid hv1
      have z5 := kk.size
      clear hv1 hk1 hb1 kk hlo
      go_wp2_with fail
      go_roundw
      case rel => exact ⟨j + 1, by go_num, by omega, by rw [hS.out]; exact HV.out, SC5.out, HB5.out, by omega⟩
      case measure => simp [intOf]; omega
    · obtain rfl : j = (chords n).length := by omega
      have HO := hid ho
      have HB := hid hbel
      obtain ⟨pa, pc, hpe, _⟩ := ho.shape
      subst hpe
      clear ho sc hbel
      go_wp2_with fail
      go_ret2
      rw [hr.out]
      exact ⟨_, rfl, (HO.out.slc (by omega)).mono (fun c _ h => ⟨by have := h.1; omega, h.2⟩), HB.out⟩

end Go.Proofs.Ytdapdaadglaoiaa
