/- checkNodes, l02NodeCode, PipesAt of both sides. -/
import Derived.Test.YtdapdaadglaoiaaPipes
namespace Go.Proofs.Ytdapdaadglaoiaa
open Go.RowKit

/-- The code of a network and nodes. -/
def codeNs (n : Net) (zs : List Int) : Int := if netB n = true then (if zs.all (fun z => inB z 0 ((n.nodes.length : Int) - 1)) = true then 0 else 2) else 1
def CkRel (m : Nat) (zs : List Int) (W : World) (i : Value) (wr : World) : Prop := ∃ k : Nat, i = .int .i64 k ∧ k ≤ zs.length ∧ (∀ j (hj : j < zs.length), j < k → inB zs[j] 0 ((m : Int) - 1) = true) ∧ Below W.heap.size W wr

set_option maxHeartbeats 400000 in
theorem l02NodeCode_any (nv pv : Value) (n : Net) (x : Int) (w : World) (h : NetAt w nv pv n) :
    Calls Try.prog 109 #[.agg #[nv, pv], .int .i64 x] w fun e w' => e = .returned (.int .i64 (codeNs n [x])) ∧ Below w.heap.size w w' := by
  obtain ⟨a0, k0, rfl⟩ := h.1.shape
  obtain ⟨a1, k1, rfl⟩ := h.2.2.shape
  have hl := h.1.1
  have hWb := below_new w (.cells #[.slice a0 n.nodes.length k0, .slice a1 n.pipes.length k1] 27)
  have hbx := Box.new w #[.slice a0 n.nodes.length k0, .slice a1 n.pipes.length k1] 27
  have h := h.below hWb
  go_enter Try.func109, Try.ntmps109
  go_wp2_with fail
  refine (spec_IsNetwork_any _ _ n _ h).mono ?_
  cases hb : netB n
  · have ha : Hid (codeNs n [x] = 1) := by simp [Hid, codeNs, hb]
    rintro e w1 ⟨rfl, b1⟩
    have B := hid (hWb.trans (b1.mono hWb.size))
    go_wp2_with fail
    go_ret
    exact ⟨ret_int ha.out.symm, B.out⟩
  · rintro e w1 ⟨rfl, b1⟩
    have B := hid (hWb.trans (b1.mono hWb.size))
    have hb1 := hbx.below b1
    obtain ⟨c0, c1⟩ := hb1.two
    have hz := hb1.1
    clear hWb b1 hbx h hb1
    cases hx : inB x 0 ((n.nodes.length : Int) - 1)
    · have ha : Hid (codeNs n [x] = 2) := by simp [Hid, codeNs, hb, hx]
      go_wp2_with (go_at_call 97; refine (l02Node_alloc _ _ n.nodes.length _ _ hl ⟨_, _, rfl⟩ ⟨_, _, _, rfl⟩).mono ?_; rintro e w2 ⟨rfl, rfl⟩)
      go_ret
      exact ⟨ret_int ha.out.symm, below_al B.out⟩
    · have ha : Hid (codeNs n [x] = 0) := by simp [Hid, codeNs, hb, hx]
      go_wp2_with (go_at_call 97; refine (l02Node_alloc _ _ n.nodes.length _ _ hl ⟨_, _, rfl⟩ ⟨_, _, _, rfl⟩).mono ?_; rintro e w2 ⟨rfl, rfl⟩)
      go_ret
      exact ⟨ret_int ha.out.symm, below_al B.out⟩

set_option maxHeartbeats 1000000 in
theorem checkNodes_any (nv pv : Value) (n : Net) (b : Nat) (zs : List Int) (cap : Nat) (w : World) (h : NetAt w nv pv n) (hcap : CapOk nv) (hb0 : b < w.heap.size) (hzs : ∀ j (hj : j < zs.length), w.cell? ⟨b, j, none⟩ = some (.int .i64 zs[j])) (hlz : zs.length ≤ 1000) :
    Calls Try.prog 104 #[.agg #[nv, pv], .slice (some ⟨b, 0, none⟩) zs.length cap] w fun e w' => e = .returned (.int .i64 (codeNs n zs)) ∧ Below w.heap.size w w' := by
  obtain ⟨a0, k0, rfl⟩ := h.1.shape
  obtain ⟨a1, k1, rfl⟩ := h.2.2.shape
  have hl := h.1.1
  have hWb := below_new w (.cells #[.slice a0 n.nodes.length k0, .slice a1 n.pipes.length k1] 27)
  have hbx := Box.new w #[.slice a0 n.nodes.length k0, .slice a1 n.pipes.length k1] 27
  have h := h.below hWb
  have HZ := hid hzs
  clear hzs
  go_enter Try.func104, Try.ntmps104
  go_wp2_with fail
  refine (impl_IsNetwork_any _ _ n _ h hcap).mono ?_
  cases hb : netB n
  · have ha : Hid (codeNs n zs = 1) := by simp [Hid, codeNs, hb]
    rintro e w1 ⟨rfl, b1⟩
    have B := hid (hWb.trans (b1.mono hWb.size))
    go_wp2_with fail
    go_ret
    exact ⟨ret_int ha.out.symm, B.out⟩
  rintro e w1 ⟨rfl, b1⟩
  have B := hid (hWb.trans (b1.mono hWb.size))
  have hb1 := hid (hbx.below b1)
  clear hWb b1 hbx h
  go_wp2_with fail
  go_loopw [12] (fun i wr => CkRel n.nodes.length zs w1 i wr) (fun i _ => zs.length - (intOf i).toNat)
  case atStart => exact ⟨0, rfl, by omega, fun j hj h => by omega, Below.refl _ _⟩
  case round =>
    obtain ⟨k, rfl, hk, hall, hbel⟩ := hrel
    have HA := hid hall
    clear hall
    have hbr := hb1.out.below hbel
    have HB := hid hbel
    have HB2 := hid (B.out.trans (hbel.mono B.out.size))
    by_cases hlt : k < zs.length
    · obtain ⟨c0, c1⟩ := hbr.two
      have hz := hbr.1
      have d0 := (HB2.out.cell (p := ⟨b, k, none⟩) hb0).trans (HZ.out k hlt)
      clear hbr hbel
      cases hx : inB zs[k] 0 ((n.nodes.length : Int) - 1)
      · have ha : Hid (codeNs n zs = 2) := by
          have : zs.all (fun z => inB z 0 ((n.nodes.length : Int) - 1)) = false := by
            cases hq : zs.all (fun z => inB z 0 ((n.nodes.length : Int) - 1))
            · rfl
            · have := List.all_eq_true.1 hq zs[k] (List.getElem_mem hlt); rw [hx] at this; cases this
          simp only [Hid, codeNs, hb, this, if_true]; rfl
        go_wp2_with (go_at_call 94; refine (isNodeOf_alloc _ _ n.nodes _ _ hl ⟨_, _, rfl⟩ ⟨_, _, _, rfl⟩).mono ?_; rintro e w2 ⟨rfl, rfl⟩)
        go_ret
        exact ⟨ret_int ha.out.symm, below_al HB2.out⟩
      · go_wp2_with (go_at_call 94; refine (isNodeOf_alloc _ _ n.nodes _ _ hl ⟨_, _, rfl⟩ ⟨_, _, _, rfl⟩).mono ?_; rintro e w2 ⟨rfl, rfl⟩)
        go_roundw
        case rel =>
          refine ⟨k + 1, by go_num, by omega, fun j hj hjk => ?_, below_al HB.out⟩
          rcases (by omega : j < k ∨ j = k) with h1 | rfl
          · exact HA.out j hj h1
          · exact hx
        case measure => simp [intOf]; omega
    · have ha : Hid (codeNs n zs = 0) := by
        have : zs.all (fun z => inB z 0 ((n.nodes.length : Int) - 1)) = true := List.all_eq_true.2 fun z hz => by
          obtain ⟨i, hi, rfl⟩ := List.getElem_of_mem hz
          exact HA.out i hi (by omega)
        simp only [Hid, codeNs, hb, this, if_true]
      obtain rfl : k = zs.length := by omega
      clear hbr hbel
      go_wp2_with fail
      go_ret
      exact ⟨ret_int ha.out.symm, HB2.out⟩

/-- A fresh list of numbers and a code. -/
def OutI (w : World) (p : List Int × Int) (e : Ending) (w' : World) : Prop :=
  ∃ r, e = .returned (.tuple #[r, .int .i64 p.2]) ∧ Slc (fun b => w.heap.size ≤ b ∧ b < w'.heap.size) w' r p.1 ∧ Below w.heap.size w w'
def paR (n : Net) (v : Int) : List Int × Int := if codeNs n [v] = 0 then (selP (atF v) n.pipes n.pipes.length, 0) else ([], codeNs n [v])

set_option maxHeartbeats 400000 in
theorem impl_PipesAt_any (nv pv : Value) (n : Net) (v : Int) (w : World) (h : NetAt w nv pv n) (hcap : CapOk nv) :
    Calls Try.prog 26 #[.agg #[nv, pv], .int .i64 v] w (OutI w (paR n v)) := by
  obtain ⟨a0, k0, rfl⟩ := h.1.shape
  obtain ⟨a1, k1, rfl⟩ := h.2.2.shape
  have hWb := below_new w (.cells #[.slice a0 n.nodes.length k0, .slice a1 n.pipes.length k1] 27)
  have hbx := Box.new w #[.slice a0 n.nodes.length k0, .slice a1 n.pipes.length k1] 27
  have hW2 := hWb.alloc hWb.size (.cells #[.int .i64 v] 2)
  have hbx := hbx.below (below_new _ (.cells #[.int .i64 v] 2))
  have hvb := Box.new (w.alloc (.cells #[.slice a0 n.nodes.length k0, .slice a1 n.pipes.length k1] 27)) #[.int .i64 v] 2
  have h := h.below hW2
  rw [World.size_alloc] at hvb
  have hcell : ∀ j (hj : j < [v].length), ((w.alloc (.cells #[.slice a0 n.nodes.length k0, .slice a1 n.pipes.length k1] 27)).alloc (.cells #[.int .i64 v] 2)).cell? ⟨w.heap.size + 1, j, none⟩ = some (.int .i64 [v][j]) := fun j hj => by
    obtain rfl : j = 0 := by simpa using hj
    exact hvb.2 0 (by simp)
  go_enter Try.func26, Try.ntmps26
  go_wp2_with fail
  refine (checkNodes_any _ _ n (w.heap.size + 1) [v] 1 _ h hcap hvb.1 hcell (by simp)).mono ?_
  by_cases hc : codeNs n [v] = 0
  · have hr : Hid (paR n v = (selP (atF v) n.pipes n.pipes.length, 0)) := by simp [Hid, paR, hc]
    have hl : n.pipes.length ≤ 1000 := by
      have hb : netB n = true := by
        cases hb : netB n
        · simp [codeNs, hb] at hc
        · rfl
      have := (netB_t hb).2.2.1
      omega
    rw [hc]
    rintro e w1 ⟨rfl, b1⟩
    have B := hid (hW2.trans (b1.mono hW2.size))
    obtain ⟨c0, c1⟩ := (hbx.below b1).two
    have h := h.below b1
    clear hWb hW2 b1 hbx hc hvb hcell
    go_wp2_with fail
    refine (pipesAt_any _ _ n v _ h hl).mono ?_
    rintro e w2 ⟨r, rfl, hs, b2⟩
    have B2 := hid (B.out.trans (b2.mono B.out.size))
    have HS := hid hs
    have hsz := B.out.size
    obtain ⟨_, ra, rc, rfl, _⟩ := hs
    clear b2 c0 c1
    go_wp2_with fail
    go_ret2
    rw [hr.out]
    exact ⟨_, rfl, HS.out.mono (fun b _ hb => ⟨by omega, hb.2⟩), B2.out⟩
  · have hr : Hid (paR n v = ([], codeNs n [v])) := by simp [Hid, paR, hc]
    obtain ⟨c, hcc⟩ : ∃ c, codeNs n [v] = c := ⟨_, rfl⟩
    rw [hcc] at hr hc ⊢
    have hc' : (c != 0) = true := by simpa using hc
    rintro e w1 ⟨rfl, b1⟩
    have B := hid (hW2.trans (b1.mono hW2.size))
    clear hcc
    go_wp2_with fail
    go_ret2
    rw [hr.out]
    exact ⟨_, rfl, Slc.nil _ _, B.out⟩

set_option maxHeartbeats 400000 in
theorem spec_PipesAt_any (nv pv : Value) (n : Net) (v : Int) (w : World) (h : NetAt w nv pv n) :
    Calls Try.prog 31 #[.agg #[nv, pv], .int .i64 v] w (OutI w (paR n v)) := by
  obtain ⟨a0, k0, rfl⟩ := h.1.shape
  obtain ⟨a1, k1, rfl⟩ := h.2.2.shape
  have hWb := below_new w (.cells #[.slice a0 n.nodes.length k0, .slice a1 n.pipes.length k1] 27)
  have hbx := Box.new w #[.slice a0 n.nodes.length k0, .slice a1 n.pipes.length k1] 27
  have hW2 := hWb
  have h := h.below hWb
  go_enter Try.func31, Try.ntmps31
  go_wp2_with fail
  refine (l02NodeCode_any _ _ n v _ h).mono ?_
  by_cases hc : codeNs n [v] = 0
  · have hr : Hid (paR n v = (selP (atF v) n.pipes n.pipes.length, 0)) := by simp [Hid, paR, hc]
    have hl : n.pipes.length ≤ 1000 := by
      have hb : netB n = true := by
        cases hb : netB n
        · simp [codeNs, hb] at hc
        · rfl
      have := (netB_t hb).2.2.1
      omega
    rw [hc]
    rintro e w1 ⟨rfl, b1⟩
    have B := hid (hW2.trans (b1.mono hW2.size))
    obtain ⟨c0, c1⟩ := (hbx.below b1).two
    have h := h.below b1
    clear hWb hW2 b1 hbx hc
    go_wp2_with fail
    refine (l02At_any _ _ n v _ h hl).mono ?_
    rintro e w2 ⟨r, rfl, hs, b2⟩
    have B2 := hid (B.out.trans (b2.mono B.out.size))
    have HS := hid hs
    have hsz := B.out.size
    obtain ⟨_, ra, rc, rfl, _⟩ := hs
    clear b2 c0 c1
    go_wp2_with fail
    go_ret2
    rw [hr.out]
    exact ⟨_, rfl, HS.out.mono (fun b _ hb => ⟨by omega, hb.2⟩), B2.out⟩
  · have hr : Hid (paR n v = ([], codeNs n [v])) := by simp [Hid, paR, hc]
    obtain ⟨c, hcc⟩ : ∃ c, codeNs n [v] = c := ⟨_, rfl⟩
    rw [hcc] at hr hc ⊢
    have hc' : (c != 0) = true := by simpa using hc
    rintro e w1 ⟨rfl, b1⟩
    have B := hid (hW2.trans (b1.mono hW2.size))
    clear hcc
    go_wp2_with fail
    go_ret2
    rw [hr.out]
    exact ⟨_, rfl, Slc.nil _ _, B.out⟩

theorem paR_len (n : Net) (v : Int) (h : n.pipes.length ≤ 2000000) : (paR n v).1.length ≤ 2000000 := by
  unfold paR
  split
  · exact Nat.le_trans (selP_len _ _ _) h
  · simp

end Go.Proofs.Ytdapdaadglaoiaa
