/- spec.IsNetwork. -/
import Derived.Test.YtdbgncinaacheaaGreatDoorIsNetI
import Derived.Deep.RegionWith
import Derived.Deep.DeepCutAuto
namespace Go.Proofs.YtdbgncinaacheaaGreatDoor
open Go.RowKit

def l02P (m : Int) (p : Pp) : Bool := inB p.fr 0 (m - 1) && inB p.to 0 (m - 1) && !(p.fr == p.to) && inB p.k 1 1000 && inB p.vol 0 1000000 && inB p.lim 1 30000
set_option maxHeartbeats 400000 in
theorem l02Pipe_any (p : Pp) (m : Int) (w : World) (hm : 1 ≤ m) (hm2 : m ≤ 1000) :
    Calls Tryz.prog 56 #[.agg #[.int .i64 p.fr, .int .i64 p.to, .int .i64 p.k, .int .i64 p.vol, .int .i64 p.lim], .int .i64 m] w fun e w' => e = .returned (.bool (l02P m p)) ∧ w' = w.alloc (.cells #[.int .i64 p.fr, .int .i64 p.to, .int .i64 p.k, .int .i64 p.vol, .int .i64 p.lim] 54) := by
  obtain ⟨fr, tt, pk, vol, lim⟩ := p
  cases h0 : inB fr 0 (m - 1)
  · have hr : Hid (l02P m ⟨fr, tt, pk, vol, lim⟩ = false) := by simp [Hid, l02P, h0]
    go_enter Tryz.func56, Tryz.ntmps56
    go_wp2_with (go_at_call 45; refine (l01In_any _ _ _ _).mono ?_; rintro e w1 ⟨rfl, rfl⟩)
    go_ret
    exact ⟨ret_bool hr.out.symm, rfl⟩
  cases h1 : inB tt 0 (m - 1)
  · have hr : Hid (l02P m ⟨fr, tt, pk, vol, lim⟩ = false) := by simp [Hid, l02P, h0, h1]
    go_enter Tryz.func56, Tryz.ntmps56
    go_wp2_with (go_at_call 45; refine (l01In_any _ _ _ _).mono ?_; rintro e w1 ⟨rfl, rfl⟩)
    go_ret
    exact ⟨ret_bool hr.out.symm, rfl⟩
  cases h2 : (fr == tt)
  rotate_left
  · obtain rfl : fr = tt := by simpa using h2
    have hr : Hid (l02P m ⟨fr, fr, pk, vol, lim⟩ = false) := by simp [Hid, l02P]
    go_enter Tryz.func56, Tryz.ntmps56
    go_wp2_with (go_at_call 45; refine (l01In_any _ _ _ _).mono ?_; rintro e w1 ⟨rfl, rfl⟩)
    go_ret
    exact ⟨ret_bool hr.out.symm, rfl⟩
  have hne : (fr != tt) = true := by simp [bne, h2]
  cases h3 : inB pk 1 1000
  · have hr : Hid (l02P m ⟨fr, tt, pk, vol, lim⟩ = false) := by simp [Hid, l02P, h0, h1, h2, h3]
    go_enter Tryz.func56, Tryz.ntmps56
    go_wp2_with (go_at_call 45; refine (l01In_any _ _ _ _).mono ?_; rintro e w1 ⟨rfl, rfl⟩)
    go_ret
    exact ⟨ret_bool hr.out.symm, rfl⟩
  cases h4 : inB vol 0 1000000
  · have hr : Hid (l02P m ⟨fr, tt, pk, vol, lim⟩ = false) := by simp [Hid, l02P, h0, h1, h2, h3, h4]
    go_enter Tryz.func56, Tryz.ntmps56
    go_wp2_with (go_at_call 45; refine (l01In_any _ _ _ _).mono ?_; rintro e w1 ⟨rfl, rfl⟩)
    go_ret
    exact ⟨ret_bool hr.out.symm, rfl⟩
  cases h5 : inB lim 1 30000
  · have hr : Hid (l02P m ⟨fr, tt, pk, vol, lim⟩ = false) := by simp [Hid, l02P, h0, h1, h2, h3, h4, h5]
    go_enter Tryz.func56, Tryz.ntmps56
    go_wp2_with (go_at_call 45; refine (l01In_any _ _ _ _).mono ?_; rintro e w1 ⟨rfl, rfl⟩)
    go_ret
    exact ⟨ret_bool hr.out.symm, rfl⟩
  · have hr : Hid (l02P m ⟨fr, tt, pk, vol, lim⟩ = true) := by simp [Hid, l02P, h0, h1, h2, h3, h4, h5]
    go_enter Tryz.func56, Tryz.ntmps56
    go_wp2_with (go_at_call 45; refine (l01In_any _ _ _ _).mono ?_; rintro e w1 ⟨rfl, rfl⟩)
    go_ret
    exact ⟨ret_bool hr.out.symm, rfl⟩

theorem sEq_comm (a b : ByteArray) : sEq a b = sEq b a := by
  cases h : sEq b a
  · exact sEq_f.2 (fun e => sEq_f.1 h e.symm)
  · rw [sEq_iff.1 h]; exact sEq_iff.2 rfl
theorem nodeAt_miss {ns : List Nd} {i : Nat} (hi : i < ns.length) (hN : nodeB ns[i] = true) (hf : ∀ j (hj : j < ns.length), j < i → sEq ns[j].name ns[i].name = false) : nodeAtB ns i = true := by
  unfold nodeAtB
  rw [getD_eq hi, hN, nIdx_miss (fun j hj => by
    have : j < i ∧ j < ns.length := by rw [List.length_take] at hj; omega
    rw [List.getElem_take]; exact hf j this.2 this.1)]
  rfl
theorem nodeAt_hit {ns : List Nd} {i : Nat} (hi : i < ns.length) (j : Nat) (hj : j < i) (h : sEq ns[j].name ns[i].name = true) : nodeAtB ns i = false := by
  unfold nodeAtB
  rw [getD_eq hi]
  rcases nIdx_cases (ns.take i) ns[i].name with ⟨_, h2⟩ | ⟨k, _, h2, _⟩
  · have := h2 j (by simp; omega)
    rw [List.getElem_take, h] at this; cases this
  · rw [h2]; simp

def SpRel (ns : List Nd) (i : Nat) (hi : i < ns.length) (W : World) (v : Value) (wr : World) : Prop := ∃ k : Nat, v = .int .i64 k ∧ k ≤ i ∧ (∀ j (hj : j < ns.length), j < k → sEq ns[j].name ns[i].name = false) ∧ Below W.heap.size W wr

theorem below_drewN {W w : World} (h : Below W.heap.size W w) (n : Nat) : Below W.heap.size W (w.drewN n) := ⟨h.os, h.tape, h.output, h.size, h.block⟩
theorem below_drew {W w : World} (h : Below W.heap.size W w) : Below W.heap.size W w.drew := ⟨h.os, h.tape, h.output, h.size, h.block⟩

set_option maxHeartbeats 1000000 in
set_option maxRecDepth 100000 in
theorem spec_IsNetwork_any (nv pv : Value) (n : Net) (w : World) (h : NetAt w nv pv n) :
    Calls Tryz.prog 44 #[.agg #[nv, pv]] w fun e w' => e = .returned (.bool (netB n)) ∧ Below w.heap.size w w' := by
  obtain ⟨hn, hok, hp⟩ := h
  obtain ⟨a0, k0, rfl⟩ := hn.shape
  obtain ⟨a1, k1, rfl⟩ := hp.shape
  have hl1 := hn.1
  have hl2 := hp.1
  by_cases hA1 : (n.nodes.length : Int) < 1
  · have hr : Hid (netB n = false) := by
      have : inB n.nodes.length 1 24 = false := by unfold inB; simp; omega
      simp [Hid, netB, this]
    go_enter Tryz.func44, Tryz.ntmps44
    go_wp2_with fail
    go_ret
    exact ⟨ret_bool hr.out.symm, below_new _ _⟩
  by_cases hA2 : 24 < (n.nodes.length : Int)
  · have hr : Hid (netB n = false) := by
      have : inB n.nodes.length 1 24 = false := by unfold inB; simp; omega
      simp [Hid, netB, this]
    go_enter Tryz.func44, Tryz.ntmps44
    go_wp2_with fail
    go_ret
    exact ⟨ret_bool hr.out.symm, below_new _ _⟩
  by_cases hB : 40 < (n.pipes.length : Int)
  · have hr : Hid (netB n = false) := by
      have : decide (n.pipes.length ≤ 40) = false := decide_eq_false (by omega)
      simp [Hid, netB, this]
    go_enter Tryz.func44, Tryz.ntmps44
    go_wp2_with fail
    go_ret
    exact ⟨ret_bool hr.out.symm, below_new _ _⟩
  have hA : Hid (inB n.nodes.length 1 24 = true) := by unfold Hid inB; simp; omega
  have hWb := below_new w (.cells #[.slice a0 n.nodes.length k0, .slice a1 n.pipes.length k1] 34)
  have hbx := Box.new w #[.slice a0 n.nodes.length k0, .slice a1 n.pipes.length k1] 34
  have hn := hn.below hWb
  have hp := hp.below hWb
  go_enter Tryz.func44, Tryz.ntmps44
  go_wp2_with fail
  generalize w.alloc (.cells #[.slice a0 n.nodes.length k0, .slice a1 n.pipes.length k1] 34) = W at *
  have HN := hid hn
  have HP := hid hp
  have HW := hid hWb
  have hsz := hbx.1
  clear hn hp hWb
  go_loopw [3] (fun i wr => IsNRel n.nodes W i wr) (fun i _ => n.nodes.length - (intOf i).toNat)
  case atStart => exact ⟨0, rfl, by omega, fun j h => by omega, Below.refl _ _⟩
  case round =>
    obtain ⟨i, rfl, hi, hall, hbel⟩ := hrel
    have HA := hid hall
    clear hall
    have hbr := hbx.below hbel
    obtain ⟨x0, x1⟩ := hbr.two
    have hsz2 := hbr.1
    by_cases hlt : i < n.nodes.length
    · have hnr := HN.out.below hbel
      obtain ⟨b, off, rfl, hb, hcc⟩ := hnr.at' (by omega)
      obtain ⟨c0, c1, c2⟩ := cellsN (hcc i hlt)
      have hs := hok n.nodes[i] (List.getElem_mem hlt)
      have HB := hid hbel
      clear hcc hbel
      cases hN : nodeB n.nodes[i]
      · have hr : Hid (netB n = false) := by
          have h1 : nodeAtB n.nodes i = false := by unfold nodeAtB; rw [getD_eq hlt, hN]; rfl
          simp [Hid, netB, nodesB_no i hlt h1]
        go_wp2_with fail
        refine (spec_IsNode_any n.nodes[i] _ hs).mono ?_
        rw [hN]
        rintro e w1 ⟨rfl, b1⟩
        have HB1 := hid (HB.out.trans (b1.mono HB.out.size))
        clear b1
        go_wp2_with fail
        go_ret
        exact ⟨ret_bool hr.out.symm, HW.out.trans (HB1.out.mono HW.out.size)⟩
      · go_wp2_with fail
        refine (spec_IsNode_any n.nodes[i] _ hs).mono ?_
        rw [hN]
        rintro e w1 ⟨rfl, b1⟩
        have HB1 := hid (HB.out.trans (b1.mono HB.out.size))
        have hn1 := hnr.below b1
        have hb1 := hbr.below b1
        clear b1 x0 x1 c0 c1 c2 hnr hbr HB hsz2 hb
        go_wp2_with fail
        go_loopw [4] (fun v wr => SpRel n.nodes i hlt w1 v wr) (fun v _ => i - (intOf v).toNat)
        case atStart => exact ⟨0, rfl, by omega, fun j hj h => by omega, Below.refl _ _⟩
        case round =>
          obtain ⟨k, rfl, hk, hall, hbel⟩ := hrel
          have HA2 := hid hall
          clear hall
          by_cases hki : k < i
          · have hn2 := hn1.below hbel
            obtain ⟨b', off', he, hb', hcc⟩ := hn2.at' (by omega)
            obtain ⟨rfl, rfl⟩ : b = b' ∧ off = off' := by simpa using he
            obtain ⟨c0, c1, c2⟩ := cellsN (hcc i hlt)
            obtain ⟨d0, d1, d2⟩ := cellsN (hcc k (by omega))
            have hb2 := hb1.below hbel
            obtain ⟨x0, x1⟩ := hb2.two
            have hsz2 := hb2.1
            have hki2 : k < n.nodes.length := by omega
            have HB2 := hid hbel
            clear hcc hbel hn2 hb2 he
            cases hE : sEq n.nodes[k].name n.nodes[i].name
            · have hE' : (n.nodes[i].name.toList == n.nodes[k].name.toList) = false := by have := hE; rw [sEq_comm] at this; exact this
              go_wp2_with fail
              go_quiet (fail)
              go_wp2_with fail
              go_roundw
              case rel =>
                refine ⟨k + 1, by go_num, by omega, fun j hj hjk => ?_, below_drewN HB2.out _⟩
                rcases (by omega : j < k ∨ j = k) with h1 | rfl
                · exact HA2.out j hj h1
                · exact hE
              case measure => simp [intOf]; omega
            · have hE' : (n.nodes[i].name.toList == n.nodes[k].name.toList) = true := by have := hE; rw [sEq_comm] at this; exact this
              have hr : Hid (netB n = false) := by simp [Hid, netB, nodesB_no i hlt (nodeAt_hit hlt k hki hE)]
              have HB3 := hid (HB1.out.trans (HB2.out.mono HB1.out.size))
              go_wp2_with fail
              go_quiet (fail)
              go_wp2_with fail
              go_ret
              exact ⟨ret_bool hr.out.symm, HW.out.trans ((below_drewN HB3.out _).mono HW.out.size)⟩
          · obtain rfl : k = i := by omega
            have hI := nodeAt_miss hlt hN HA2.out
            have HA3 : Hid (∀ j, j < k + 1 → nodeAtB n.nodes j = true) := fun j hj => by
              rcases Nat.lt_succ_iff_lt_or_eq.1 hj with h | h
              · exact HA.out j h
              · rw [h]; exact hI
            have HB3 := hid (HB1.out.trans (hbel.mono HB1.out.size))
            clear hbel
            go_wp2_with fail
            go_roundw
            case rel => exact ⟨k + 1, by go_num, by omega, HA3.out, HB3.out⟩
            case measure => simp [intOf]; omega
    · obtain rfl : i = n.nodes.length := by omega
      have hND := hid (nodesB_mk HA.out)
      have hpr := HP.out.below hbel
      have HB := hid (HW.out.trans (hbel.mono HW.out.size))
      clear hbel HA hbx hsz HP HN HW
      go_wp2_with fail
      obtain ⟨wo, rfl⟩ : ∃ wo, wo = wr := ⟨_, rfl⟩
      go_loopw [5] (fun i wr => IsPRel n.nodes.length n.pipes wo i wr) (fun i _ => n.pipes.length - (intOf i).toNat)
      case atStart => exact ⟨0, rfl, by omega, fun j hj h => by omega, Below.refl _ _⟩
      case round =>
        obtain ⟨k, rfl, hk, hall, hbel⟩ := hrel
        have HA := hid hall
        clear hall
        have hbr2 := hbr.below hbel
        obtain ⟨z0, z1⟩ := hbr2.two
        have hsz3 := hbr2.1
        by_cases hlt : k < n.pipes.length
        · have hpr2 := hpr.below hbel
          obtain ⟨b, off, rfl, hb, hcc⟩ := hpr2.at' (by omega)
          obtain ⟨c0, c1, c2, c3, c4⟩ := cellsP (hcc k hlt)
          have HB2 := hid hbel
          have HB3 := hid (HB.out.trans (hbel.mono HB.out.size))
          clear hcc hbel hpr2 hbr2
          cases hP : l02P n.nodes.length n.pipes[k]
          · have hr : Hid (netB n = false) := by simp [Hid, netB, pipesB_no k hlt hP]
            clear hND HA HB2
            go_wp2_with fail
            go_region_with (go_at_call 56; refine (l02Pipe_any n.pipes[k] n.nodes.length _ (by omega) (by omega)).mono ?_; rw [hP]; rintro e w1 ⟨rfl, rfl⟩)
            all_goals
              go_wp2_with fail
              go_ret
              exact ⟨ret_bool hr.out.symm, by repeat (first | exact HB3.out | apply below_al | apply below_drew)⟩
          · have HA2 : Hid (∀ j (hj : j < n.pipes.length), j < k + 1 → pipeB n.nodes.length n.pipes[j] = true) := fun j hj hjk => by
              rcases Nat.lt_succ_iff_lt_or_eq.1 hjk with h | h
              · exact HA.out j hj h
              · subst h; exact hP
            clear hND HA
            go_wp2_with fail
            go_region_with (go_at_call 56; refine (l02Pipe_any n.pipes[k] n.nodes.length _ (by omega) (by omega)).mono ?_; rw [hP]; rintro e w1 ⟨rfl, rfl⟩)
            all_goals
              go_wp2_with fail
              go_roundw
              case rel => exact ⟨k + 1, by go_num, by omega, HA2.out, by repeat (first | exact HB2.out | apply below_al | apply below_drew)⟩
              case measure => simp [intOf]; omega
        · obtain rfl : k = n.pipes.length := by omega
          have hr : Hid (netB n = true) := by
            have := pipesB_mk (fun i hi => HA.out i hi hi)
            have h40 : decide (n.pipes.length ≤ 40) = true := decide_eq_true (by omega)
            simp [Hid, netB, hA.out, h40, hND.out, this]
          have HB3 := hid (HB.out.trans (hbel.mono HB.out.size))
          clear hbel HA
          go_wp2_with fail
          go_ret
          exact ⟨ret_bool hr.out.symm, HB3.out⟩

end Go.Proofs.YtdbgncinaacheaaGreatDoor
