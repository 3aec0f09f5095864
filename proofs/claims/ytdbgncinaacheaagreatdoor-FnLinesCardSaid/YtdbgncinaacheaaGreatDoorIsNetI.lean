/- impl.IsNetwork. -/
import Derived.Test.YtdbgncinaacheaaGreatDoorIsNetD
import Derived.Deep.RegionWith
import Derived.Deep.DeepCutAuto
namespace Go.Proofs.YtdbgncinaacheaaGreatDoor
open Go.RowKit

def IsNRel (ns : List Nd) (W : World) (i : Value) (wr : World) : Prop := ∃ k : Nat, i = .int .i64 k ∧ k ≤ ns.length ∧ (∀ j, j < k → nodeAtB ns j = true) ∧ Below W.heap.size W wr
def IsPRel (m : Nat) (ps : List Pp) (W : World) (i : Value) (wr : World) : Prop := ∃ k : Nat, i = .int .i64 k ∧ k ≤ ps.length ∧ (∀ j (hj : j < ps.length), j < k → pipeB m ps[j] = true) ∧ Below W.heap.size W wr

theorem below_al {w b : World} {o : Obj} (h : Below w.heap.size w b) : Below w.heap.size w (b.alloc o) := h.alloc h.size o
theorem isNodeOf_alloc (nv pv : Value) (ns : List Nd) (x : Int) (w : World) (hl : ns.length ≤ 9223372036854775807) (hnv : ∃ a c, nv = .slice a ns.length c) (hpv : ∃ a n c, pv = .slice a n c) :
    Calls Tryz.prog 42 #[.agg #[nv, pv], .int .i64 x] w fun e w' => e = .returned (.bool (inB x 0 ((ns.length : Int) - 1))) ∧ w' = w.alloc (.cells #[nv, pv] 34) := by
  obtain ⟨a1, n1, k1, rfl⟩ := hpv
  obtain ⟨a0, k0, rfl⟩ := hnv
  go_enter Tryz.func42, Tryz.ntmps42
  go_wp2_with (go_at_call 40; refine (within_any _ _ _ _).mono ?_; rintro e w' ⟨rfl, rfl⟩)
  go_ret
  exact ⟨rfl, rfl⟩

set_option maxHeartbeats 1000000 in
set_option maxRecDepth 100000 in
theorem impl_IsNetwork_any (nv pv : Value) (n : Net) (w : World) (h : NetAt w nv pv n) (hcap : CapOk nv) :
    Calls Tryz.prog 23 #[.agg #[nv, pv]] w fun e w' => e = .returned (.bool (netB n)) ∧ Below w.heap.size w w' := by
  obtain ⟨hn, hok, hp⟩ := h
  obtain ⟨a0, k0, rfl⟩ := hn.shape
  obtain ⟨a1, k1, rfl⟩ := hp.shape
  have hl1 := hn.1
  have hl2 := hp.1
  cases hA : inB n.nodes.length 1 24
  · have hr : Hid (netB n = false) := by simp [Hid, netB, hA]
    go_enter Tryz.func23, Tryz.ntmps23
    go_wp2_with (go_at_call 40; refine (within_any _ _ _ _).mono ?_; rintro e w' ⟨rfl, rfl⟩)
    go_ret
    exact ⟨ret_bool hr.out.symm, below_new _ _⟩
  obtain ⟨m1, m2⟩ := inB_t hA
  by_cases hB : (n.pipes.length : Int) ≤ 40
  case neg =>
    have hr : Hid (netB n = false) := by
      have : decide (n.pipes.length ≤ 40) = false := decide_eq_false (by omega)
      simp [Hid, netB, this]
    go_enter Tryz.func23, Tryz.ntmps23
    go_wp2_with (go_at_call 40; refine (within_any _ _ _ _).mono ?_; rintro e w' ⟨rfl, rfl⟩)
    go_ret
    exact ⟨ret_bool hr.out.symm, below_new _ _⟩
  have hd40 : decide (40 < (n.pipes.length : Int)) = false := decide_eq_false (by omega)
  have hWb := below_new w (.cells #[.slice a0 n.nodes.length k0, .slice a1 n.pipes.length k1] 34)
  have hbx := Box.new w #[.slice a0 n.nodes.length k0, .slice a1 n.pipes.length k1] 34
  have hn := hn.below hWb
  have hp := hp.below hWb
  go_enter Tryz.func23, Tryz.ntmps23
  go_wp2_with (go_at_call 40; refine (within_any _ _ _ _).mono ?_; rintro e w' ⟨rfl, rfl⟩)
  generalize w.alloc (.cells #[.slice a0 n.nodes.length k0, .slice a1 n.pipes.length k1] 34) = W at *
  have HN := hid hn
  have HP := hid hp
  have HW := hid hWb
  have hsz := hbx.1
  clear hn hp hWb
  go_loopw [21] (fun i wr => IsNRel n.nodes W i wr) (fun i _ => n.nodes.length - (intOf i).toNat)
  case atStart => exact ⟨0, rfl, by omega, fun j h => by omega, Below.refl _ _⟩
  case round =>
    obtain ⟨k, rfl, hk, hall, hbel⟩ := hrel
    have HA := hid hall
    clear hall
    by_cases hlt : k < n.nodes.length
    · have hbr := hbx.below hbel
      have hnr := HN.out.below hbel
      obtain ⟨b, off, rfl, hb, hcc⟩ := hnr.at' (by omega)
      obtain ⟨c0, c1, c2⟩ := cellsN (hcc k hlt)
      have hs := hok n.nodes[k] (List.getElem_mem hlt)
      obtain ⟨x0, x1⟩ := hbr.two
      have HB := hid hbel
      have hsz2 := hbr.1
      clear hcc hbel
      cases hN : nodeB n.nodes[k]
      · have hr : Hid (netB n = false) := by
          have h1 : nodeAtB n.nodes k = false := by unfold nodeAtB; rw [getD_eq hlt, hN]; rfl
          simp [Hid, netB, nodesB_no k hlt h1]
        go_wp2_with fail
        refine wp_region_any (by kernel_rfl) ?_
        change wpAny _ _ _ _ _ _ _ (World.drew _)
        refine wpAny_ready (rs := [0]) (by kernel_rfl) (by simp) ?_
        refine AllReady.cons rfl (fun K hK => ?_) AllReady.nil
        go_simp
        refine hK _ _ ?_
        clear hK K
        refine wpAny_ready (rs := [1]) (by kernel_rfl) (by simp) ?_
        refine AllReady.cons rfl (fun K hK => ?_) AllReady.nil
        go_simp
        go_wp2_with (go_at_call 9; refine (impl_IsNode_any n.nodes[k] _ hs).mono ?_; rw [hN]; rintro e w1 ⟨rfl, b1⟩)
        refine wpAny_ready (rs := [2]) (by kernel_rfl) (by simp) ?_
        refine AllReady.cons rfl (fun K hK => ?_) AllReady.nil
        go_simp
        refine hK _ _ ?_
        clear hK K
        refine wpAny_ready (rs := [3]) (by kernel_rfl) (by simp) ?_
        refine AllReady.cons rfl (fun K hK => ?_) AllReady.nil
        go_simp
        refine hK _ _ ?_
        clear hK K
        refine wpAny_take (i := 4) (v := undef) rfl (by kernel_rfl) (by kernel_rfl) (by kernel_rfl) (fun _ _ _ h => h) (Or.inr ⟨by kernel_rfl, rfl⟩) ?_
        refine wpAny_take (i := 5) (v := undef) rfl (by kernel_rfl) (by kernel_rfl) (by kernel_rfl) (fun _ _ _ h => h) (Or.inr ⟨by kernel_rfl, rfl⟩) ?_
        refine wpAny_take (i := 6) (v := undef) rfl (by kernel_rfl) (by kernel_rfl) (by kernel_rfl) (fun _ _ _ h => h) (Or.inr ⟨by kernel_rfl, rfl⟩) ?_
        refine wpAny_take (i := 7) (v := undef) rfl (by kernel_rfl) (by kernel_rfl) (by kernel_rfl) (fun _ _ _ h => h) (Or.inr ⟨by kernel_rfl, rfl⟩) ?_
        refine wpAny_take (i := 8) (v := undef) rfl (by kernel_rfl) (by kernel_rfl) (by kernel_rfl) (fun _ _ _ h => h) (Or.inr ⟨by kernel_rfl, rfl⟩) ?_
        refine wpAny_take (i := 9) (v := undef) rfl (by kernel_rfl) (by kernel_rfl) (by kernel_rfl) (fun _ _ _ h => h) (Or.inr ⟨by kernel_rfl, rfl⟩) ?_
        refine wpAny_take (i := 10) (v := undef) rfl (by kernel_rfl) (by kernel_rfl) (by kernel_rfl) (fun _ _ _ h => h) (Or.inr ⟨by kernel_rfl, rfl⟩) ?_
        refine wpAny_take (i := 11) (v := undef) rfl (by kernel_rfl) (by kernel_rfl) (by kernel_rfl) (fun _ _ _ h => h) (Or.inr ⟨by kernel_rfl, rfl⟩) ?_
        refine wpAny_take (i := 12) (v := undef) rfl (by kernel_rfl) (by kernel_rfl) (by kernel_rfl) (fun _ _ _ h => h) (Or.inr ⟨by kernel_rfl, rfl⟩) ?_
        refine wpAny_ready (rs := [13]) (by kernel_rfl) (by simp) ?_
        refine AllReady.cons rfl (fun K hK => ?_) AllReady.nil
        go_simp
        refine hK _ _ ?_
        clear hK K
        refine wpAny_done (by kernel_rfl) ?_ _
        go_wp2_with fail
        go_ret
        exact ⟨ret_bool hr.out.symm, HW.out.trans (((HB.out.trans ((below_new wr _).mono HB.out.size)).trans ((below_undrew b1).mono (by have := HB.out.size; simp; omega))).mono HW.out.size)⟩
      · have hcl := hcap.le
        have hbl : k ≤ k0 := by omega
        cases hI : decide (0 ≤ nIdx (n.nodes.take k) n.nodes[k].name)
        · have hI' : nodeAtB n.nodes k = true := by
            unfold nodeAtB; rw [getD_eq hlt, hN]
            have := of_decide_eq_false hI
            simpa using this
          have HA2 : Hid (∀ j, j < k + 1 → nodeAtB n.nodes j = true) := fun j hj => by
            rcases Nat.lt_succ_iff_lt_or_eq.1 hj with h | h
            · exact HA.out j h
            · rw [h]; exact hI'
          go_wp2_with fail
          refine wp_region_any (by kernel_rfl) ?_
          change wpAny _ _ _ _ _ _ _ (World.drew _)
          refine wpAny_ready (rs := [0]) (by kernel_rfl) (by simp) ?_
          refine AllReady.cons rfl (fun K hK => ?_) AllReady.nil
          go_simp
          refine hK _ _ ?_
          clear hK K
          refine wpAny_ready (rs := [1]) (by kernel_rfl) (by simp) ?_
          refine AllReady.cons rfl (fun K hK => ?_) AllReady.nil
          go_simp
          go_wp2_with (go_at_call 9; refine (impl_IsNode_any n.nodes[k] _ hs).mono ?_; rw [hN]; rintro e w1 ⟨rfl, b1⟩)
          have b1 := below_undrew b1
          have y0 := ((hbr.below (below_new wr _)).below b1).two.1
          have yn := ((Box.new wr #[.string n.nodes[k].name, .int .i64 n.nodes[k].low, .int .i64 n.nodes[k].high] 25).below b1).three.1
          have HT := hid (((hnr.below (below_new wr _)).below b1).take k (by omega) k0)
          have hs1 := b1.size
          simp only [World.size_alloc] at hs1
          have HB1 := hid ((HB.out.trans ((below_new wr _).mono HB.out.size)).trans (b1.mono (by have := HB.out.size; simp; omega)))
          clear b1
          refine wpAny_ready (rs := [2]) (by kernel_rfl) (by simp) ?_
          refine AllReady.cons rfl (fun K hK => ?_) AllReady.nil
          go_simp
          refine hK _ _ ?_
          clear hK K
          refine wpAny_ready (rs := [3]) (by kernel_rfl) (by simp) ?_
          refine AllReady.cons rfl (fun K hK => ?_) AllReady.nil
          go_simp
          refine hK _ _ ?_
          clear hK K
          refine wpAny_take (i := 4) (v := ?vv4) rfl (by kernel_rfl) (by kernel_rfl) (by kernel_rfl) (fun _ _ _ h => h) (Or.inl ⟨by kernel_rfl, ?yy4⟩) ?_
          case yy4 => intro w; go_simp; try with_reducible rfl
          refine wpAny_take (i := 6) (v := ?vv6) rfl (by kernel_rfl) (by kernel_rfl) (by kernel_rfl) (fun _ _ _ h => h) (Or.inl ⟨by kernel_rfl, ?yy6⟩) ?_
          case yy6 => intro w; go_simp; try with_reducible rfl
          refine wpAny_take (i := 9) (v := ?vv9) rfl (by kernel_rfl) (by kernel_rfl) (by kernel_rfl) (fun _ _ _ h => h) (Or.inl ⟨by kernel_rfl, ?yy9⟩) ?_
          case yy9 => intro w; go_simp; try with_reducible rfl
          refine wpAny_ready (rs := [5, 10]) (by kernel_rfl) (by simp) ?_
          refine AllReady.cons rfl (fun K hK => ?_) (AllReady.cons rfl (fun K hK => ?_) AllReady.nil)
          · go_simp
            refine hK _ _ ?_
            clear hK K
            refine wpAny_take (i := 7) (v := ?vv7) rfl (by kernel_rfl) (by kernel_rfl) (by kernel_rfl) (fun _ _ _ h => h) (Or.inl ⟨by kernel_rfl, ?yy7⟩) ?_
            case yy7 => intro w; go_simp; try with_reducible rfl
            refine wpAny_take (i := 8) (v := ?vv8) rfl (by kernel_rfl) (by kernel_rfl) (by kernel_rfl) (fun _ _ _ h => h) (Or.inl ⟨by kernel_rfl, ?yy8⟩) ?_
            case yy8 => intro w; go_simp; try with_reducible rfl
            refine wpAny_ready (rs := [10]) (by kernel_rfl) (by simp) ?_
            refine AllReady.cons rfl (fun K hK => ?_) AllReady.nil
            go_simp
            refine hK _ _ ?_
            clear hK K
            refine wpAny_ready (rs := [11]) (by kernel_rfl) (by simp) ?_
            refine AllReady.cons rfl (fun K hK => ?_) AllReady.nil
            go_simp
            go_wp2_with (go_at_call 41; refine (nodeIndex_any _ _ (n.nodes.take k) n.nodes[k].name _ HT.out ⟨_, _, _, rfl⟩).mono ?_; rintro e w2 ⟨rfl, b2⟩)
            refine wpAny_ready (rs := [12]) (by kernel_rfl) (by simp) ?_
            refine AllReady.cons rfl (fun K hK => ?_) AllReady.nil
            go_simp
            refine hK _ _ ?_
            clear hK K
            refine wpAny_ready (rs := [13]) (by kernel_rfl) (by simp) ?_
            refine AllReady.cons rfl (fun K hK => ?_) AllReady.nil
            go_simp
            refine hK _ _ ?_
            clear hK K
            refine wpAny_done (by kernel_rfl) ?_ _
            go_wp2_with fail
            go_roundw
            case rel => exact ⟨k + 1, by go_num, by omega, HA2.out, HB1.out.trans (b2.mono HB1.out.size)⟩
            case measure => simp [intOf]; omega
          · go_simp
            refine hK _ _ ?_
            clear hK K
            refine wpAny_ready (rs := [5]) (by kernel_rfl) (by simp) ?_
            refine AllReady.cons rfl (fun K hK => ?_) AllReady.nil
            go_simp
            refine hK _ _ ?_
            clear hK K
            refine wpAny_take (i := 7) (v := ?vv7) rfl (by kernel_rfl) (by kernel_rfl) (by kernel_rfl) (fun _ _ _ h => h) (Or.inl ⟨by kernel_rfl, ?yy7⟩) ?_
            case yy7 => intro w; go_simp; try with_reducible rfl
            refine wpAny_take (i := 8) (v := ?vv8) rfl (by kernel_rfl) (by kernel_rfl) (by kernel_rfl) (fun _ _ _ h => h) (Or.inl ⟨by kernel_rfl, ?yy8⟩) ?_
            case yy8 => intro w; go_simp; try with_reducible rfl
            refine wpAny_ready (rs := [11]) (by kernel_rfl) (by simp) ?_
            refine AllReady.cons rfl (fun K hK => ?_) AllReady.nil
            go_simp
            go_wp2_with (go_at_call 41; refine (nodeIndex_any _ _ (n.nodes.take k) n.nodes[k].name _ HT.out ⟨_, _, _, rfl⟩).mono ?_; rintro e w2 ⟨rfl, b2⟩)
            refine wpAny_ready (rs := [12]) (by kernel_rfl) (by simp) ?_
            refine AllReady.cons rfl (fun K hK => ?_) AllReady.nil
            go_simp
            refine hK _ _ ?_
            clear hK K
            refine wpAny_ready (rs := [13]) (by kernel_rfl) (by simp) ?_
            refine AllReady.cons rfl (fun K hK => ?_) AllReady.nil
            go_simp
            refine hK _ _ ?_
            clear hK K
            refine wpAny_done (by kernel_rfl) ?_ _
            go_wp2_with fail
            go_roundw
            case rel => exact ⟨k + 1, by go_num, by omega, HA2.out, HB1.out.trans (b2.mono HB1.out.size)⟩
            case measure => simp [intOf]; omega
        · have hr : Hid (netB n = false) := by
            have h1 : nodeAtB n.nodes k = false := by
              unfold nodeAtB; rw [getD_eq hlt, hN]
              have := of_decide_eq_true hI
              simpa using this
            simp [Hid, netB, nodesB_no k hlt h1]
          go_wp2_with fail
          refine wp_region_any (by kernel_rfl) ?_
          change wpAny _ _ _ _ _ _ _ (World.drew _)
          refine wpAny_ready (rs := [0]) (by kernel_rfl) (by simp) ?_
          refine AllReady.cons rfl (fun K hK => ?_) AllReady.nil
          go_simp
          refine hK _ _ ?_
          clear hK K
          refine wpAny_ready (rs := [1]) (by kernel_rfl) (by simp) ?_
          refine AllReady.cons rfl (fun K hK => ?_) AllReady.nil
          go_simp
          go_wp2_with (go_at_call 9; refine (impl_IsNode_any n.nodes[k] _ hs).mono ?_; rw [hN]; rintro e w1 ⟨rfl, b1⟩)
          have b1 := below_undrew b1
          have y0 := ((hbr.below (below_new wr _)).below b1).two.1
          have yn := ((Box.new wr #[.string n.nodes[k].name, .int .i64 n.nodes[k].low, .int .i64 n.nodes[k].high] 25).below b1).three.1
          have HT := hid (((hnr.below (below_new wr _)).below b1).take k (by omega) k0)
          have hs1 := b1.size
          simp only [World.size_alloc] at hs1
          have HB1 := hid ((HB.out.trans ((below_new wr _).mono HB.out.size)).trans (b1.mono (by have := HB.out.size; simp; omega)))
          clear b1
          refine wpAny_ready (rs := [2]) (by kernel_rfl) (by simp) ?_
          refine AllReady.cons rfl (fun K hK => ?_) AllReady.nil
          go_simp
          refine hK _ _ ?_
          clear hK K
          refine wpAny_ready (rs := [3]) (by kernel_rfl) (by simp) ?_
          refine AllReady.cons rfl (fun K hK => ?_) AllReady.nil
          go_simp
          refine hK _ _ ?_
          clear hK K
          refine wpAny_take (i := 4) (v := ?vv4) rfl (by kernel_rfl) (by kernel_rfl) (by kernel_rfl) (fun _ _ _ h => h) (Or.inl ⟨by kernel_rfl, ?yy4⟩) ?_
          case yy4 => intro w; go_simp; try with_reducible rfl
          refine wpAny_take (i := 6) (v := ?vv6) rfl (by kernel_rfl) (by kernel_rfl) (by kernel_rfl) (fun _ _ _ h => h) (Or.inl ⟨by kernel_rfl, ?yy6⟩) ?_
          case yy6 => intro w; go_simp; try with_reducible rfl
          refine wpAny_take (i := 9) (v := ?vv9) rfl (by kernel_rfl) (by kernel_rfl) (by kernel_rfl) (fun _ _ _ h => h) (Or.inl ⟨by kernel_rfl, ?yy9⟩) ?_
          case yy9 => intro w; go_simp; try with_reducible rfl
          refine wpAny_ready (rs := [5, 10]) (by kernel_rfl) (by simp) ?_
          refine AllReady.cons rfl (fun K hK => ?_) (AllReady.cons rfl (fun K hK => ?_) AllReady.nil)
          · go_simp
            refine hK _ _ ?_
            clear hK K
            refine wpAny_take (i := 7) (v := ?vv7) rfl (by kernel_rfl) (by kernel_rfl) (by kernel_rfl) (fun _ _ _ h => h) (Or.inl ⟨by kernel_rfl, ?yy7⟩) ?_
            case yy7 => intro w; go_simp; try with_reducible rfl
            refine wpAny_take (i := 8) (v := ?vv8) rfl (by kernel_rfl) (by kernel_rfl) (by kernel_rfl) (fun _ _ _ h => h) (Or.inl ⟨by kernel_rfl, ?yy8⟩) ?_
            case yy8 => intro w; go_simp; try with_reducible rfl
            refine wpAny_ready (rs := [10]) (by kernel_rfl) (by simp) ?_
            refine AllReady.cons rfl (fun K hK => ?_) AllReady.nil
            go_simp
            refine hK _ _ ?_
            clear hK K
            refine wpAny_ready (rs := [11]) (by kernel_rfl) (by simp) ?_
            refine AllReady.cons rfl (fun K hK => ?_) AllReady.nil
            go_simp
            go_wp2_with (go_at_call 41; refine (nodeIndex_any _ _ (n.nodes.take k) n.nodes[k].name _ HT.out ⟨_, _, _, rfl⟩).mono ?_; rintro e w2 ⟨rfl, b2⟩)
            refine wpAny_ready (rs := [12]) (by kernel_rfl) (by simp) ?_
            refine AllReady.cons rfl (fun K hK => ?_) AllReady.nil
            go_simp
            refine hK _ _ ?_
            clear hK K
            refine wpAny_ready (rs := [13]) (by kernel_rfl) (by simp) ?_
            refine AllReady.cons rfl (fun K hK => ?_) AllReady.nil
            go_simp
            refine hK _ _ ?_
            clear hK K
            refine wpAny_done (by kernel_rfl) ?_ _
            go_wp2_with fail
            go_ret
            exact ⟨ret_bool hr.out.symm, HW.out.trans ((HB1.out.trans (b2.mono HB1.out.size)).mono HW.out.size)⟩
          · go_simp
            refine hK _ _ ?_
            clear hK K
            refine wpAny_ready (rs := [5]) (by kernel_rfl) (by simp) ?_
            refine AllReady.cons rfl (fun K hK => ?_) AllReady.nil
            go_simp
            refine hK _ _ ?_
            clear hK K
            refine wpAny_take (i := 7) (v := ?vv7) rfl (by kernel_rfl) (by kernel_rfl) (by kernel_rfl) (fun _ _ _ h => h) (Or.inl ⟨by kernel_rfl, ?yy7⟩) ?_
            case yy7 => intro w; go_simp; try with_reducible rfl
            refine wpAny_take (i := 8) (v := ?vv8) rfl (by kernel_rfl) (by kernel_rfl) (by kernel_rfl) (fun _ _ _ h => h) (Or.inl ⟨by kernel_rfl, ?yy8⟩) ?_
            case yy8 => intro w; go_simp; try with_reducible rfl
            refine wpAny_ready (rs := [11]) (by kernel_rfl) (by simp) ?_
            refine AllReady.cons rfl (fun K hK => ?_) AllReady.nil
            go_simp
            go_wp2_with (go_at_call 41; refine (nodeIndex_any _ _ (n.nodes.take k) n.nodes[k].name _ HT.out ⟨_, _, _, rfl⟩).mono ?_; rintro e w2 ⟨rfl, b2⟩)
            refine wpAny_ready (rs := [12]) (by kernel_rfl) (by simp) ?_
            refine AllReady.cons rfl (fun K hK => ?_) AllReady.nil
            go_simp
            refine hK _ _ ?_
            clear hK K
            refine wpAny_ready (rs := [13]) (by kernel_rfl) (by simp) ?_
            refine AllReady.cons rfl (fun K hK => ?_) AllReady.nil
            go_simp
            refine hK _ _ ?_
            clear hK K
            refine wpAny_done (by kernel_rfl) ?_ _
            go_wp2_with fail
            go_ret
            exact ⟨ret_bool hr.out.symm, HW.out.trans ((HB1.out.trans (b2.mono HB1.out.size)).mono HW.out.size)⟩
    · obtain rfl : k = n.nodes.length := by omega
      have hND := hid (nodesB_mk HA.out)
      have hbr := hbx.below hbel
      obtain ⟨x0, x1⟩ := hbr.two
      have hsz2 := hbr.1
      have hpr := HP.out.below hbel
      have HB := hid (HW.out.trans (hbel.mono HW.out.size))
      clear hbel HA hbx hsz HP HN HW
      go_wp2_with fail
      obtain ⟨wo, rfl⟩ : ∃ wo, wo = wr := ⟨_, rfl⟩
      go_loopw [44] (fun i wr => IsPRel n.nodes.length n.pipes wo i wr) (fun i _ => n.pipes.length - (intOf i).toNat)
      case atStart => exact ⟨0, rfl, by omega, fun j hj h => by omega, Below.refl _ _⟩
      case round =>
        obtain ⟨k, rfl, hk, hall, hbel⟩ := hrel
        have HA := hid hall
        clear hall
        by_cases hlt : k < n.pipes.length
        · have hpr2 := hpr.below hbel
          obtain ⟨b, off, rfl, hb, hcc⟩ := hpr2.at' (by omega)
          obtain ⟨c0, c1, c2, c3, c4⟩ := cellsP (hcc k hlt)
          have hbr2 := hbr.below hbel
          obtain ⟨z0, z1⟩ := hbr2.two
          have hsz3 := hbr2.1
          have HB2 := hid hbel
          have HB3 := hid (HB.out.trans (hbel.mono HB.out.size))
          clear hcc hbel hpr2 hbr2
          cases h0 : inB n.pipes[k].fr 0 ((n.nodes.length : Int) - 1)
          · have hr : Hid (netB n = false) := by
              have h1 : pipeB n.nodes.length n.pipes[k] = false := by simp [pipeB, h0]
              simp [Hid, netB, pipesB_no k hlt h1]
            clear hND HA HB2
            go_wp2_with (first | (go_at_call 42; refine (isNodeOf_alloc _ _ n.nodes _ _ hl1 ⟨_, _, rfl⟩ ⟨_, _, _, rfl⟩).mono ?_; rintro e w1 ⟨rfl, rfl⟩) | (go_at_call 40; refine (within_any _ _ _ _).mono ?_; rintro e w1 ⟨rfl, rfl⟩))
            go_ret
            exact ⟨ret_bool hr.out.symm, by repeat (first | exact HB3.out | apply below_al)⟩
          cases h1 : inB n.pipes[k].to 0 ((n.nodes.length : Int) - 1)
          · have hr : Hid (netB n = false) := by
              have h1 : pipeB n.nodes.length n.pipes[k] = false := by simp [pipeB, h0, h1]
              simp [Hid, netB, pipesB_no k hlt h1]
            clear hND HA HB2
            go_wp2_with (first | (go_at_call 42; refine (isNodeOf_alloc _ _ n.nodes _ _ hl1 ⟨_, _, rfl⟩ ⟨_, _, _, rfl⟩).mono ?_; rintro e w1 ⟨rfl, rfl⟩) | (go_at_call 40; refine (within_any _ _ _ _).mono ?_; rintro e w1 ⟨rfl, rfl⟩))
            go_ret
            exact ⟨ret_bool hr.out.symm, by repeat (first | exact HB3.out | apply below_al)⟩
          cases h2 : (n.pipes[k].fr == n.pipes[k].to)
          rotate_left
          · have hr : Hid (netB n = false) := by
              have h1 : pipeB n.nodes.length n.pipes[k] = false := by simp [pipeB, h0, h1, h2]
              simp [Hid, netB, pipesB_no k hlt h1]
            clear hND HA HB2
            go_wp2_with (first | (go_at_call 42; refine (isNodeOf_alloc _ _ n.nodes _ _ hl1 ⟨_, _, rfl⟩ ⟨_, _, _, rfl⟩).mono ?_; rintro e w1 ⟨rfl, rfl⟩) | (go_at_call 40; refine (within_any _ _ _ _).mono ?_; rintro e w1 ⟨rfl, rfl⟩))
            go_ret
            exact ⟨ret_bool hr.out.symm, by repeat (first | exact HB3.out | apply below_al)⟩
          cases h3 : inB n.pipes[k].k 1 1000
          · have hr : Hid (netB n = false) := by
              have h1 : pipeB n.nodes.length n.pipes[k] = false := by simp [pipeB, h0, h1, h2, h3]
              simp [Hid, netB, pipesB_no k hlt h1]
            clear hND HA HB2
            go_wp2_with (first | (go_at_call 42; refine (isNodeOf_alloc _ _ n.nodes _ _ hl1 ⟨_, _, rfl⟩ ⟨_, _, _, rfl⟩).mono ?_; rintro e w1 ⟨rfl, rfl⟩) | (go_at_call 40; refine (within_any _ _ _ _).mono ?_; rintro e w1 ⟨rfl, rfl⟩))
            go_ret
            exact ⟨ret_bool hr.out.symm, by repeat (first | exact HB3.out | apply below_al)⟩
          cases h4 : inB n.pipes[k].vol 0 1000000
          · have hr : Hid (netB n = false) := by
              have h1 : pipeB n.nodes.length n.pipes[k] = false := by simp [pipeB, h0, h1, h2, h3, h4]
              simp [Hid, netB, pipesB_no k hlt h1]
            clear hND HA HB2
            go_wp2_with (first | (go_at_call 42; refine (isNodeOf_alloc _ _ n.nodes _ _ hl1 ⟨_, _, rfl⟩ ⟨_, _, _, rfl⟩).mono ?_; rintro e w1 ⟨rfl, rfl⟩) | (go_at_call 40; refine (within_any _ _ _ _).mono ?_; rintro e w1 ⟨rfl, rfl⟩))
            go_ret
            exact ⟨ret_bool hr.out.symm, by repeat (first | exact HB3.out | apply below_al)⟩
          cases h5 : inB n.pipes[k].lim 1 30000
          · have hr : Hid (netB n = false) := by
              have h1 : pipeB n.nodes.length n.pipes[k] = false := by simp [pipeB, h0, h1, h2, h3, h4, h5]
              simp [Hid, netB, pipesB_no k hlt h1]
            clear hND HA HB2
            go_wp2_with (first | (go_at_call 42; refine (isNodeOf_alloc _ _ n.nodes _ _ hl1 ⟨_, _, rfl⟩ ⟨_, _, _, rfl⟩).mono ?_; rintro e w1 ⟨rfl, rfl⟩) | (go_at_call 40; refine (within_any _ _ _ _).mono ?_; rintro e w1 ⟨rfl, rfl⟩))
            go_ret
            exact ⟨ret_bool hr.out.symm, by repeat (first | exact HB3.out | apply below_al)⟩
          have HA2 : Hid (∀ j (hj : j < n.pipes.length), j < k + 1 → pipeB n.nodes.length n.pipes[j] = true) := fun j hj hjk => by
            rcases Nat.lt_succ_iff_lt_or_eq.1 hjk with h | h
            · exact HA.out j hj h
            · subst h; simp [pipeB, h0, h1, h2, h3, h4, h5]
          clear hND HA
          go_wp2_with (first | (go_at_call 42; refine (isNodeOf_alloc _ _ n.nodes _ _ hl1 ⟨_, _, rfl⟩ ⟨_, _, _, rfl⟩).mono ?_; rintro e w1 ⟨rfl, rfl⟩) | (go_at_call 40; refine (within_any _ _ _ _).mono ?_; rintro e w1 ⟨rfl, rfl⟩))
          go_roundw
          case rel => exact ⟨k + 1, by go_num, by omega, HA2.out, by repeat (first | exact HB2.out | apply below_al)⟩
          case measure => simp [intOf]; omega
        · obtain rfl : k = n.pipes.length := by omega
          have hr : Hid (netB n = true) := by
            have := pipesB_mk (fun i hi => HA.out i hi hi)
            have h40 : decide (n.pipes.length ≤ 40) = true := decide_eq_true (by omega)
            simp [Hid, netB, hA, h40, hND.out, this]
          have HB3 := hid (HB.out.trans (hbel.mono HB.out.size))
          clear hbel HA
          go_wp2_with fail
          go_ret
          exact ⟨ret_bool hr.out.symm, HB3.out⟩

end Go.Proofs.YtdbgncinaacheaaGreatDoor
