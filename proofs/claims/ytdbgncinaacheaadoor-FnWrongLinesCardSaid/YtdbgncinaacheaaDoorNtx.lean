/- NetworkText of both sides. -/
import Derived.Test.YtdbgncinaacheaaDoorPL1
import Derived.Test.YtdbgncinaacheaaDoorPL2
import Derived.Test.YtdbgncinaacheaaDoorBld
import Derived.Test.YtdbgncinaacheaaDoorFwP
namespace Go.Proofs.YtdbgncinaacheaaDoor
open Go.RowKit
open Go.Lib hiding intOf

theorem lns_succ {α : Type} (f : α → Txt) (xs : List α) (k : Nat) (h : k < xs.length) : lns ((xs.take (k + 1)).map f) = lns ((xs.take k).map f) ++ (f xs[k] ++ [10]) := by
  rw [List.take_succ_eq_append_getElem h, List.map_append, lns_app]; simp [lns]
theorem tb_nl (l : Txt) : tb l ++ ⟨#[10]⟩ = tb (l ++ [10]) := by rw [← tb_app]; rfl
theorem netTx_eq (n : Net) : netTx n = lns (n.nodes.map ndL) ++ lns (n.pipes.map (ppL n.nodes)) := by rw [netTx, netL, lns_app]
theorem lnsN_le {n : Net} (h : netB n = true) (k : Nat) : (lns ((n.nodes.take k).map ndL)).length ≤ 1000 := by
  obtain ⟨_, b, c, hn, _⟩ := netB_t h
  have h1 := lns_le (L := (n.nodes.take k).map ndL) (m := 33) (fun l hl => by obtain ⟨x, hx, rfl⟩ := List.mem_map.1 hl; exact ndL_le (nodesB_mem hn x (List.mem_of_mem_take hx)))
  have h2 : ((n.nodes.take k).map ndL).length ≤ 24 := by simp; omega
  omega
theorem lnsP_le {n : Net} (h : netB n = true) (k : Nat) : (lns ((n.pipes.take k).map (ppL n.nodes))).length ≤ 2000 := by
  obtain ⟨_, b, c, _, _⟩ := netB_t h
  have h1 := lns_le (L := (n.pipes.take k).map (ppL n.nodes)) (m := 41) (fun l hl => by obtain ⟨p, hp, rfl⟩ := List.mem_map.1 hl; exact ppL_le h (List.mem_of_mem_take hp))
  have h2 : ((n.pipes.take k).map (ppL n.nodes)).length ≤ 40 := by simp; omega
  omega
def NtRel {α : Type} (f : α → Txt) (xs : List α) (P : Txt) (w1 : World) (i : Value) (wr : World) : Prop :=
  ∃ k : Nat, i = .int .i64 k ∧ k ≤ xs.length ∧ Bld w1.heap.size (P ++ lns ((xs.take k).map f)) wr ∧ Below w1.heap.size w1 wr

set_option maxHeartbeats 2000000 in
set_option maxRecDepth 100000 in
theorem impl_NetworkText_any (nv pv : Value) (n : Net) (w : World) (h : NetAt w nv pv n) (hcap : CapOk nv) (ht : Tab w) :
    Calls Tryd.prog 34 #[.agg #[nv, pv]] w fun e w' => e = .returned (.string (tb (txN n))) ∧ Below w.heap.size w w' := by
  obtain ⟨a0, k0, rfl⟩ := h.1.shape
  obtain ⟨a1, k1, rfl⟩ := h.2.2.shape
  have hWb := below_new w (.cells #[.slice a0 n.nodes.length k0, .slice a1 n.pipes.length k1] 25)
  have hbx := Box.new w #[.slice a0 n.nodes.length k0, .slice a1 n.pipes.length k1] 25
  have h := h.below hWb
  have HT := hid (ht.below hWb)
  clear ht
  go_enter Tryd.func34, Tryd.ntmps34
  go_wp2_with fail
  refine (impl_IsNetwork_any _ _ n _ h hcap).mono ?_
  cases hb : netB n
  · have hr : Hid (txN n = []) := by simp [Hid, txN, hb]
    rintro e w1 ⟨rfl, b1⟩
    have B := hid (hWb.trans (b1.mono hWb.size))
    go_wp2_with fail
    go_ret
    rw [hr.out]
    exact ⟨rfl, B.out⟩
  have hr : Hid (txN n = lns (n.nodes.map ndL) ++ lns (n.pipes.map (ppL n.nodes))) := by rw [Hid, txN, if_pos hb, netTx_eq]
  rintro e w1 ⟨rfl, b1⟩
  have B := hid (hWb.trans (b1.mono hWb.size))
  have HN := hid (h.below b1)
  have HT1 := hid (HT.out.below b1)
  have hb1 := hid (hbx.below b1)
  have hz := (hbx.below b1).1
  obtain ⟨c0, c1⟩ := hb1.out.two
  have hl24 := (netB_t hb).2.1
  have hl40 := (netB_t hb).2.2.1
  have HNB := hid (netB_t hb).2.2.2.1
  have HB := hid hb
  clear hWb hbx h b1 hb HT
  go_wp2_with fail
  go_loopw [13] (fun i wr => NtRel ndL n.nodes [] w1 i wr) (fun i _ => n.nodes.length - (intOf i).toNat)
  case atStart => exact ⟨0, rfl, by omega, bld_new w1, below_new w1 _⟩
  case round =>
    clear c0 c1
    obtain ⟨k, rfl, hk, hbd, hbel⟩ := hrel
    have HBD := hid hbd
    have HBL := hid hbel
    obtain ⟨c0, c1⟩ := (hb1.out.below hbel).two
    have hzr := (hb1.out.below hbel).1
    clear hbd hbel
    by_cases hlt : k < n.nodes.length
    · obtain ⟨b, off, rfl, hbl, hcc⟩ := (HN.out.below HBL.out).1.at' (by omega)
      obtain ⟨d0, d1, d2⟩ := cellsN (hcc k hlt)
      have hnb := nodesB_mem HNB.out n.nodes[k] (List.getElem_mem hlt)
      have hs := (nameB_sz (nodeB_parts hnb).1).2
      have hE : Hid (ndS n.nodes[k] = tb (ndL n.nodes[k])) := by simp [Hid, ndS, hnb]
      have hle := ndL_le hnb
      have HS := hid (lns_succ ndL n.nodes k hlt)
      have hz33 : ¬ (9223372036854775807 < (tb (ndL n.nodes[k])).size + 1) := by rw [tb_size]; omega
      have hlk := lnsN_le HB.out k
      have hlen : Hid (([] ++ lns ((n.nodes.take k).map ndL)).length + (ndL n.nodes[k] ++ [10]).length ≤ 140737488355328) := by simp [Hid] at hlk ⊢; omega
      clear hcc hnb hlk
      go_wp2_with fail
      refine (impl_NodeLine_any n.nodes[k] _ (by omega) (HT1.out.below (HBL.out.alloc HBL.out.size _))).mono ?_
      rw [hE.out]
      rintro e w2 ⟨rfl, b2⟩
      have b2 := (below_new wr _).trans (b2.mono (by simp))
      have HBD2 := hid (HBD.out.below b2)
      have HBL2 := hid (HBL.out.trans (b2.mono HBL.out.size))
      clear b2 d0 d1 d2 c0 c1
      go_wp2_with fail
      rw [tb_nl]
      refine (writeString_any w1.heap.size _ (ndL n.nodes[k] ++ [10]) _ HBD2.out hlen.out).mono ?_
      rintro e w3 ⟨rfl, hbd3, b3⟩
      have HBD3 := hid hbd3
      have HBL3 := hid (HBL2.out.trans b3)
      clear hbd3 b3
      go_wp2_with fail
      go_roundw
      case rel => exact ⟨k + 1, by go_num, by omega, by rw [HS.out, ← List.append_assoc]; exact HBD3.out, HBL3.out⟩
      case measure => simp [intOf]; omega
    · obtain rfl : k = n.nodes.length := by omega
      have HBD0 : Hid (Bld w1.heap.size (lns (n.nodes.map ndL)) wr) := by have := HBD.out; rw [List.take_length, List.nil_append] at this; exact this
      go_wp2_with fail
      go_loopw [25] (fun i wr => NtRel (ppL n.nodes) n.pipes (lns (n.nodes.map ndL)) w1 i wr) (fun i _ => n.pipes.length - (intOf i).toNat)
      case atStart => exact ⟨0, rfl, by omega, by simpa [lns] using HBD0.out, HBL.out⟩
      case round =>
        clear c0 c1 HBD HBL HBD0 hzr
        obtain ⟨j, rfl, hj, hbd, hbel⟩ := hrel
        have HBD := hid hbd
        have HBL := hid hbel
        obtain ⟨c0, c1⟩ := (hb1.out.below hbel).two
        have hzr := (hb1.out.below hbel).1
        clear hbd hbel
        by_cases hlt : j < n.pipes.length
        · have hle := ppL_le HB.out (List.getElem_mem hlt)
          have HS := hid (lns_succ (ppL n.nodes) n.pipes j hlt)
          have hz33 : ¬ (9223372036854775807 < (tb (ppL n.nodes n.pipes[j])).size + 1) := by rw [tb_size]; omega
          have hlk := lnsN_le HB.out n.nodes.length
          rw [List.take_length] at hlk
          have hlp := lnsP_le HB.out j
          have hlen : Hid ((lns (n.nodes.map ndL) ++ lns ((n.pipes.take j).map (ppL n.nodes))).length + (ppL n.nodes n.pipes[j] ++ [10]).length ≤ 140737488355328) := by simp only [Hid, List.length_append, List.length_cons, List.length_nil]; omega
          clear hlk hlp
          go_wp2_with fail
          refine (pipeLine_any _ _ n j _ (HN.out.below HBL.out) HB.out hlt (HT1.out.below HBL.out)).mono ?_
          rintro e w2 ⟨rfl, b2⟩
          have HBD2 := hid (HBD.out.below b2)
          have HBL2 := hid (HBL.out.trans (b2.mono HBL.out.size))
          clear b2 c0 c1
          go_wp2_with fail
          rw [tb_nl]
          refine (writeString_any w1.heap.size _ (ppL n.nodes n.pipes[j] ++ [10]) _ HBD2.out hlen.out).mono ?_
          rintro e w3 ⟨rfl, hbd3, b3⟩
          have HBD3 := hid hbd3
          have HBL3 := hid (HBL2.out.trans b3)
          clear hbd3 b3
          go_wp2_with fail
          go_roundw
          case rel => exact ⟨j + 1, by go_num, by omega, by rw [HS.out, ← List.append_assoc]; exact HBD3.out, HBL3.out⟩
          case measure => simp [intOf]; omega
        · obtain rfl : j = n.pipes.length := by omega
          have HE : Hid (lns (n.nodes.map ndL) ++ lns ((n.pipes.take n.pipes.length).map (ppL n.nodes)) = txN n) := by rw [Hid, hr.out, List.take_length]
          rw [HE.out] at HBD
          go_wp2_with fail
          refine (builderString_any w1.heap.size _ _ HBD.out).mono ?_
          rintro e w3 ⟨rfl, b3⟩
          have HBL3 := hid (HBL.out.trans b3)
          go_wp2_with fail
          go_ret
          exact ⟨rfl, B.out.trans (HBL3.out.mono B.out.size)⟩

def StRel {α : Type} (f : α → Txt) (xs : List α) (P : Txt) (w1 : World) (o i : Value) (wr : World) : Prop :=
  ∃ k : Nat, i = .int .i64 k ∧ k ≤ xs.length ∧ o = .string (tb (P ++ lns ((xs.take k).map f))) ∧ Below w1.heap.size w1 wr

set_option maxHeartbeats 2000000 in
set_option maxRecDepth 100000 in
theorem spec_NetworkText_any (nv pv : Value) (n : Net) (w : World) (h : NetAt w nv pv n) :
    Calls Tryd.prog 33 #[.agg #[nv, pv]] w fun e w' => e = .returned (.string (tb (txN n))) ∧ Below w.heap.size w w' := by
  obtain ⟨a0, k0, rfl⟩ := h.1.shape
  obtain ⟨a1, k1, rfl⟩ := h.2.2.shape
  have hWb := below_new w (.cells #[.slice a0 n.nodes.length k0, .slice a1 n.pipes.length k1] 25)
  have hbx := Box.new w #[.slice a0 n.nodes.length k0, .slice a1 n.pipes.length k1] 25
  have h := h.below hWb
  go_enter Tryd.func33, Tryd.ntmps33
  go_wp2_with fail
  refine (spec_IsNetwork_any _ _ n _ h).mono ?_
  cases hb : netB n
  · have hr : Hid (txN n = []) := by simp [Hid, txN, hb]
    rintro e w1 ⟨rfl, b1⟩
    have B := hid (hWb.trans (b1.mono hWb.size))
    go_wp2_with fail
    go_ret
    rw [hr.out]
    exact ⟨rfl, B.out⟩
  have hr : Hid (txN n = lns (n.nodes.map ndL) ++ lns (n.pipes.map (ppL n.nodes))) := by rw [Hid, txN, if_pos hb, netTx_eq]
  rintro e w1 ⟨rfl, b1⟩
  have B := hid (hWb.trans (b1.mono hWb.size))
  have HN := hid (h.below b1)
  have hb1 := hid (hbx.below b1)
  have hz := (hbx.below b1).1
  obtain ⟨c0, c1⟩ := hb1.out.two
  have hl24 := (netB_t hb).2.1
  have hl40 := (netB_t hb).2.2.1
  have HNB := hid (netB_t hb).2.2.2.1
  have HB := hid hb
  clear hWb hbx h b1 hb
  go_wp2_with fail
  go_loopw [3, 4] (fun o i wr => StRel ndL n.nodes [] w1 o i wr) (fun _ i _ => n.nodes.length - (intOf i).toNat)
  case atStart => exact ⟨0, rfl, by omega, rfl, Below.refl _ _⟩
  case round =>
    clear c0 c1
    obtain ⟨k, rfl, hk, rfl, hbel⟩ := hrel
    have HBL := hid hbel
    obtain ⟨c0, c1⟩ := (hb1.out.below hbel).two
    have hzr := (hb1.out.below hbel).1
    clear hbel
    by_cases hlt : k < n.nodes.length
    · obtain ⟨b, off, rfl, hbl, hcc⟩ := (HN.out.below HBL.out).1.at' (by omega)
      obtain ⟨d0, d1, d2⟩ := cellsN (hcc k hlt)
      have hnb := nodesB_mem HNB.out n.nodes[k] (List.getElem_mem hlt)
      have hs := (nameB_sz (nodeB_parts hnb).1).2
      have hE : Hid (ndS n.nodes[k] = tb (ndL n.nodes[k])) := by simp [Hid, ndS, hnb]
      have hle := ndL_le hnb
      have HS := hid (lns_succ ndL n.nodes k hlt)
      have hlk := lnsN_le HB.out k
      obtain ⟨A, hA⟩ : ∃ A, [] ++ lns ((n.nodes.take k).map ndL) = A := ⟨_, rfl⟩
      have hAl : A.length ≤ 1000 := by rw [← hA]; simpa using hlk
      rw [hA]
      have z1 : ¬ (9223372036854775807 < (tb A).size + (tb (ndL n.nodes[k])).size) := by rw [tb_size, tb_size]; omega
      have z2 : ¬ (9223372036854775807 < (tb A).size + (tb (ndL n.nodes[k])).size + 1) := by rw [tb_size, tb_size]; omega
      have HA := hid hA
      clear hcc hnb hlk hA
      go_wp2_with fail
      refine (spec_NodeLine_any n.nodes[k] _ (by omega)).mono ?_
      rw [hE.out]
      rintro e w2 ⟨rfl, b2⟩
      have HBL2 := hid (HBL.out.trans (b2.mono HBL.out.size))
      clear b2 d0 d1 d2 c0 c1
      go_wp2_with fail
      go_roundw
      case rel =>
        refine ⟨k + 1, by go_num, by omega, ?_, HBL2.out⟩
        rw [HS.out, ← List.append_assoc, HA.out, ByteArray.append_assoc, tb_nl, tb_app]
      case measure => simp [intOf]; omega
    · obtain rfl : k = n.nodes.length := by omega
      rw [List.take_length, List.nil_append]
      go_wp2_with fail
      go_loopw [3, 5] (fun o i wr => StRel (ppL n.nodes) n.pipes (lns (n.nodes.map ndL)) w1 o i wr) (fun _ i _ => n.pipes.length - (intOf i).toNat)
      case atStart => exact ⟨0, rfl, by omega, by simp [lns], HBL.out⟩
      case round =>
        clear c0 c1 HBL hzr
        obtain ⟨j, rfl, hj, rfl, hbel⟩ := hrel
        have HBL := hid hbel
        obtain ⟨c0, c1⟩ := (hb1.out.below hbel).two
        have hzr := (hb1.out.below hbel).1
        clear hbel
        by_cases hlt : j < n.pipes.length
        · obtain ⟨b, off, rfl, hbl, hcc⟩ := (HN.out.below HBL.out).2.2.at' (by omega)
          obtain ⟨d0, d1, d2, d3, d4⟩ := cellsP (hcc j hlt)
          have hle := ppL_le HB.out (List.getElem_mem hlt)
          have HS := hid (lns_succ (ppL n.nodes) n.pipes j hlt)
          have hlk := lnsN_le HB.out n.nodes.length
          rw [List.take_length] at hlk
          have hlp := lnsP_le HB.out j
          obtain ⟨A, hA⟩ : ∃ A, lns (n.nodes.map ndL) ++ lns ((n.pipes.take j).map (ppL n.nodes)) = A := ⟨_, rfl⟩
          have hAl : A.length ≤ 3000 := by rw [← hA, List.length_append]; omega
          rw [hA]
          have z1 : ¬ (9223372036854775807 < (tb A).size + (tb (ppL n.nodes n.pipes[j])).size) := by rw [tb_size, tb_size]; omega
          have z2 : ¬ (9223372036854775807 < (tb A).size + (tb (ppL n.nodes n.pipes[j])).size + 1) := by rw [tb_size, tb_size]; omega
          have C : ∀ W, Below wr.heap.size wr W → _ := fun W hW => l03Pipe_any _ _ n n.pipes[j] W ((HN.out.below HBL.out).below hW) HB.out (List.getElem_mem hlt)
          have HC := hid C
          have HA := hid hA
          clear hcc hlk hlp hA C
          go_wp2_with fail
          go_region_with (go_at_call 72; refine (HC.out _ (Below.refl _ _).drew).mono ?_; rintro e w2 ⟨rfl, b2⟩; have HBL2 := hid (HBL.out.trans ((below_undrew b2).mono HBL.out.size)); clear b2)
          all_goals
            go_wp2_with fail
            go_roundw
            case rel =>
              refine ⟨j + 1, by go_num, by omega, ?_, HBL2.out⟩
              rw [HS.out, ← List.append_assoc, HA.out, ByteArray.append_assoc, tb_nl, tb_app]
            case measure => simp [intOf]; omega
        · obtain rfl : j = n.pipes.length := by omega
          have HE : Hid (lns (n.nodes.map ndL) ++ lns ((n.pipes.take n.pipes.length).map (ppL n.nodes)) = txN n) := by rw [Hid, hr.out, List.take_length]
          rw [HE.out]
          go_wp2_with fail
          go_ret
          exact ⟨rfl, B.out.trans (HBL.out.mono B.out.size)⟩

end Go.Proofs.YtdbgncinaacheaaDoor
