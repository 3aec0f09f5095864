/- componentsOf, l04Components (printed by wip/gencomp.py). -/
import Derived.Test.YtdapdaadglaoiaaPathA
namespace Go.Proofs.Ytdapdaadglaoiaa
open Go.RowKit

def paint (i : Int) (L C : List Int) : List Int := L.foldl (fun C x => C.set x.toNat i) C
def compStep (n : Net) (i : Nat) (C : List Int) : List Int := if C.getD i 0 < 0 then paint i (srch n i).order C else C
def compIter (n : Net) : Nat → List Int
  | 0 => List.replicate n.nodes.length (-1)
  | k + 1 => compStep n k (compIter n k)
/-- For each node the least node of its component. -/
def comps (n : Net) : List Int := compIter n n.nodes.length
theorem paint_len (i : Int) (L C : List Int) : (paint i L C).length = C.length := by
  induction L generalizing C with
  | nil => rfl
  | cons a L ih => show (paint i L (C.set a.toNat i)).length = _; rw [ih]; simp
theorem paint_succ {L : List Int} (i : Int) (C : List Int) {j : Nat} (h : j < L.length) : paint i (L.take (j + 1)) C = (paint i (L.take j) C).set (L[j]).toNat i := by
  unfold paint; rw [List.take_succ_eq_append_getElem h, List.foldl_append]; rfl
theorem compIter_len (n : Net) (k : Nat) : (compIter n k).length = n.nodes.length := by
  induction k with
  | zero => simp [compIter]
  | succ k ih =>
    rw [compIter, compStep]
    split
    · rw [paint_len, ih]
    · exact ih
def C1Rel (N : Nat) (l : List Value) (w : World) (i : Value) (wr : World) : Prop :=
  ∃ k : Nat, i = .int .i64 k ∧ k ≤ N ∧ Box wr w.heap.size l ∧ IntBlk 2 wr (w.heap.size + 1) (fillM N k) ∧ Below w.heap.size w wr
def C2Rel (n : Net) (l : List Value) (w : World) (i : Value) (wr : World) : Prop :=
  ∃ k : Nat, i = .int .i64 k ∧ k ≤ n.nodes.length ∧ Box wr w.heap.size l ∧ IntBlk 2 wr (w.heap.size + 1) (compIter n k) ∧ Below w.heap.size w wr
def C3Rel (L C : List Int) (k : Nat) (l : List Value) (w : World) (lo hi : Nat) (r i : Value) (wr : World) : Prop :=
  ∃ j : Nat, i = .int .i64 j ∧ j ≤ L.length ∧ Box wr w.heap.size l ∧ IntBlk 2 wr (w.heap.size + 1) (paint k (L.take j) C) ∧ Slc (fun b => lo ≤ b ∧ b < hi) wr r L ∧ Below w.heap.size w wr

set_option maxHeartbeats 1000000 in
set_option maxRecDepth 100000 in
theorem componentsOf_any (nv pv : Value) (n : Net) (w : World) (h : NetAt w nv pv n) (hb : netB n = true) :
    Calls Try.prog 124 #[.agg #[nv, pv]] w fun e w' => ∃ r, e = .returned r ∧ Slc (fun b => w.heap.size ≤ b ∧ b < w'.heap.size) w' r (comps n) ∧ Below w.heap.size w w' := by
  obtain ⟨a0, k0, rfl⟩ := h.1.shape
  obtain ⟨a1, k1, rfl⟩ := h.2.2.shape
  have hnl := netB_t hb
  have HP := hid h
  have hWb := below_new w (.cells #[.slice a0 n.nodes.length k0, .slice a1 n.pipes.length k1] 27)
  have hbx := Box.new w #[.slice a0 n.nodes.length k0, .slice a1 n.pipes.length k1] 27
  have hmk := run_make_row' (P := Try.prog) 33 2 (.int .i64 0) 8 Try.underlying33 info64 rfl .i64 .i64 n.nodes.length (by omega) (by omega)
  have HW := hid hWb
  have HX := hid hbx
  obtain ⟨c0, c1⟩ := hbx.two
  clear h hWb hbx
  go_enter Try.func124, Try.ntmps124
  go_wp2_with fail
  clear hmk c0 c1
  go_loopw [14] (fun i wr => C1Rel n.nodes.length [.slice a0 n.nodes.length k0, .slice a1 n.pipes.length k1] w i wr) (fun i _ => n.nodes.length - (intOf i).toNat)
  case atStart =>
    refine ⟨0, rfl, by omega, HX.out.below (below_new _ _), ?_, HW.out.alloc HW.out.size _⟩
    have := IntBlk.made 2 (w.alloc (.cells #[.slice a0 n.nodes.length k0, .slice a1 n.pipes.length k1] 27)) n.nodes.length
    rw [World.size_alloc] at this
    simpa [fillM] using this
  case round =>
    obtain ⟨k, rfl, hk, bx, he, hbel⟩ := hrel
    clear HX HW
    by_cases hlt : k < n.nodes.length
    · have f1 := he.frozen k
      have l1 := fillM_len n.nodes.length k (by omega)
      obtain ⟨o1, d1⟩ : ∃ o1, wr.cell? ⟨w.heap.size + 1, k, none⟩ = some o1 := ⟨_, he.cell k (by omega)⟩
      have HE := hid (he.set k (-1))
      have HX := hid bx
      have HB := hid (hbel.setCell (p := ⟨w.heap.size + 1, k, none⟩) (by simp only; omega) (.int .i64 (-1)))
      clear he bx hbel l1
      go_wp2_with fail
      go_roundw
      case rel =>
        have kk : Kept (fun b => b = w.heap.size + 1) wr (wr.setCell ⟨w.heap.size + 1, k, none⟩ (.int .i64 (-1))) := (Kept.refl (fun b => b = w.heap.size + 1) wr).setCell (p := ⟨w.heap.size + 1, k, none⟩) rfl _
        refine ⟨k + 1, by go_num, by omega, HX.out.kept kk (by omega), ?_, HB.out⟩
        rw [← fillM_set _ _ hlt]; exact HE.out
      case measure => simp [intOf]; omega
    · obtain rfl : k = n.nodes.length := by omega
      have hfm : fillM n.nodes.length n.nodes.length = compIter n 0 := by simp [fillM, compIter]
      rw [hfm] at he
      have HE := hid he
      have HX := hid bx
      have HB := hid hbel
      clear he bx hbel hfm
      go_wp2_with fail
      go_loopw [23] (fun i wr => C2Rel n [.slice a0 n.nodes.length k0, .slice a1 n.pipes.length k1] w i wr) (fun i _ => n.nodes.length - (intOf i).toNat)
      case atStart => exact ⟨0, rfl, by omega, HX.out, HE.out, HB.out⟩
      case round =>
        clear HE HX HB
        obtain ⟨k, rfl, hk, bx, he, hbel⟩ := hrel
        have hlen := compIter_len n k
        have hbe := he.lt
        obtain ⟨C, hC⟩ : ∃ C, C = compIter n k := ⟨_, rfl⟩
        have HC := hid hC
        rw [← hC] at he hlen
        clear hC
        by_cases hlt : k < n.nodes.length
        · have hkl : k < C.length := by omega
          have hgd : C.getD k 0 = C[k] := by simp [List.getD, hkl]
          have d1 := he.cell k hkl
          obtain ⟨c0, c1⟩ := bx.two
          by_cases hneg : C[k] < 0
          · have hstep : Hid (compIter n (k + 1) = paint k (srch n k).order C) := by
              show compIter n (k + 1) = _
              rw [compIter, compStep, ← HC.out, hgd, if_pos hneg]
            have g := good_srch hb (v := (k : Int)) (by omega) (by omega)
            obtain ⟨s, hs⟩ : ∃ s, s = srch n (k : Int) := ⟨_, rfl⟩
            have hsf : ∀ W, NetAt W (.slice a0 n.nodes.length k0) (.slice a1 n.pipes.length k1) n → Calls Try.prog 143 #[.agg #[.slice a0 n.nodes.length k0, .slice a1 n.pipes.length k1], .int .i64 k] W (SrOut W (srch n k)) := fun W hW => searchFrom_any _ _ n k W hW hb (by omega) (by omega)
            rw [← hs] at hstep g hsf
            have HSF := hid hsf
            have HE := hid he
            have HX := hid bx
            have HB := hid hbel
            clear he bx hbel hs hsf hgd
            skip
            go_wp2_with fail
            refine (HSF.out _ (HP.out.below HB.out)).mono ?_
            rintro e w1 ⟨ov, dv, ev, rfl, so, sd, se, b1⟩
            have so' := hid so
            have HE := hid (HE.out.below b1)
            have HX := hid (HX.out.below b1)
            have HB := hid (HB.out.trans (b1.mono HB.out.size))
            have z1 := b1.size
            obtain ⟨_, oa, oc, rfl, _⟩ := so
            obtain ⟨_, da, dc, rfl, _⟩ := sd
            obtain ⟨_, ea, ec, rfl, _⟩ := se
            have hfd := field_search_order oa s.order.length oc da s.dist.length dc ea s.ent.length ec w1
            clear b1 HSF c0 c1 d1
            go_wp2_with fail
            go_loopw [36] (fun i wx => C3Rel s.order C k [.slice a0 n.nodes.length k0, .slice a1 n.pipes.length k1] w wr.heap.size w1.heap.size (.slice oa s.order.length oc) i wx) (fun i _ => s.order.length - (intOf i).toNat)
            case atStart => exact ⟨0, rfl, by omega, HX.out, HE.out, so'.out, HB.out⟩
            case round =>
              clear HX HE so' HB
              obtain ⟨j, rfl, hj, bx, he, so, hbel⟩ := hrel
              have hle := g.le_nodes
              by_cases hjl : j < s.order.length
              · have hrg := g.rng _ (List.getElem_mem hjl)
                obtain ⟨m, hm⟩ : ∃ m : Nat, s.order[j] = m := ⟨(s.order[j]).toNat, by omega⟩
                have hsuc := paint_succ k C hjl
                rw [hm, Int.toNat_natCast] at hsuc
                rw [hm] at hrg
                have hpl := paint_len k (s.order.take j) C
                obtain ⟨ob, oo, rfl, ho1, ho2, _, hoc⟩ := so.at (by omega)
                have q2 := hoc j hjl
                rw [hm] at q2
                have f1 := he.frozen m
                obtain ⟨o4, q4⟩ : ∃ o4, wr.cell? ⟨w.heap.size + 1, m, none⟩ = some o4 := ⟨_, he.cell m (by omega)⟩
                have HE := hid (he.set m k)
                have HS := hid hsuc
                have HX := hid bx
                have SO := hid so
                have HB := hid hbel
                clear he hsuc bx so hbel hpl hm hoc hlen
                go_wp2_with fail
                go_roundw
                case rel =>
                  have kk : Kept (fun b => b = w.heap.size + 1) wr (wr.setCell ⟨w.heap.size + 1, m, none⟩ (.int .i64 k)) := (Kept.refl (fun b => b = w.heap.size + 1) wr).setCell (p := ⟨w.heap.size + 1, m, none⟩) rfl _
                  refine ⟨j + 1, by go_num, by omega, HX.out.kept kk (by omega), ?_, SO.out.kept kk (fun b _ h h' => by omega), HB.out.trans (kk.below HB.out.size (fun b h => by omega))⟩
                  rw [HS.out]; exact HE.out
                case measure => simp [intOf]; omega
              · obtain rfl : j = s.order.length := by omega
                rw [List.take_length, ← hstep.out] at he
                have HE := hid he
                have HX := hid bx
                have HB := hid hbel
                clear he bx hbel so
                go_wp2_with fail
                go_roundw
                case rel => exact ⟨k + 1, by go_num, by omega, HX.out, HE.out, HB.out⟩
                case measure => simp [intOf]; omega
          · have hstep : Hid (compIter n (k + 1) = C) := by
              show compIter n (k + 1) = _
              rw [compIter, compStep, ← HC.out, hgd, if_neg hneg]
            have HE := hid he
            have HX := hid bx
            have HB := hid hbel
            clear he bx hbel hgd
            skip
            go_wp2_with fail
            go_roundw
            case rel => exact ⟨k + 1, by go_num, by omega, HX.out, by rw [hstep.out]; exact HE.out, HB.out⟩
            case measure => simp [intOf]; omega
        · obtain rfl : k = n.nodes.length := by omega
          have HE : Hid (IntBlk 2 wr (w.heap.size + 1) (comps n)) := by rw [HC.out] at he; exact he
          have HB := hid hbel
          have hll := compIter_len n n.nodes.length
          clear he bx hbel
          go_wp2_with fail
          go_ret
          refine ⟨_, rfl, ?_, HB.out⟩
          have := HE.out.slc (P := fun b => w.heap.size ≤ b ∧ b < wr.heap.size) (cap := n.nodes.length) ⟨by omega, hbe⟩ (by unfold comps; omega)
          rw [show (comps n).length = n.nodes.length from hll] at this
          exact this

set_option maxHeartbeats 1000000 in
set_option maxRecDepth 100000 in
theorem l04Components_any (nv pv : Value) (n : Net) (w : World) (h : NetAt w nv pv n) (hb : netB n = true) :
    Calls Try.prog 166 #[.agg #[nv, pv]] w fun e w' => ∃ r, e = .returned r ∧ Slc (fun b => w.heap.size ≤ b ∧ b < w'.heap.size) w' r (comps n) ∧ Below w.heap.size w w' := by
  obtain ⟨a0, k0, rfl⟩ := h.1.shape
  obtain ⟨a1, k1, rfl⟩ := h.2.2.shape
  have hnl := netB_t hb
  have HP := hid h
  have hWb := below_new w (.cells #[.slice a0 n.nodes.length k0, .slice a1 n.pipes.length k1] 27)
  have hbx := Box.new w #[.slice a0 n.nodes.length k0, .slice a1 n.pipes.length k1] 27
  have hmk := run_make_row' (P := Try.prog) 33 2 (.int .i64 0) 8 Try.underlying33 info64 rfl .i64 .i64 n.nodes.length (by omega) (by omega)
  have HW := hid hWb
  have HX := hid hbx
  obtain ⟨c0, c1⟩ := hbx.two
  clear h hWb hbx
  go_enter Try.func166, Try.ntmps166
  go_wp2_with fail
  clear hmk c0 c1
  go_loopw [4] (fun i wr => C1Rel n.nodes.length [.slice a0 n.nodes.length k0, .slice a1 n.pipes.length k1] w i wr) (fun i _ => n.nodes.length - (intOf i).toNat)
  case atStart =>
    refine ⟨0, rfl, by omega, HX.out.below (below_new _ _), ?_, HW.out.alloc HW.out.size _⟩
    have := IntBlk.made 2 (w.alloc (.cells #[.slice a0 n.nodes.length k0, .slice a1 n.pipes.length k1] 27)) n.nodes.length
    rw [World.size_alloc] at this
    simpa [fillM] using this
  case round =>
    obtain ⟨k, rfl, hk, bx, he, hbel⟩ := hrel
    clear HX HW
    by_cases hlt : k < n.nodes.length
    · have f1 := he.frozen k
      have l1 := fillM_len n.nodes.length k (by omega)
      obtain ⟨o1, d1⟩ : ∃ o1, wr.cell? ⟨w.heap.size + 1, k, none⟩ = some o1 := ⟨_, he.cell k (by omega)⟩
      have HE := hid (he.set k (-1))
      have HX := hid bx
      have HB := hid (hbel.setCell (p := ⟨w.heap.size + 1, k, none⟩) (by simp only; omega) (.int .i64 (-1)))
      clear he bx hbel l1
      go_wp2_with fail
      go_roundw
      case rel =>
        have kk : Kept (fun b => b = w.heap.size + 1) wr (wr.setCell ⟨w.heap.size + 1, k, none⟩ (.int .i64 (-1))) := (Kept.refl (fun b => b = w.heap.size + 1) wr).setCell (p := ⟨w.heap.size + 1, k, none⟩) rfl _
        refine ⟨k + 1, by go_num, by omega, HX.out.kept kk (by omega), ?_, HB.out⟩
        rw [← fillM_set _ _ hlt]; exact HE.out
      case measure => simp [intOf]; omega
    · obtain rfl : k = n.nodes.length := by omega
      have hfm : fillM n.nodes.length n.nodes.length = compIter n 0 := by simp [fillM, compIter]
      rw [hfm] at he
      have HE := hid he
      have HX := hid bx
      have HB := hid hbel
      clear he bx hbel hfm
      go_wp2_with fail
      go_loopw [5] (fun i wr => C2Rel n [.slice a0 n.nodes.length k0, .slice a1 n.pipes.length k1] w i wr) (fun i _ => n.nodes.length - (intOf i).toNat)
      case atStart => exact ⟨0, rfl, by omega, HX.out, HE.out, HB.out⟩
      case round =>
        clear HE HX HB
        obtain ⟨k, rfl, hk, bx, he, hbel⟩ := hrel
        have hlen := compIter_len n k
        have hbe := he.lt
        obtain ⟨C, hC⟩ : ∃ C, C = compIter n k := ⟨_, rfl⟩
        have HC := hid hC
        rw [← hC] at he hlen
        clear hC
        by_cases hlt : k < n.nodes.length
        · have hkl : k < C.length := by omega
          have hgd : C.getD k 0 = C[k] := by simp [List.getD, hkl]
          have d1 := he.cell k hkl
          obtain ⟨c0, c1⟩ := bx.two
          by_cases hneg : C[k] < 0
          · have hstep : Hid (compIter n (k + 1) = paint k (srch n k).order C) := by
              show compIter n (k + 1) = _
              rw [compIter, compStep, ← HC.out, hgd, if_pos hneg]
            have g := good_srch hb (v := (k : Int)) (by omega) (by omega)
            obtain ⟨s, hs⟩ : ∃ s, s = srch n (k : Int) := ⟨_, rfl⟩
            have hsf : ∀ W, NetAt W (.slice a0 n.nodes.length k0) (.slice a1 n.pipes.length k1) n → Calls Try.prog 148 #[.agg #[.slice a0 n.nodes.length k0, .slice a1 n.pipes.length k1], .int .i64 k] W (EoOut W (srch n k)) := fun W hW => l04Search_any _ _ n k W hW hb (by omega) (by omega)
            rw [← hs] at hstep g hsf
            have HSF := hid hsf
            have HE := hid he
            have HX := hid bx
            have HB := hid hbel
            clear he bx hbel hs hsf hgd
            skip
            go_wp2_with fail
            refine (HSF.out _ (HP.out.below HB.out)).mono ?_
            rintro e w1 ⟨ev, ov, rfl, se, so, b1⟩
            have so' := hid so
            have HE := hid (HE.out.below b1)
            have HX := hid (HX.out.below b1)
            have HB := hid (HB.out.trans (b1.mono HB.out.size))
            have z1 := b1.size
            obtain ⟨_, oa, oc, rfl, _⟩ := so
            obtain ⟨_, ea, ec, rfl, _⟩ := se
            clear b1 HSF c0 c1 d1
            go_wp2_with fail
            go_loopw [8] (fun i wx => C3Rel s.order C k [.slice a0 n.nodes.length k0, .slice a1 n.pipes.length k1] w wr.heap.size w1.heap.size (.slice oa s.order.length oc) i wx) (fun i _ => s.order.length - (intOf i).toNat)
            case atStart => exact ⟨0, rfl, by omega, HX.out, HE.out, so'.out, HB.out⟩
            case round =>
              clear HX HE so' HB
              obtain ⟨j, rfl, hj, bx, he, so, hbel⟩ := hrel
              have hle := g.le_nodes
              by_cases hjl : j < s.order.length
              · have hrg := g.rng _ (List.getElem_mem hjl)
                obtain ⟨m, hm⟩ : ∃ m : Nat, s.order[j] = m := ⟨(s.order[j]).toNat, by omega⟩
                have hsuc := paint_succ k C hjl
                rw [hm, Int.toNat_natCast] at hsuc
                rw [hm] at hrg
                have hpl := paint_len k (s.order.take j) C
                obtain ⟨ob, oo, rfl, ho1, ho2, _, hoc⟩ := so.at (by omega)
                have q2 := hoc j hjl
                rw [hm] at q2
                have f1 := he.frozen m
                obtain ⟨o4, q4⟩ : ∃ o4, wr.cell? ⟨w.heap.size + 1, m, none⟩ = some o4 := ⟨_, he.cell m (by omega)⟩
                have HE := hid (he.set m k)
                have HS := hid hsuc
                have HX := hid bx
                have SO := hid so
                have HB := hid hbel
                clear he hsuc bx so hbel hpl hm hoc hlen
                go_wp2_with fail
                go_roundw
                case rel =>
                  have kk : Kept (fun b => b = w.heap.size + 1) wr (wr.setCell ⟨w.heap.size + 1, m, none⟩ (.int .i64 k)) := (Kept.refl (fun b => b = w.heap.size + 1) wr).setCell (p := ⟨w.heap.size + 1, m, none⟩) rfl _
                  refine ⟨j + 1, by go_num, by omega, HX.out.kept kk (by omega), ?_, SO.out.kept kk (fun b _ h h' => by omega), HB.out.trans (kk.below HB.out.size (fun b h => by omega))⟩
                  rw [HS.out]; exact HE.out
                case measure => simp [intOf]; omega
              · obtain rfl : j = s.order.length := by omega
                rw [List.take_length, ← hstep.out] at he
                have HE := hid he
                have HX := hid bx
                have HB := hid hbel
                clear he bx hbel so
                go_wp2_with fail
                go_roundw
                case rel => exact ⟨k + 1, by go_num, by omega, HX.out, HE.out, HB.out⟩
                case measure => simp [intOf]; omega
          · have hstep : Hid (compIter n (k + 1) = C) := by
              show compIter n (k + 1) = _
              rw [compIter, compStep, ← HC.out, hgd, if_neg hneg]
            have HE := hid he
            have HX := hid bx
            have HB := hid hbel
            clear he bx hbel hgd
            skip
            go_wp2_with fail
            go_roundw
            case rel => exact ⟨k + 1, by go_num, by omega, HX.out, by rw [hstep.out]; exact HE.out, HB.out⟩
            case measure => simp [intOf]; omega
        · obtain rfl : k = n.nodes.length := by omega
          have HE : Hid (IntBlk 2 wr (w.heap.size + 1) (comps n)) := by rw [HC.out] at he; exact he
          have HB := hid hbel
          have hll := compIter_len n n.nodes.length
          clear he bx hbel
          go_wp2_with fail
          go_ret
          refine ⟨_, rfl, ?_, HB.out⟩
          have := HE.out.slc (P := fun b => w.heap.size ≤ b ∧ b < wr.heap.size) (cap := n.nodes.length) ⟨by omega, hbe⟩ (by unfold comps; omega)
          rw [show (comps n).length = n.nodes.length from hll] at this
          exact this

end Go.Proofs.Ytdapdaadglaoiaa
