/- impl.sharesOf. -/
import Derived.Test.YthbihlbbejcpcaaShareW
namespace Go.Proofs.Ythbihlbbejcpcaa
open Go.RowKit

theorem map_fill_set (f : Int → Int) (zs : List Int) (k : Nat) (h : k < zs.length) : ((zs.take k).map f ++ List.replicate (zs.length - k) 0).set k (f zs[k]) = (zs.take (k + 1)).map f ++ List.replicate (zs.length - (k + 1)) 0 := by
  have := fill_set (zs.map f) k (by simpa using h)
  simpa using this

def MadeRel (T : TypeId) (n : Nat) (w : World) (s6 s7 : Value) (wx : World) : Prop :=
  ∃ b1 b2 : Nat, s6 = .slice (some ⟨b1, 0, none⟩) n n ∧ s7 = .slice (some ⟨b2, 0, none⟩) n n ∧ b1 ≠ b2 ∧ w.heap.size ≤ b1 ∧ w.heap.size ≤ b2 ∧
    IntBlk T wx b1 (List.replicate n 0) ∧ IntBlk T wx b2 (List.replicate n 0) ∧ Below w.heap.size w wx
def ShRel (T : TypeId) (total sum : Int) (ws : List Int) (b1 b2 : Nat) (w : World) (l i : Value) (wr : World) : Prop :=
  ∃ k : Nat, i = .int .i64 k ∧ k ≤ ws.length ∧ l = .int .i64 (Sh.left total sum (ws.take k)) ∧
    IntBlk T wr b1 (Sh.sh total sum (ws.take k) ++ List.replicate (ws.length - k) 0) ∧ IntBlk T wr b2 (Sh.re total sum (ws.take k) ++ List.replicate (ws.length - k) 0) ∧ Below w.heap.size w wr
def LoopRel (T : TypeId) (L : Nat) (p : List Int × List Int) (b1 b2 : Nat) (w : World) (l : Value) (wr : World) : Prop :=
  ∃ j : Nat, j ≤ L ∧ l = .int .i64 ((L : Int) - j) ∧ IntBlk T wr b1 (Sh.iter p j).1 ∧ IntBlk T wr b2 (Sh.iter p j).2 ∧ Below w.heap.size w wr

theorem left_succ (total sum : Int) (ws : List Int) (k : Nat) (h : k < ws.length) : Sh.left total sum (ws.take (k + 1)) = Sh.left total sum (ws.take k) - total * ws[k] / sum := by
  unfold Sh.left Sh.sh
  rw [List.take_succ_eq_append_getElem h, List.map_append, List.sum_append]; simp; omega

theorem made2 (T : TypeId) (w : World) (n : Nat) :
    IntBlk T ((w.alloc (.cells (madeCells #[.int .i64 0] n) T)).alloc (.cells (madeCells #[.int .i64 0] n) T)).drew w.heap.size (List.replicate n 0) ∧
    IntBlk T ((w.alloc (.cells (madeCells #[.int .i64 0] n) T)).alloc (.cells (madeCells #[.int .i64 0] n) T)).drew (w.heap.size + 1) (List.replicate n 0) ∧
    Below w.heap.size w ((w.alloc (.cells (madeCells #[.int .i64 0] n) T)).alloc (.cells (madeCells #[.int .i64 0] n) T)).drew := by
  refine ⟨?_, ?_, (((Below.refl _ _).alloc (Nat.le_refl _) _).alloc (by simp) _).drew⟩
  · exact (IntBlk.made T w n).kept (((Kept.refl (fun _ => False) _).alloc _).drew) (fun e => e)
  · have := IntBlk.made T (w.alloc (.cells (madeCells #[.int .i64 0] n) T)) n
    rw [World.size_alloc] at this
    exact this

set_option maxHeartbeats 1000000 in
set_option maxRecDepth 100000 in
theorem sharesOf_any (total : Int) (v : Value) (ws : List Int) (w : World) (h : Ints .i64 w v ws) (t0 : 0 ≤ total) (t1 : total ≤ 1000000000) (hw : ∀ x ∈ ws, 0 ≤ x ∧ x ≤ 1000000000) (hl : ws.length ≤ 64) (hl0 : 1 ≤ ws.length) (hs : 0 < ws.sum) :
    Calls Try.prog 62 #[.int .i64 total, v] w fun e w' => ∃ r, e = .returned r ∧ Slc (fun b => w.heap.size ≤ b ∧ b < w'.heap.size) w' r (Sh.shares total ws) ∧ Below w.heap.size w w' := by
  have hwn : ∀ x ∈ ws, 0 ≤ x := fun x hx => (hw x hx).1
  have hpart : ∀ i, 0 ≤ (ws.take i).sum ∧ (ws.take i).sum ≤ ws.sum := fun i => ⟨Sh.sum_nonneg (fun x hx => hwn x (List.mem_of_mem_take hx)), Sh.take_sum_le hwn i⟩
  have hsle : ws.sum ≤ 64000000000 := by have := Sh.sum_le (fun x hx => (hw x hx).2) (ws := ws); omega
  have hleft : ∀ i, 0 ≤ Sh.left total ws.sum (ws.take i) ∧ Sh.left total ws.sum (ws.take i) ≤ total := fun i => by
    have a1 := Sh.sh_part (total := total) t0 hs (hpart i).2
    have a2 := Sh.sum_nonneg (Sh.sh_nonneg t0 hs (ws := ws.take i) (fun x hx => hwn x (List.mem_of_mem_take hx)))
    unfold Sh.left; omega
  have HI := hid h
  obtain ⟨_, a, cap, rfl, hc⟩ := h
  obtain ⟨b, off, rfl, hcc⟩ := hc.resolve_left (by intro e; simp [e] at hl0)
  have HC := hid hcc
  have HW := hid hw
  have HL := hid hleft
  have HP := hid hpart
  have HN := hid hwn
  have hmk := run_make_row' (P := Try.prog) 36 2 (.int .i64 0) 8 Try.underlying36 info64 rfl .i64 .i64 ws.length (by omega) (by omega)
  clear hc hcc hw hleft hpart hwn
  obtain ⟨sum, hsum⟩ : ∃ s, s = ws.sum := ⟨_, rfl⟩
  have HS := hid hsum
  rw [← hsum] at hs hsle
  clear hsum
  go_enter Try.func62, Try.ntmps62
  go_wp2_with fail
  refine (sumOf_any _ ws w HI.out (fun i => by have := HP.out i; have := HS.out; omega)).mono ?_
  rw [← HS.out]
  rintro e w' ⟨rfl, rfl⟩
  go_upto_region 2 with fail
  go_cut [6, 7] (fun s6 s7 wx => MadeRel 2 ws.length w s6 s7 wx)
  case first =>
    go_region
    all_goals go_wp2_with fail
    all_goals go_meet
    all_goals first
      | exact ⟨_, _, rfl, rfl, by omega, by omega, by omega, (made2 _ _ _).1, (made2 _ _ _).2.1, (made2 _ _ _).2.2⟩
      | exact ⟨_, _, rfl, rfl, by omega, by omega, by omega, (made2 _ _ _).2.1, (made2 _ _ _).1, (made2 _ _ _).2.2⟩
  case rest =>
    clear hmk
    obtain ⟨b1, b2, rfl, rfl, hne, hb1, hb2, hk1, hk2, hbel⟩ := hcut
    have hne' : ¬ b2 = b1 := fun e => hne e.symm
    have hne2 : ¬ b1 = b2 := hne
    clear hne
    have HK1 := hid hk1
    have HK2 := hid hk2
    have HBel := hid hbel
    clear hk1 hk2 hbel
    go_wp2_with fail
    go_loopw [8, 23] (fun l i wr => ShRel 2 total sum ws b1 b2 w l i wr) (fun _ i _ => ws.length - (intOf i).toNat)
    case atStart => exact ⟨0, rfl, by omega, by simp [Sh.left, Sh.sh], by simpa [Sh.sh] using HK1.out, by simpa [Sh.re] using HK2.out, HBel.out⟩
    case round =>
      clear HK1 HK2 HBel
      obtain ⟨k, rfl, hk, rfl, hk1, hk2, hbel⟩ := hrel
      by_cases hlt : k < ws.length
      · have hcell0 := HC.out k hlt
        have hcell := (hbel.cell (p := ⟨b, off + k, none⟩) (World.block_lt_of_cell? _ _ hcell0)).trans hcell0
        obtain ⟨x0, x1⟩ := HW.out ws[k] (List.getElem_mem hlt)
        have f1 := hk1.frozen k
        have f2 := hk2.frozen k
        have l1 : (Sh.sh total sum (ws.take k) ++ List.replicate (ws.length - k) 0).length = ws.length := by simp [Sh.sh]; omega
        have l2 : (Sh.re total sum (ws.take k) ++ List.replicate (ws.length - k) 0).length = ws.length := by simp [Sh.re]; omega
        obtain ⟨o1, c1⟩ : ∃ o1, wr.cell? ⟨b1, k, none⟩ = some o1 := ⟨_, hk1.cell k (by omega)⟩
        obtain ⟨o2, c2⟩ : ∃ o2, wr.cell? ⟨b2, k, none⟩ = some o2 := ⟨_, hk2.cell k (by omega)⟩
        have m0 : 0 ≤ total * ws[k] := Int.mul_nonneg t0 x0
        have m1 : total * ws[k] ≤ 1000000000000000000 := by have := Int.mul_le_mul t1 x1 x0 (by omega); omega
        have d0 : 0 ≤ total * ws[k] / sum := Int.ediv_nonneg m0 (by omega)
        have d1 : total * ws[k] / sum ≤ 1000000000000000000 := Int.le_trans (Int.ediv_le_self _ m0) m1
        have q0 := HL.out k
        rw [← HS.out] at q0
        have q1 := HL.out (k + 1)
        rw [← HS.out] at q1
        have ql := left_succ total sum ws k hlt
        rw [ql] at q1
        have QL := hid ql
        have HK1 := hid ((hk1.set k (total * ws[k] / sum)).other (p := ⟨b2, k, none⟩) hne2 (.int .i64 (total * ws[k] % sum)))
        have HK2 := hid ((hk2.other (p := ⟨b1, k, none⟩) hne' (.int .i64 (total * ws[k] / sum))).set k (total * ws[k] % sum))
        have HB := hid ((hbel.setCell (p := ⟨b1, k, none⟩) hb1 (.int .i64 (total * ws[k] / sum))).setCell (p := ⟨b2, k, none⟩) hb2 (.int .i64 (total * ws[k] % sum)))
        clear ql hk1 hk2 hbel l1 l2 hcell0 
        go_wp2_with fail
        go_region
        go_wp2_with fail
        go_roundw
        case rel =>
          refine ⟨k + 1, by go_num, by omega, by rw [QL.out], ?_, ?_, HB.out.drew⟩
          · have := HK1.out
            unfold Sh.sh at this ⊢
            rw [map_fill_set (fun x => total * x / sum) ws k hlt] at this
            exact this
          · have := HK2.out
            unfold Sh.re at this ⊢
            rw [map_fill_set (fun x => total * x % sum) ws k hlt] at this
            exact this
        case measure => simp [intOf]; omega
      · obtain rfl : k = ws.length := by omega
        rw [List.take_of_length_le (Nat.le_refl _)] at hk1 hk2 ⊢
        simp only [Nat.sub_self, List.replicate_zero, List.append_nil] at hk1 hk2
        have q0 := HL.out ws.length
        rw [← HS.out, List.take_of_length_le (Nat.le_refl _)] at q0
        obtain ⟨L, hL⟩ : ∃ L : Nat, Sh.left total sum ws = (L : Int) := ⟨(Sh.left total sum ws).toNat, by omega⟩
        rw [hL] at q0 ⊢
        have HLL := hid hL
        have HK1 := hid hk1
        have HK2 := hid hk2
        have HBel := hid hbel
        clear hL hk1 hk2 hbel
        go_wp2_with fail
        go_loopw [8] (fun l wr => LoopRel 2 L (Sh.sh total sum ws, Sh.re total sum ws) b1 b2 w l wr) (fun l _ => (intOf l).toNat)
        case atStart => exact ⟨0, by omega, by simp, HK1.out, HK2.out, HBel.out⟩
        case round =>
          clear HK1 HK2 HBel hlt hk
          obtain ⟨j, hj, rfl, hk1, hk2, hbel⟩ := hrel
          have ln := Sh.iter_len (Sh.sh total sum ws, Sh.re total sum ws) j
          have ln1 : (Sh.iter (Sh.sh total sum ws, Sh.re total sum ws) j).1.length = ws.length := by rw [ln.1]; simp [Sh.sh]
          have ln2 : (Sh.iter (Sh.sh total sum ws, Sh.re total sum ws) j).2.length = ws.length := by rw [ln.2]; simp [Sh.re]
          by_cases hjl : j < L
          · have bd := Sh.iter_bd (Sh.sh total sum ws, Sh.re total sum ws) total (fun x hx => ⟨Sh.sh_nonneg t0 hs HN.out x hx, Sh.sh_le t0 hs HN.out HS.out.symm x hx⟩) t0 j
            have hst : Hid (Sh.iter (Sh.sh total sum ws, Sh.re total sum ws) (j + 1) = Sh.step (Sh.iter (Sh.sh total sum ws, Sh.re total sum ws) j)) := rfl
            obtain ⟨S, R, hSR⟩ : ∃ S R, Sh.iter (Sh.sh total sum ws, Sh.re total sum ws) j = (S, R) := ⟨_, _, rfl⟩
            rw [hSR] at hk1 hk2 ln1 ln2 bd hst
            simp only at hk1 hk2 ln1 ln2 bd
            have hbest : Sh.best R < ws.length := by have := Sh.best_lt (rs := R) (by omega); omega
            have hstep : Hid (Sh.step (S, R) = (S.set (Sh.best R) (S.getD (Sh.best R) 0 + 1), R.set (Sh.best R) (-1))) := rfl
            have hfirst := Sh.bestTo_first R (R.length - 1)
            have hgR : R.getD (Sh.best R) 0 = R[Sh.best R]'(by omega) := by simp [List.getD, ln2, hbest]
            have hgS : S.getD (Sh.best R) 0 = S[Sh.best R]'(by omega) := by simp [List.getD, ln1, hbest]
            have bdS := bd _ (List.getElem_mem (by omega : Sh.best R < S.length))
            obtain ⟨be, hbe⟩ : ∃ be, be = Sh.best R := ⟨_, rfl⟩
            have f1 := hk1.frozen be
            have f2 := hk2.frozen be
            have hI : Ints .i64 wr (.slice (some ⟨b2, 0, none⟩) ws.length ws.length) R := by
              have := (hk2.slc (P := fun _ => True) (cap := ws.length) trivial (by omega)).ints
              rw [ln2] at this; exact this
            have HI2 := hid hI
            have HF : Hid (∀ j (hj : j < R.length), j < be → R[j] ≠ R.getD be 0) := by
              intro i hi hib e
              have := hfirst i (by rw [hbe] at hib; exact hib)
              rw [hbe] at e
              have e2 : R.getD i 0 = R[i] := by simp [List.getD, hi]
              rw [e2, e] at this
              exact absurd this (by unfold Sh.best; omega)
            have hbl : be < R.length := by omega
            have hbl1 : be < S.length := by omega
            have hbw : be < ws.length := by omega
            have hcS := hk1.cell be hbl1
            obtain ⟨o2, c2⟩ : ∃ o2, wr.cell? ⟨b2, be, none⟩ = some o2 := ⟨_, hk2.cell be hbl⟩
            have HX : Hid (R[be] = R.getD be 0) := by simp [List.getD, hbl, Hid]
            have hbd : 0 ≤ S[be] ∧ S[be] ≤ 2000000000 := by
              have := bd _ (List.getElem_mem hbl1); omega
            have HK1 := hid ((hk1.set be (S[be] + 1)).other (p := ⟨b2, be, none⟩) hne2 (.int .i64 (-1)))
            have HK2 := hid ((hk2.other (p := ⟨b1, be, none⟩) hne' (.int .i64 (S[be] + 1))).set be (-1))
            have HB := hid ((hbel.setCell (p := ⟨b1, be, none⟩) hb1 (.int .i64 (S[be] + 1))).setCell (p := ⟨b2, be, none⟩) hb2 (.int .i64 (-1)))
            have HFIN : Hid (Sh.iter (Sh.sh total sum ws, Sh.re total sum ws) (j + 1) = (S.set be (S[be] + 1), R.set be (-1))) := by
              unfold Hid
              rw [hst.out, hstep.out, ← hbe]
              simp [List.getD, hbl1]
            have HBE := hid hbe
            clear hk1 hk2 hbel bd hst hstep hfirst hgR hgS bdS hbe hI ln hSR hbest
            have l1 := hid ln1
            have l2 := hid ln2
            clear ln1 ln2
            go_wp2_with fail
            refine (slicesMax_any _ R _ HI2.out (by omega)).mono ?_
            rw [← HBE.out]
            rintro e w' ⟨rfl, rfl⟩
            go_wp2_with fail
            refine (slicesIndex_any _ R (R[be]) be _ HI2.out hbl rfl (by rw [HX.out]; exact HF.out)).mono ?_
            rintro e w' ⟨rfl, rfl⟩
            go_wp2_with fail
            go_roundw
            case rel => exact ⟨j + 1, by omega, by go_num, by rw [HFIN.out]; exact HK1.out, by rw [HFIN.out]; exact HK2.out, HB.out⟩
            case measure => simp [intOf]; omega
          · obtain rfl : j = L := by omega
            have hsz := hk1.lt
            have HR : Hid (Slc (fun b => w.heap.size ≤ b ∧ b < wr.heap.size) wr (.slice (some ⟨b1, 0, none⟩) ws.length ws.length) (Sh.shares total ws)) := by
              have := hk1.slc (P := fun b => w.heap.size ≤ b ∧ b < wr.heap.size) (cap := ws.length) ⟨hb1, hsz⟩ (by omega)
              rw [ln1] at this
              unfold Sh.shares
              rw [← HS.out, HLL.out, Int.toNat_natCast]; exact this
            have HBel := hid hbel
            clear hk1 hk2 hbel ln ln1 ln2
            go_wp2_with fail
            go_ret
            exact ⟨_, rfl, HR.out, HBel.out⟩

end Go.Proofs.Ythbihlbbejcpcaa
