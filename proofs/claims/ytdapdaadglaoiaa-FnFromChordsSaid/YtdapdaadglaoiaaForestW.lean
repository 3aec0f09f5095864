/- forestOf. -/
import Derived.Test.YtdapdaadglaoiaaForest
import Derived.Test.YtdapdaadglaoiaaSort
namespace Go.Proofs.Ytdapdaadglaoiaa
open Go.RowKit

def F1Rel (n : Net) (l : List Value) (w : World) (B : Nat) (cv : Value) (i p : Value) (wr : World) : Prop :=
  ∃ k : Nat, i = .int .i64 k ∧ k ≤ n.nodes.length ∧ OwnI 2 B wr p (fRaw n k) ∧ Box wr w.heap.size l ∧ Slc (fun c => w.heap.size + 1 ≤ c ∧ c < B) wr cv (comps n) ∧ Below w.heap.size w wr ∧ B ≤ wr.heap.size
def F2Rel (E F : List Int) (n : Net) (l : List Value) (w : World) (B lo hi : Nat) (cv ev : Value) (i p : Value) (wr : World) : Prop :=
  ∃ j : Nat, i = .int .i64 j ∧ j ≤ E.length ∧ OwnI 2 B wr p (F ++ (E.take j).filter (fun e => decide (0 ≤ e))) ∧ Box wr w.heap.size l ∧ Slc (fun c => w.heap.size + 1 ≤ c ∧ c < B) wr cv (comps n) ∧ Slc (fun c => lo ≤ c ∧ c < hi) wr ev E ∧ (∀ b, p.ownBlock = some b → b < lo ∨ hi ≤ b) ∧ Below w.heap.size w wr ∧ B ≤ wr.heap.size ∧ hi ≤ wr.heap.size
theorem take_filter_yes {E : List Int} {j : Nat} (hj : j < E.length) (h : 0 ≤ E[j]) : (E.take (j + 1)).filter (fun e => decide (0 ≤ e)) = (E.take j).filter (fun e => decide (0 ≤ e)) ++ [E[j]] := by
  rw [List.take_succ_eq_append_getElem hj, List.filter_append]; simp [h]
theorem take_filter_no {E : List Int} {j : Nat} (hj : j < E.length) (h : ¬ 0 ≤ E[j]) : (E.take (j + 1)).filter (fun e => decide (0 ≤ e)) = (E.take j).filter (fun e => decide (0 ≤ e)) := by
  rw [List.take_succ_eq_append_getElem hj, List.filter_append]; simp [h]
theorem fRaw_len_le {n : Net} (hb : netB n = true) (k : Nat) (hk : k ≤ n.nodes.length) : (fRaw n k).length ≤ 600 := by
  have hnl := netB_t hb
  have : (fRaw n k).length ≤ 24 * k := by
    induction k with
    | zero => simp [fRaw]
    | succ k ih =>
      rw [fRaw_succ, List.length_append]
      have h1 := ih (by omega)
      have h2 : (if isRoot n k = true then entsOf (srch n k) else []).length ≤ 24 := by
        split
        · have g := good_srch hb (v := (k : Int)) (by omega) (by omega)
          have := g.le
          unfold entsOf
          exact Nat.le_trans (List.length_filter_le _ _) (by omega)
        · simp
      omega
  omega

set_option maxHeartbeats 2000000 in
set_option maxRecDepth 100000 in
theorem forestOf_any (nv pv : Value) (n : Net) (w : World) (h : NetAt w nv pv n) (hb : netB n = true) :
    Calls Try.prog 149 #[.agg #[nv, pv]] w fun e w' => ∃ r, e = .returned r ∧ OwnI 2 (w.heap.size + 1) w' r (forest n) ∧ Below w.heap.size w w' := by
  obtain ⟨a0, k0, rfl⟩ := h.1.shape
  obtain ⟨a1, k1, rfl⟩ := h.2.2.shape
  have hnl := netB_t hb
  have HP := hid h
  have hWb := below_new w (.cells #[.slice a0 n.nodes.length k0, .slice a1 n.pipes.length k1] 27)
  have hbx := Box.new w #[.slice a0 n.nodes.length k0, .slice a1 n.pipes.length k1] 27
  have h := h.below hWb
  go_enter Try.func149, Try.ntmps149
  go_wp2_with fail
  refine (componentsOf_any _ _ n _ h hb).mono ?_
  rintro e w1 ⟨cv, rfl, sc, b1⟩
  have HB := hid (hWb.trans (b1.mono hWb.size))
  have HX := hid (hbx.below b1)
  have z1 := b1.size
  simp only [World.size_alloc] at z1
  have hcl := comps_len n
  have SC := hid (sc.mono (Q := fun c => w.heap.size + 1 ≤ c ∧ c < w1.heap.size) (fun c _ h => ⟨by have := h.1; simp only [World.size_alloc] at this; omega, h.2⟩))
  obtain ⟨_, ca, cc, hce, _⟩ := id sc
  rw [hcl] at hce
  subst hce
  clear b1 hWb hbx h sc
  go_wp2_with fail
  go_loopw [11, 3] (fun i p wr => F1Rel n [.slice a0 n.nodes.length k0, .slice a1 n.pipes.length k1] w w1.heap.size (.slice ca n.nodes.length cc) i p wr) (fun i _ _ => n.nodes.length - (intOf i).toNat)
  case atStart => exact ⟨0, rfl, by omega, OwnI.nil _ _ _, HX.out, SC.out, HB.out, Nat.le_refl _⟩
  case round =>
    clear HX HB SC
    obtain ⟨k, rfl, hk, ho, bx, sc, hbel, hBs⟩ := hrel
    have hln := fRaw_len_le hb k hk
    by_cases hlt : k < n.nodes.length
    · obtain ⟨cb, co, rfl, hcP, hcl2, _, hcc⟩ := sc.at (by omega)
      have q0 := hcc k (by omega)
      obtain ⟨C, hC⟩ : ∃ C, (comps n)[k]'(by omega) = C := ⟨_, rfl⟩
      rw [hC] at q0
      have hCg : (comps n).getD k 0 = C := by rw [← hC]; simp [List.getD, hcl, hlt]
      have HO := hid ho
      have HX := hid bx
      have SC := hid sc
      have HB := hid hbel
      have hS := hid (fRaw_succ n k)
      have hcl3 : (k : Int) < n.nodes.length := by omega
      clear ho bx sc hbel hcc hC
      by_cases hroot : C = (k : Int)
      · have hbt : (C != (k : Int)) = false := by simp [hroot]
        have hS2 : Hid (fRaw n (k + 1) = fRaw n k ++ entsOf (srch n k)) := by
          have : isRoot n k = true := by unfold isRoot; rw [hCg]; simpa using hroot
          have h2 := hS.out
          rw [if_pos this] at h2
          exact h2
        have hsf : Hid (∀ W, Below w.heap.size w W → _) := fun W hW => searchFrom_any _ _ n k W (HP.out.below hW) hb (by omega) (by omega)
        have g := good_srch hb (v := (k : Int)) (by omega) (by omega)
        have hle := g.le
        subst hroot
        obtain ⟨s, hs⟩ : ∃ s, s = srch n (k : Int) := ⟨_, rfl⟩
        rw [← hs] at hsf hS2 hle
        obtain ⟨c0, c1⟩ := HX.out.two
        clear hs g hCg
        go_wp2_with fail
        refine (hsf.out _ HB.out).mono ?_
        rintro e w2 ⟨ov, dv, ev, rfl, so, sd, se, b2⟩
        have HO2 := hid (HO.out.below b2)
        have HX2 := hid (HX.out.below b2)
        have SC2 := hid (SC.out.below b2)
        have HB2 := hid (HB.out.trans (b2.mono HB.out.size))
        obtain ⟨LO, hLO⟩ : ∃ LO, LO = wr.heap.size := ⟨_, rfl⟩
        have SE := hid (se.mono (Q := fun c => LO ≤ c ∧ c < w2.heap.size) (fun c _ h => ⟨by have := h.1; omega, h.2⟩))
        have hol := HO.out.lt
        rw [← hLO] at hol
        have HOL := hid hol
        have z2 := b2.size
        have zLO : w1.heap.size ≤ LO := by omega
        obtain ⟨_, oa, oc, rfl, _⟩ := so
        obtain ⟨_, da, dc, rfl, _⟩ := sd
        obtain ⟨_, ea, ec, hee, _⟩ := se
        rw [hle] at hee
        subst hee
        have hfd := field_search_ent oa s.order.length oc da s.dist.length dc ea n.nodes.length ec w2
        clear b2 c0 c1 hol
        go_wp2_with fail
        clear hfd
        go_loopw [24, 3] (fun i p wr2 => F2Rel s.ent (fRaw n k) n [.slice a0 n.nodes.length k0, .slice a1 n.pipes.length k1] w w1.heap.size LO w2.heap.size (.slice (some ⟨cb, co, none⟩) n.nodes.length cc) (.slice ea n.nodes.length ec) i p wr2) (fun i _ _ => n.nodes.length - (intOf i).toNat)
        case atStart => exact ⟨0, rfl, by omega, by simpa using HO2.out, HX2.out, SC2.out, SE.out, fun b hb => Or.inl (HOL.out b hb).2, HB2.out, by omega, Nat.le_refl _⟩
        case round =>
          clear HO2 HX2 SC2 HB2 SE HOL
          obtain ⟨j, rfl, hj, ho, bx, sc, se, hob, hbel, hB1, hB2⟩ := hrel
          have hfl : ((s.ent.take j).filter (fun e => decide (0 ≤ e))).length ≤ 24 := Nat.le_trans (List.length_filter_le _ _) (by simp; omega)
          by_cases hjl : j < n.nodes.length
          · obtain ⟨eb, eo, rfl, heP, hel, _, hec⟩ := se.at (by omega)
            have q1 := hec j (by omega)
            obtain ⟨E, hE⟩ : ∃ E, s.ent[j]'(by omega) = E := ⟨_, rfl⟩
            rw [hE] at q1
            have hjI : (j : Int) < n.nodes.length := by omega
            have HO2 := hid ho
            have HX2 := hid bx
            have SC2 := hid sc
            have SE2 := hid se
            have HB2 := hid hbel
            have HOB := hid hob
            by_cases hpos : 0 ≤ E
            · have hz : Hid (fRaw n k ++ (s.ent.take (j + 1)).filter (fun e => decide (0 ≤ e)) = (fRaw n k ++ (s.ent.take j).filter (fun e => decide (0 ≤ e))) ++ [E]) := by
                rw [take_filter_yes (by omega) (by rw [hE]; exact hpos), hE, List.append_assoc]; rfl
              clear ho bx sc se hbel hec hE hob
              go_wp2_with (at_builtin; refine wpList_app1 rfl (.tmp 30) (.tmp 32) rfl w1.heap.size u3 _ rfl (HO2.out.alloc _) wr.heap.size E rfl ?c1 ?c2 ?c3 ?_)
              case c1 => simp
              case c2 => simp; omega
              case c3 => simp; omega
              intro v1 w5 hv1 hk1 hb1
              have hlo := HO2.out.lt
              have kk : Kept (fun c => u3.ownBlock = some c ∨ wr.heap.size ≤ c) wr w5 := (Kept.of_below (below_new wr (.cells #[.int .i64 E] 2))).trans (hk1.mono (fun c _ h => Or.inl h))
              have zx := HX2.out.1
              have zb := HB2.out.size
              have HX5 := hid (HX2.out.kept kk (fun h => h.elim (fun h => by have := (hlo _ h).1; omega) (fun h => by omega)))
              have SC5 := hid (SC2.out.kept kk (fun c hc h1 h2 => h2.elim (fun h2 => by have := (hlo _ h2).1; omega) (fun h2 => by omega)))
              have SE5 := hid (SE2.out.kept kk (fun c hc h1 h2 => h2.elim (fun h2 => by have := HOB.out c h2; omega) (fun h2 => by omega)))
              have HB5 := hid (HB2.out.trans (kk.below HB2.out.size (fun c h => h.elim (fun h => by have := (hlo _ h).1; omega) (fun h => by omega))))
              have HOB5 : Hid (∀ b, v1.ownBlock = some b → b < LO ∨ w2.heap.size ≤ b) := fun b hb => by
                rcases hb1 with h | h
                · exact HOB.out b (by rw [← h]; exact hb)
                · rw [h] at hb; simp at hb; omega
              have HV := hid hv1
              have z5 := kk.size
              clear hv1 hk1 hb1 kk hlo
              go_wp2_with fail
              go_roundw
              case rel => exact ⟨j + 1, by go_num, by omega, by rw [hz.out, List.append_assoc]; exact HV.out, HX5.out, SC5.out, SE5.out, HOB5.out, HB5.out, by omega, by omega⟩
              case measure => simp [intOf]; omega
            · have hz : Hid (fRaw n k ++ (s.ent.take (j + 1)).filter (fun e => decide (0 ≤ e)) = fRaw n k ++ (s.ent.take j).filter (fun e => decide (0 ≤ e))) := by
                rw [take_filter_no (by omega) (by rw [hE]; exact hpos)]; rfl
              clear ho bx sc se hbel hec hE hob
              go_wp2_with fail
              go_roundw
              case rel => exact ⟨j + 1, by go_num, by omega, by rw [hz.out]; exact HO2.out, HX2.out, SC2.out, SE2.out, HOB.out, HB2.out, hB1, hB2⟩
              case measure => simp [intOf]; omega
          · obtain rfl : j = n.nodes.length := by omega
            have hz : Hid (fRaw n (k + 1) = fRaw n k ++ (s.ent.take n.nodes.length).filter (fun e => decide (0 ≤ e))) := by
              rw [hS2.out, List.take_of_length_le (by omega)]; rfl
            have HO2 := hid ho
            have HX2 := hid bx
            have SC2 := hid sc
            have HB2 := hid hbel
            clear ho bx sc se hbel hob
            go_wp2_with fail
            go_roundw
            case rel => exact ⟨k + 1, by go_num, by omega, by rw [hz.out]; exact HO2.out, HX2.out, SC2.out, HB2.out, hB1⟩
            case measure => simp [intOf]; omega
      · have hbt : (C != (k : Int)) = true := by simp [hroot]
        have hS2 : Hid (fRaw n (k + 1) = fRaw n k) := by
          have : ¬ isRoot n k = true := by unfold isRoot; rw [hCg]; simpa using hroot
          have h2 := hS.out
          rw [if_neg this, List.append_nil] at h2
          exact h2
        clear hroot hCg
        go_wp2_with fail
        go_roundw
        case rel => exact ⟨k + 1, by go_num, by omega, by rw [hS2.out]; exact HO.out, HX.out, SC.out, HB.out, hBs⟩
        case measure => simp [intOf]; omega
    · obtain rfl : k = n.nodes.length := by omega
      have HO := hid ho
      have HB := hid hbel
      obtain ⟨pa, pc, rfl, _⟩ := ho.shape
      clear ho bx sc hbel
      go_wp2_with fail
      refine (sort_any 2 _ _ _ _ HO.out (by omega)).mono ?_
      rintro e w3 ⟨rfl, os, k3⟩
      have hlo := HO.out.lt
      have HB3 := hid (HB.out.trans (k3.below HB.out.size (fun c h => by have := (hlo c h).1; omega)))
      have hF : Hid (sortZ (fRaw n n.nodes.length) = forest n) := forest_of_sorted hb (sortZ_sorted _) (sortZ_perm _)
      have HS := hid os
      clear os k3 hlo
      go_wp2_with fail
      go_ret
      refine ⟨_, rfl, ?_, HB3.out⟩
      rw [← hF.out]
      exact HS.out.lower (by omega)

end Go.Proofs.Ytdapdaadglaoiaa
