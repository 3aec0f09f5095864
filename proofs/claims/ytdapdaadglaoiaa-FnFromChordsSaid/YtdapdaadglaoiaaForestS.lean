/- l04Forest; SpanningForest of both sides. -/
import Derived.Test.YtdapdaadglaoiaaForestW
namespace Go.Proofs.Ytdapdaadglaoiaa
open Go.RowKit

/-- The marks: which of P pipes are in L. -/
def inL (P : Nat) (L : List Int) : List Bool := (List.range P).map (fun i : Nat => decide ((i : Int) ∈ L))
theorem inL_len (P : Nat) (L : List Int) : (inL P L).length = P := by simp [inL]
theorem inL_nil (P : Nat) : inL P [] = List.replicate P false := by
  apply List.ext_getElem
  · simp [inL]
  · intro i h1 h2; simp [inL]
theorem inL_set (P : Nat) (L : List Int) (e : Nat) : (inL P L).set e true = inL P (L ++ [(e : Int)]) := by
  apply List.ext_getElem
  · simp [inL]
  · intro i h1 h2
    rw [List.getElem_set]
    simp only [inL, List.getElem_map, List.getElem_range, List.mem_append, List.mem_singleton]
    by_cases h : e = i
    · subst h; simp
    · have : ¬ ((i : Int) = (e : Int)) := by omega
      rw [if_neg h]; simp [this]
theorem inL_get (P : Nat) (L : List Int) (i : Nat) (h : i < (inL P L).length) : (inL P L)[i] = decide ((i : Int) ∈ L) := by simp [inL]
def forTo (n : Net) (k : Nat) : List Int := ((List.range k).filter (inF n)).map (fun i : Nat => (i : Int))
theorem forTo_succ (n : Net) (k : Nat) : forTo n (k + 1) = forTo n k ++ (if inF n k = true then [(k : Int)] else []) := by
  unfold forTo
  rw [List.range_succ, List.filter_append, List.map_append]
  congr 1
  by_cases h : inF n k = true <;> simp [h]
theorem forTo_len (n : Net) (k : Nat) : (forTo n k).length ≤ k := by
  unfold forTo
  rw [List.length_map]
  exact Nat.le_trans (List.length_filter_le _ _) (by simp)

def G1Rel (n : Net) (l : List Value) (w : World) (B : Nat) (cv : Value) (i : Value) (wr : World) : Prop :=
  ∃ k : Nat, i = .int .i64 k ∧ k ≤ n.nodes.length ∧ BoolBlk 4 wr (w.heap.size + 1) (inL n.pipes.length (fRaw n k)) ∧ Box wr w.heap.size l ∧ Slc (fun c => w.heap.size + 2 ≤ c ∧ c < B) wr cv (comps n) ∧ Below w.heap.size w wr ∧ B ≤ wr.heap.size
def G2Rel (E F : List Int) (n : Net) (l : List Value) (w : World) (B lo hi : Nat) (cv ev : Value) (i : Value) (wr : World) : Prop :=
  ∃ j : Nat, i = .int .i64 j ∧ j ≤ E.length ∧ BoolBlk 4 wr (w.heap.size + 1) (inL n.pipes.length (F ++ (E.take j).filter (fun e => decide (0 ≤ e)))) ∧ Box wr w.heap.size l ∧ Slc (fun c => w.heap.size + 2 ≤ c ∧ c < B) wr cv (comps n) ∧ Slc (fun c => lo ≤ c ∧ c < hi) wr ev E ∧ Below w.heap.size w wr ∧ B ≤ wr.heap.size
def G3Rel (n : Net) (w : World) (B : Nat) (i s : Value) (wr : World) : Prop :=
  ∃ k : Nat, i = .int .i64 k ∧ k ≤ n.pipes.length ∧ OwnI 2 B wr s (forTo n k) ∧ BoolBlk 4 wr (w.heap.size + 1) (inL n.pipes.length (fRaw n n.nodes.length)) ∧ Below w.heap.size w wr ∧ B ≤ wr.heap.size

set_option maxHeartbeats 2000000 in
set_option maxRecDepth 100000 in
theorem l04Forest_any (nv pv : Value) (n : Net) (w : World) (h : NetAt w nv pv n) (hb : netB n = true) :
    Calls Try.prog 150 #[.agg #[nv, pv]] w fun e w' => ∃ r, e = .returned r ∧ OwnI 2 (w.heap.size + 1) w' r (forest n) ∧ Below w.heap.size w w' := by
  obtain ⟨a0, k0, rfl⟩ := h.1.shape
  obtain ⟨a1, k1, rfl⟩ := h.2.2.shape
  have hnl := netB_t hb
  have HP := hid h
  obtain ⟨W0, hW0⟩ : ∃ W0, W0 = (w.alloc (.cells #[.slice a0 n.nodes.length k0, .slice a1 n.pipes.length k1] 27)).alloc (.cells (madeCells #[.bool false] n.pipes.length) 4) := ⟨_, rfl⟩
  have hWb : Below w.heap.size w W0 := by rw [hW0]; exact (below_new w _).alloc (by simp) _
  have hbx : Box W0 w.heap.size [.slice a0 n.nodes.length k0, .slice a1 n.pipes.length k1] := by rw [hW0]; exact (Box.new w #[.slice a0 n.nodes.length k0, .slice a1 n.pipes.length k1] 27).below (below_new _ _)
  have hbb : BoolBlk 4 W0 (w.heap.size + 1) (inL n.pipes.length (fRaw n 0)) := by
    have : fRaw n 0 = [] := by simp [fRaw]
    rw [this, inL_nil, hW0]
    refine boolBlk_made _ _ _ _ ?_
    exact heap_at _ _ _ (by simp)
  have hmk := run_make_row' (P := Try.prog) 146 4 (.bool false) 1 Try.underlying146 infoB rfl .i64 .i64 n.pipes.length (by omega) (by omega)
  have hsz : W0.heap.size = w.heap.size + 1 + 1 := by rw [hW0]; simp
  obtain ⟨c0, c1⟩ := (Box.new w #[.slice a0 n.nodes.length k0, .slice a1 n.pipes.length k1] 27).two
  have h := h.below hWb
  go_enter Try.func150, Try.ntmps150
  go_wp2_with fail
  rw [← hW0]
  clear hW0 hmk c0 c1
  refine (l04Components_any _ _ n _ h hb).mono ?_
  rintro e w1 ⟨cv, rfl, sc, b1⟩
  have HB := hid (hWb.trans (b1.mono hWb.size))
  have HX := hid (hbx.below b1)
  have HBB := hid (hbb.below b1)
  have z1 := b1.size
  have hcl := comps_len n
  have SC := hid (sc.mono (Q := fun c => w.heap.size + 2 ≤ c ∧ c < w1.heap.size) (fun c _ h => ⟨by have := h.1; omega, h.2⟩))
  obtain ⟨_, ca, cc, hce, _⟩ := id sc
  rw [hcl] at hce
  subst hce
  clear b1 hWb hbx h sc hbb
  go_wp2_with fail
  go_loopw [5] (fun i wr => G1Rel n [.slice a0 n.nodes.length k0, .slice a1 n.pipes.length k1] w w1.heap.size (.slice ca n.nodes.length cc) i wr) (fun i _ => n.nodes.length - (intOf i).toNat)
  case atStart => exact ⟨0, rfl, by omega, HBB.out, HX.out, SC.out, HB.out, Nat.le_refl _⟩
  case round =>
    clear HX HB SC HBB
    obtain ⟨k, rfl, hk, hbb, bx, sc, hbel, hBs⟩ := hrel
    by_cases hlt : k < n.nodes.length
    · obtain ⟨cb, co, rfl, hcP, hcl2, _, hcc⟩ := sc.at (by omega)
      have q0 := hcc k (by omega)
      obtain ⟨C, hC⟩ : ∃ C, (comps n)[k]'(by omega) = C := ⟨_, rfl⟩
      rw [hC] at q0
      have hCg : (comps n).getD k 0 = C := by rw [← hC]; simp [List.getD, hcl, hlt]
      have HBB := hid hbb
      have HX := hid bx
      have SC := hid sc
      have HB := hid hbel
      have hS := hid (fRaw_succ n k)
      have hcl3 : (k : Int) < n.nodes.length := by omega
      clear hbb bx sc hbel hcc hC
      by_cases hroot : C = (k : Int)
      · have hbt : (C != (k : Int)) = false := by simp [hroot]
        have hS2 : Hid (fRaw n (k + 1) = fRaw n k ++ entsOf (srch n k)) := by
          have : isRoot n k = true := by unfold isRoot; rw [hCg]; simpa using hroot
          have h2 := hS.out
          rw [if_pos this] at h2
          exact h2
        have hsf : Hid (∀ W, Below w.heap.size w W → _) := fun W hW => l04Search_any _ _ n k W (HP.out.below hW) hb (by omega) (by omega)
        have g := good_srch hb (v := (k : Int)) (by omega) (by omega)
        have hle := g.le
        have hent : Hid (∀ j (hj : j < (srch n k).ent.length), 0 ≤ (srch n k).ent[j] → ∃ i : Nat, (srch n k).ent[j] = i ∧ i < n.pipes.length) := fun j hj h0 => by
          have e : (srch n k).ent.getD j 0 = (srch n k).ent[j] := by simp [List.getD, hj]
          obtain ⟨_, _, i, hi, h1, _⟩ := g.entry (x := j) (by omega) (by rw [e]; exact h0)
          exact ⟨i, by rw [← e]; exact h1, hi⟩
        subst hroot
        obtain ⟨s, hs⟩ : ∃ s, s = srch n (k : Int) := ⟨_, rfl⟩
        rw [← hs] at hsf hS2 hle hent
        obtain ⟨c0, c1⟩ := HX.out.two
        clear hs g hCg
        go_wp2_with fail
        refine (hsf.out _ HB.out).mono ?_
        rintro e w2 ⟨ev, ov, rfl, se, so, b2⟩
        have HBB2 := hid (HBB.out.below b2)
        have HX2 := hid (HX.out.below b2)
        have SC2 := hid (SC.out.below b2)
        have HB2 := hid (HB.out.trans (b2.mono HB.out.size))
        obtain ⟨LO, hLO⟩ : ∃ LO, LO = wr.heap.size := ⟨_, rfl⟩
        have SE := hid (se.mono (Q := fun c => LO ≤ c ∧ c < w2.heap.size) (fun c _ h => ⟨by have := h.1; omega, h.2⟩))
        have z2 := b2.size
        have zLO : w1.heap.size ≤ LO := by omega
        obtain ⟨_, oa, oc, rfl, _⟩ := so
        obtain ⟨_, ea, ec, hee, _⟩ := se
        rw [hle] at hee
        subst hee
        clear b2 c0 c1
        go_wp2_with fail
        go_loopw [8] (fun i wr2 => G2Rel s.ent (fRaw n k) n [.slice a0 n.nodes.length k0, .slice a1 n.pipes.length k1] w w1.heap.size LO w2.heap.size (.slice (some ⟨cb, co, none⟩) n.nodes.length cc) (.slice ea n.nodes.length ec) i wr2) (fun i _ => n.nodes.length - (intOf i).toNat)
        case atStart => exact ⟨0, rfl, by omega, by simpa using HBB2.out, HX2.out, SC2.out, SE.out, HB2.out, by omega⟩
        case round =>
          clear HBB2 HX2 SC2 HB2 SE
          obtain ⟨j, rfl, hj, hbb, bx, sc, se, hbel, hB1⟩ := hrel
          by_cases hjl : j < n.nodes.length
          · obtain ⟨eb, eo, rfl, heP, hel, _, hec⟩ := se.at (by omega)
            have q1 := hec j (by omega)
            obtain ⟨E, hE⟩ : ∃ E, s.ent[j]'(by omega) = E := ⟨_, rfl⟩
            rw [hE] at q1
            have hjI : (j : Int) < n.nodes.length := by omega
            have HBB2 := hid hbb
            have HX2 := hid bx
            have SC2 := hid sc
            have SE2 := hid se
            have HB2 := hid hbel
            by_cases hpos : 0 ≤ E
            · obtain ⟨i, hi1, hi2⟩ := hent.out j (by omega) (by rw [hE]; exact hpos)
              rw [hE] at hi1
              subst hi1
              have hz : Hid (inL n.pipes.length (fRaw n k ++ (s.ent.take (j + 1)).filter (fun e => decide (0 ≤ e))) = (inL n.pipes.length (fRaw n k ++ (s.ent.take j).filter (fun e => decide (0 ≤ e)))).set i true) := by
                rw [take_filter_yes (by omega) (by rw [hE]; exact hpos), hE, ← List.append_assoc, inL_set]; rfl
              have hil := inL_len n.pipes.length (fRaw n k ++ (s.ent.take j).filter (fun e => decide (0 ≤ e)))
              obtain ⟨o1, q2⟩ : ∃ o1, wr.cell? ⟨w.heap.size + 1, i, none⟩ = some o1 := ⟨_, hbb.cell i (by omega)⟩
              have u1 := hbb.frozen i
              have HSET := hid (hbb.set i true)
              have hiI : (i : Int) < n.pipes.length := by omega
              have KK : Hid (Kept (fun b => b = w.heap.size + 1) wr (wr.setCell ⟨w.heap.size + 1, i, none⟩ (.bool true))) := (Kept.refl (fun b => b = w.heap.size + 1) wr).setCell (p := ⟨w.heap.size + 1, i, none⟩) rfl _
              have zb := hbel.size
              clear hbb bx sc se hbel hec hE
              go_wp2_with fail
              go_roundw
              case rel => exact ⟨j + 1, by go_num, by omega, by rw [hz.out]; exact HSET.out, HX2.out.kept KK.out (by omega), SC2.out.kept KK.out (fun c _ h1 h2 => by omega), SE2.out.kept KK.out (fun c _ h1 h2 => by omega), HB2.out.trans (KK.out.below zb (fun c h => by omega)), by simp only [World.size_setCell]; omega⟩
              case measure => simp [intOf]; omega
            · have hz : Hid (fRaw n k ++ (s.ent.take (j + 1)).filter (fun e => decide (0 ≤ e)) = fRaw n k ++ (s.ent.take j).filter (fun e => decide (0 ≤ e))) := by
                rw [take_filter_no (by omega) (by rw [hE]; exact hpos)]; rfl
              clear hbb bx sc se hbel hec hE
              go_wp2_with fail
              go_roundw
              case rel => exact ⟨j + 1, by go_num, by omega, by rw [hz.out]; exact HBB2.out, HX2.out, SC2.out, SE2.out, HB2.out, hB1⟩
              case measure => simp [intOf]; omega
          · obtain rfl : j = n.nodes.length := by omega
            have hz : Hid (fRaw n (k + 1) = fRaw n k ++ (s.ent.take n.nodes.length).filter (fun e => decide (0 ≤ e))) := by
              rw [hS2.out, List.take_of_length_le (by omega)]; rfl
            have HBB2 := hid hbb
            have HX2 := hid bx
            have SC2 := hid sc
            have HB2 := hid hbel
            clear hbb bx sc se hbel
            go_wp2_with fail
            go_roundw
            case rel => exact ⟨k + 1, by go_num, by omega, by rw [hz.out]; exact HBB2.out, HX2.out, SC2.out, HB2.out, hB1⟩
            case measure => simp [intOf]; omega
      · have hbt : (C != (k : Int)) = true := by simp [hroot]
        have hS2 : Hid (fRaw n (k + 1) = fRaw n k) := by
          have : ¬ isRoot n k = true := by unfold isRoot; rw [hCg]; simpa using hroot
          have h2 := hS.out
          rw [if_neg this, List.append_nil] at h2
          exact h2
        clear hroot hCg
        go_wp2_with fail
        go_roundw
        case rel => exact ⟨k + 1, by go_num, by omega, by rw [hS2.out]; exact HBB.out, HX.out, SC.out, HB.out, hBs⟩
        case measure => simp [intOf]; omega
    · obtain rfl : k = n.nodes.length := by omega
      have HBB := hid hbb
      have HB := hid hbel
      have zb := hbel.size
      obtain ⟨WR, hWR⟩ : ∃ WR, WR = wr := ⟨_, rfl⟩
      clear hbb bx sc hbel
      go_wp2_with fail
      go_loopw [10, 9] (fun i s wr2 => G3Rel n w (w.heap.size + 2) i s wr2) (fun i _ _ => n.pipes.length - (intOf i).toNat)
      case atStart => exact ⟨0, rfl, by omega, OwnI.made _ _ _ (by omega), HBB.out.below (below_new _ _), HB.out.alloc HB.out.size _, by simp; omega⟩
      case round =>
        clear HBB HB
        obtain ⟨j, rfl, hj, ho, hbb, hbel, hB1⟩ := hrel
        have hfl := forTo_len n j
        have hil := inL_len n.pipes.length (fRaw n n.nodes.length)
        by_cases hjl : j < n.pipes.length
        · have q1 := hbb.cell j (by omega)
          rw [inL_get] at q1
          have hin : decide ((j : Int) ∈ fRaw n n.nodes.length) = inF n j := rfl
          rw [hin] at q1
          have hS := hid (forTo_succ n j)
          have hjI : (j : Int) < n.pipes.length := by omega
          have HO := hid ho
          have HBB := hid hbb
          have HB := hid hbel
          have hbl := hbb.lt
          clear ho hbb hbel hin
          cases hf : inF n j
          · rw [hf] at q1
            have hz : Hid (forTo n (j + 1) = forTo n j) := by have h2 := hS.out; rw [hf] at h2; exact (by simpa using h2 : forTo n (j + 1) = forTo n j)
            go_wp2_with fail
            go_roundw
            case rel => exact ⟨j + 1, by go_num, by omega, by rw [hz.out]; exact HO.out, HBB.out, HB.out, hB1⟩
            case measure => simp [intOf]; omega
          · rw [hf] at q1
            have hz : Hid (forTo n (j + 1) = forTo n j ++ [(j : Int)]) := by have h2 := hS.out; rw [hf] at h2; exact (by simpa using h2 : forTo n (j + 1) = forTo n j ++ [(j : Int)])
            go_wp2_with (at_builtin; refine wpList_app1 rfl (.tmp 63) (.tmp 65) rfl (w.heap.size + 2) u9 _ rfl (HO.out.alloc _) wr.heap.size (j : Int) rfl ?c1 ?c2 ?c3 ?_)
            case c1 => simp
            case c2 => omega
            case c3 => simp; omega
            intro v1 w5 hv1 hk1 hb1
            have hlo := HO.out.lt
            have kk : Kept (fun c => w.heap.size + 2 ≤ c) wr w5 := ((Kept.refl (fun c => w.heap.size + 2 ≤ c) wr).alloc (.cells #[.int .i64 j] 2)).trans (hk1.mono (fun c _ h => (hlo c h).1))
            have HBB5 := hid (HBB.out.kept kk (by omega))
            have HB5 := hid (HB.out.trans (kk.below HB.out.size (fun c h => by omega)))
            have HV := hid hv1
            have z5 := kk.size
            clear hv1 hk1 hb1 kk hlo
            go_wp2_with fail
            go_roundw
            case rel => exact ⟨j + 1, by go_num, by omega, by rw [hz.out]; exact HV.out, HBB5.out, HB5.out, by omega⟩
            case measure => simp [intOf]; omega
        · obtain rfl : j = n.pipes.length := by omega
          have HO := hid ho
          have HB := hid hbel
          obtain ⟨ra, rc, rfl, _⟩ := ho.shape
          clear ho hbb hbel
          go_wp2_with fail
          go_ret
          exact ⟨_, rfl, HO.out.lower (by omega), HB.out⟩

end Go.Proofs.Ytdapdaadglaoiaa
