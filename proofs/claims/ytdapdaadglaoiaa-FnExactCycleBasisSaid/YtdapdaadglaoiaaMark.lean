/- markText, markNetwork, heldNetwork. -/
import Derived.Test.YtdapdaadglaoiaaNetEx
import Derived.Laws.BytesArg
namespace Go.Proofs.Ytdapdaadglaoiaa
open Go.RowKit

def mtGo (k : Nat) (out : ByteArray) : ByteArray := if _h : k = 0 then out else mtGo (k / 10) (strOfNums [48 + (k : Int) % 10] ++ out)
termination_by k
decreasing_by omega
def mt (k : Nat) : ByteArray := ⟨#[109]⟩ ++ mtGo k ⟨#[]⟩
theorem mtGo_zero (out : ByteArray) : mtGo 0 out = out := by rw [mtGo]; simp
theorem mtGo_pos {k : Nat} (h : 0 < k) (out : ByteArray) : mtGo k out = mtGo (k / 10) (strOfNums [48 + (k : Int) % 10] ++ out) := by rw [mtGo, dif_neg (by omega)]

theorem strOne_size (z : Int) : (strOfNums [z]).size = 1 := rfl
theorem conv_one (W : World) (z : Int) : (convert 22 9 (.slice (some ⟨W.heap.size, 0, none⟩) 1 1)).run Try.prog (W.alloc (.cells #[.int .u8 z] 5)) = .ok (.string (strOfNums [z])) (W.alloc (.cells #[.int .u8 z] 5)) :=
  run_convert_bytes_arg _ 22 5 Try.underlying22 Try.underlying5 W.heap.size 0 1 1 [z] rfl (fun i hi => by
    obtain rfl : i = 0 := by omega
    rw [World.cell?_alloc_new]; rfl) 9 Try.underlying9
def MtRel (t : ByteArray) (W : World) (i s : Value) (wr : World) : Prop := ∃ (k : Nat) (out : ByteArray), i = .int .i64 k ∧ s = .string out ∧ k + out.size ≤ 1000000000 ∧ mtGo k out = t ∧ Below W.heap.size W wr

set_option maxRecDepth 100000 in
theorem markText_any (k : Nat) (w : World) (h : 1 ≤ k) (h1 : k ≤ 1000000000) :
    Calls Try.prog 163 #[.int .i64 k] w fun e w' => e = .returned (.string (mt k)) ∧ Below w.heap.size w w' := by
  obtain ⟨t, ht⟩ : ∃ t, mtGo k ⟨#[]⟩ = t := ⟨_, rfl⟩
  have hm : Hid (mt k = ⟨#[109]⟩ ++ t) := by rw [← ht]; rfl
  have HT := hid ht
  clear ht
  go_enter Try.func163, Try.ntmps163
  go_wp2_with fail
  go_loopw [0, 3] (fun i s wr => MtRel t w i s wr) (fun i _ _ => (intOf i).toNat)
  case atStart => exact ⟨k, _, rfl, rfl, by simpa [ByteArray.size] using h1, HT.out, Below.refl _ _⟩
  case round =>
    obtain ⟨j, out, rfl, rfl, hj, hgo, hbel⟩ := hrel
    have HG := hid hgo
    have HB := hid hbel
    clear hgo hbel
    by_cases hp : 0 < j
    case neg =>
      have h0 : ¬ (0 < (j : Int)) := by omega
      have ho : out = t := by
        have := HG.out
        rw [(by omega : j = 0), mtGo_zero] at this; exact this
      subst ho
      have hq : (out.size : Int) ≤ 1000000000 := by omega
      go_wp2_with fail
      go_ret
      exact ⟨by rw [hm.out]; rfl, HB.out⟩
    have h0 : 0 < (j : Int) := by omega
    have hq : (out.size : Int) ≤ 1000000000 := by omega
    have hcv := conv_one wr (48 + (j : Int) % 10)
    have hs1 := strOne_size (48 + (j : Int) % 10)
    go_wp2_with fail
    go_roundw
    case rel =>
      refine ⟨j / 10, strOfNums [48 + (j : Int) % 10] ++ out, by go_num, rfl, ?_, ?_, HB.out.alloc HB.out.size _⟩
      · rw [ByteArray.size_append, hs1]; omega
      · rw [← mtGo_pos hp]; exact HG.out
    case measure => simp [intOf]; omega

/-- What markNodeS and markPipeS write into element i. -/
def mkN (z i : Nat) : Nd := ⟨mt (z + 3 * i), (z : Int) + 3 * i + 1, (z : Int) + 3 * i + 2⟩
def mkP (z i : Nat) : Pp := ⟨(z : Int) + 5 * i, (z : Int) + 5 * i + 1, (z : Int) + 5 * i + 2, (z : Int) + 5 * i + 3, (z : Int) + 5 * i + 4⟩
theorem mk_set {α : Type} (f : Nat → α) (xs : List α) (j : Nat) (h : j < xs.length) : ((List.range j).map f ++ xs.drop j).set j (f j) = (List.range (j + 1)).map f ++ xs.drop (j + 1) := by
  apply List.ext_getElem
  · simp; omega
  · intro i h1 h2
    simp only [List.getElem_set, List.getElem_append, List.length_map, List.length_range, List.getElem_map, List.getElem_range, List.getElem_drop]
    by_cases e : j = i
    · subst e; rw [if_pos rfl, dif_pos (by omega)]
    · rw [if_neg e]
      by_cases e2 : i < j
      · rw [dif_pos e2, dif_pos (by omega)]
      · rw [dif_neg e2, dif_neg (by omega)]
        congr 1; omega
def MkNRel (X : Nat → Prop) (xs : List Nd) (z : Nat) (v : Value) (W : World) (i k : Value) (wr : World) : Prop :=
  ∃ j q : Nat, i = .int .i64 j ∧ k = .int .i64 q ∧ q = z + 3 * j ∧ j ≤ xs.length ∧ RowsOwn encN 3 X wr v ((List.range j).map (mkN z) ++ xs.drop j) ∧ Kept X W wr

set_option maxHeartbeats 400000 in
theorem markNodeS_any (X : Nat → Prop) (v : Value) (xs : List Nd) (z : Nat) (w : World) (h : RowsOwn encN 3 X w v xs) (hz : 1 ≤ z) (hlen : z + 3 * xs.length ≤ 100000000) :
    Calls Try.prog 118 #[v, .int .i64 z] w fun e w' => e = .returned (.int .i64 ((z + 3 * xs.length : Nat) : Int)) ∧ RowsOwn encN 3 X w' v ((List.range xs.length).map (mkN z)) ∧ Kept X w w' := by
  have HR := hid h
  obtain ⟨_, a, cap, rfl, hc⟩ := h
  clear hc
  go_enter Try.func118, Try.ntmps118
  go_wp2_with fail
  go_loopw [5, 1] (fun i k wr => MkNRel X xs z (.slice a xs.length cap) w i k wr) (fun i _ _ => xs.length - (intOf i).toNat)
  case atStart => exact ⟨0, z, rfl, rfl, by omega, by omega, by simpa using HR.out, Kept.refl _ _⟩
  case round =>
    obtain ⟨j, q, rfl, rfl, hq, hj, hown, hkept⟩ := hrel
    by_cases hlt : j < xs.length
    · have hl : ((List.range j).map (mkN z) ++ xs.drop j).length = xs.length := by simp; omega
      have HK := hid hkept
      have HQ := hid hq
      have q1 : 1 ≤ q := by omega
      have q2 : q ≤ 100000000 := by omega
      clear hkept hq
      go_wp2_with fail
      refine (markText_any q _ q1 (by omega)).mono ?_
      rintro e w1 ⟨rfl, b1⟩
      have hown1 := hown.below b1
      obtain ⟨g, goff, rfl, hgl, hX, hfr, hgc⟩ := hown1.at' (by omega)
      obtain ⟨d0, d1, d2⟩ := cellsN (hgc j (by omega))
      have f0 := hfr (goff + j * 3)
      obtain ⟨o0, e0⟩ : ∃ o, w1.cell? ⟨g, goff + j * 3, none⟩ = some o := ⟨_, d0⟩
      have f1 := hfr (goff + j * 3 + 1)
      obtain ⟨o1, e1⟩ : ∃ o, w1.cell? ⟨g, goff + j * 3 + 1, none⟩ = some o := ⟨_, d1⟩
      have f2 := hfr (goff + j * 3 + 2)
      obtain ⟨o2, e2⟩ : ∃ o, w1.cell? ⟨g, goff + j * 3 + 2, none⟩ = some o := ⟨_, d2⟩
      have hmq : mkN z j = ⟨mt q, (q : Int) + 1, (q : Int) + 2⟩ := by have := HQ.out; subst this; simp [mkN]
      have HSET := hid (hown1.setN j (by omega) (mkN z j))
      have HK1 := hid (HK.out.trans (Kept.of_below (X := X) b1))
      have HL := hid (mk_set (mkN z) xs j hlt)
      rw [hmq] at HSET
      have HM := hid hmq
      clear d0 d1 d2 hown hown1 hfr hgc b1 HK hl hmq
      go_wp2_with fail
      go_roundw
      case rel =>
        refine ⟨j + 1, q + 3, by go_num, by go_num, by rw [HQ.out]; omega, by omega, ?_, ?_⟩
        · rw [← HL.out, HM.out]; exact HSET.out
        · exact ((HK1.out.setCell (p := ⟨g, _, none⟩) hX _).setCell (p := ⟨g, _, none⟩) hX _).setCell (p := ⟨g, _, none⟩) hX _
      case measure => simp [intOf]; omega
    · obtain rfl : j = xs.length := by omega
      have HO : Hid (RowsOwn encN 3 X wr (.slice a xs.length cap) ((List.range xs.length).map (mkN z))) := by
        rw [List.drop_of_length_le (Nat.le_refl _), List.append_nil] at hown
        exact hown
      have HK := hid hkept
      have hq' := hid hq
      clear hown hkept hq
      go_wp2_with fail
      go_ret
      exact ⟨by rw [← hq'.out]; rfl, HO.out, HK.out⟩

def MkPRel (X : Nat → Prop) (xs : List Pp) (z : Nat) (v : Value) (W : World) (i k : Value) (wr : World) : Prop :=
  ∃ j q : Nat, i = .int .i64 j ∧ k = .int .i64 q ∧ q = z + 5 * j ∧ j ≤ xs.length ∧ RowsOwn encP 5 X wr v ((List.range j).map (mkP z) ++ xs.drop j) ∧ Kept X W wr

set_option maxHeartbeats 400000 in
theorem markPipeS_any (X : Nat → Prop) (v : Value) (xs : List Pp) (z : Nat) (w : World) (h : RowsOwn encP 5 X w v xs) (hz : 1 ≤ z) (hlen : z + 5 * xs.length ≤ 100000000) :
    Calls Try.prog 119 #[v, .int .i64 z] w fun e w' => e = .returned (.int .i64 ((z + 5 * xs.length : Nat) : Int)) ∧ RowsOwn encP 5 X w' v ((List.range xs.length).map (mkP z)) ∧ Kept X w w' := by
  have HR := hid h
  obtain ⟨_, a, cap, rfl, hc⟩ := h
  clear hc
  go_enter Try.func119, Try.ntmps119
  go_wp2_with fail
  go_loopw [5, 1] (fun i k wr => MkPRel X xs z (.slice a xs.length cap) w i k wr) (fun i _ _ => xs.length - (intOf i).toNat)
  case atStart => exact ⟨0, z, rfl, rfl, by omega, by omega, by simpa using HR.out, Kept.refl _ _⟩
  case round =>
    obtain ⟨j, q, rfl, rfl, hq, hj, hown, hkept⟩ := hrel
    by_cases hlt : j < xs.length
    · have hl : ((List.range j).map (mkP z) ++ xs.drop j).length = xs.length := by simp; omega
      have HK := hid hkept
      have HQ := hid hq
      have q1 : 1 ≤ q := by omega
      have q2 : q ≤ 100000000 := by omega
      clear hkept hq
      obtain ⟨g, goff, rfl, hgl, hX, hfr, hgc⟩ := hown.at' (by omega)
      obtain ⟨d0, d1, d2, d3, d4⟩ := cellsP (hgc j (by omega))
      have f0 := hfr (goff + j * 5)
      obtain ⟨o0, e0⟩ : ∃ o, wr.cell? ⟨g, goff + j * 5, none⟩ = some o := ⟨_, d0⟩
      have f1 := hfr (goff + j * 5 + 1)
      obtain ⟨o1, e1⟩ : ∃ o, wr.cell? ⟨g, goff + j * 5 + 1, none⟩ = some o := ⟨_, d1⟩
      have f2 := hfr (goff + j * 5 + 2)
      obtain ⟨o2, e2⟩ : ∃ o, wr.cell? ⟨g, goff + j * 5 + 2, none⟩ = some o := ⟨_, d2⟩
      have f3 := hfr (goff + j * 5 + 3)
      obtain ⟨o3, e3⟩ : ∃ o, wr.cell? ⟨g, goff + j * 5 + 3, none⟩ = some o := ⟨_, d3⟩
      have f4 := hfr (goff + j * 5 + 4)
      obtain ⟨o4, e4⟩ : ∃ o, wr.cell? ⟨g, goff + j * 5 + 4, none⟩ = some o := ⟨_, d4⟩
      have hmq : mkP z j = ⟨(q : Int), (q : Int) + 1, (q : Int) + 2, (q : Int) + 3, (q : Int) + 4⟩ := by have := HQ.out; subst this; simp [mkP]
      have HSET := hid (hown.setP j (by omega) (mkP z j))
      have HL := hid (mk_set (mkP z) xs j hlt)
      rw [hmq] at HSET
      have HM := hid hmq
      clear d0 d1 d2 d3 d4 hown hfr hgc hl hmq
      go_wp2_with fail
      go_roundw
      case rel =>
        refine ⟨j + 1, q + 5, by go_num, by go_num, by rw [HQ.out]; omega, by omega, ?_, ?_⟩
        · rw [← HL.out, HM.out]; exact HSET.out
        · exact ((((HK.out.setCell (p := ⟨g, _, none⟩) hX _).setCell (p := ⟨g, _, none⟩) hX _).setCell (p := ⟨g, _, none⟩) hX _).setCell (p := ⟨g, _, none⟩) hX _).setCell (p := ⟨g, _, none⟩) hX _
      case measure => simp [intOf]; omega
    · obtain rfl : j = xs.length := by omega
      have HO : Hid (RowsOwn encP 5 X wr (.slice a xs.length cap) ((List.range xs.length).map (mkP z))) := by
        rw [List.drop_of_length_le (Nat.le_refl _), List.append_nil] at hown
        exact hown
      have HK := hid hkept
      have hq' := hid hq
      clear hown hkept hq
      go_wp2_with fail
      go_ret
      exact ⟨by rw [← hq'.out]; rfl, HO.out, HK.out⟩


def mkNet (z : Nat) (n : Net) : Net := ⟨(List.range n.nodes.length).map (mkN z), (List.range n.pipes.length).map (mkP (z + 3 * n.nodes.length))⟩
def mkEnd (z : Nat) (n : Net) : Nat := z + 3 * n.nodes.length + 5 * n.pipes.length

set_option maxHeartbeats 400000 in
theorem markNetwork_any (lo hi : Nat) (nv pv : Value) (n : Net) (z : Nat) (w : World) (h : NetSep lo hi w nv pv n) (hhi : hi ≤ w.heap.size) (hz : 1 ≤ z) (hl1 : n.nodes.length ≤ 2000000) (hl2 : n.pipes.length ≤ 2000000) (hz2 : z ≤ 20000000) :
    Calls Try.prog 36 #[.agg #[nv, pv], .int .i64 z] w fun e w' => e = .returned (.int .i64 (mkEnd z n : Nat)) ∧ Kept (fun b => lo ≤ b ∧ b < hi) w w' := by
  obtain ⟨m, h1, h2, h3, h4, h5⟩ := h
  obtain ⟨a0, k0, rfl⟩ := h3.at.shape
  obtain ⟨a1, k1, rfl⟩ := h5.at.shape
  have hWb := below_new w (.cells #[.slice a0 n.nodes.length k0, .slice a1 n.pipes.length k1] 27)
  have hbx := Box.new w #[.slice a0 n.nodes.length k0, .slice a1 n.pipes.length k1] 27
  have h3 := h3.below hWb
  have h5 := h5.below hWb
  go_enter Try.func36, Try.ntmps36
  go_wp2_with fail
  refine (markNodeS_any _ _ n.nodes z _ h3 hz (by omega)).mono ?_
  rintro e w1 ⟨rfl, r1, hk1⟩
  have bx1 := hbx.kept hk1 (by omega)
  have h5 := h5.kept hk1 (fun b _ hb hb' => by omega)
  obtain ⟨c0, c1⟩ := bx1.two
  obtain ⟨z1, hz1⟩ : ∃ z1, z1 = z + 3 * n.nodes.length := ⟨_, rfl⟩
  rw [← hz1]
  have HZ := hid hz1
  have HK1 := hid ((Kept.of_below (X := fun b => lo ≤ b ∧ b < hi) hWb).trans (hk1.mono (fun b _ hb => ⟨hb.1, by omega⟩)))
  have hz1' : 1 ≤ z1 := by omega
  have hz2' : z1 + 5 * n.pipes.length ≤ 100000000 := by omega
  clear hk1 hWb hbx bx1 h3 r1 hz1
  go_wp2_with fail
  refine (markPipeS_any _ _ n.pipes z1 _ h5 hz1' hz2').mono ?_
  rintro e w2 ⟨rfl, r2, hk2⟩
  have HK2 := hid (HK1.out.trans (hk2.mono (fun b _ hb => ⟨by omega, hb.2⟩)))
  have hE : Hid (z1 + 5 * n.pipes.length = mkEnd z n) := by rw [HZ.out]; rfl
  clear hk2 r2 h5
  go_wp2_with fail
  go_ret
  exact ⟨by rw [← hE.out]; rfl, HK2.out⟩

end Go.Proofs.Ytdapdaadglaoiaa
