/- ReadNetwork of the reference. -/
import Derived.Test.YtdbgncinaacheaaDoorRn0
import Derived.Test.YtdbgncinaacheaaDoorNtx
namespace Go.Proofs.YtdbgncinaacheaaDoor
open Go.RowKit
open Go.Lib hiding intOf

/-- What l03Read reads: nodes and pipes, or nothing. -/
noncomputable def l3 (s : Txt) : Option Net := (foldO stepS ([], []) (lnL s)).map (fun t => ⟨t.1, t.2⟩)
theorem l3_no {s : Txt} {st : St} (k : Nat) (hk : k < (lnL s).length) (h : foldO stepS ([], []) ((lnL s).take k) = some st) (h2 : stepS st (lnL s)[k] = none) : l3 s = none := by
  rw [l3, foldO_no k hk h h2]; rfl
theorem rdNetS_l3 (s : Txt) : rdNetS s = match l3 s with | some n => if netB n = true ∧ netTx n = s then some n else none | none => none := by
  unfold rdNetS l3
  cases foldO stepS ([], []) (lnL s) <;> rfl
/-- What l03Read returns: as a reader of networks, its network may be great. -/
def OutL (w : World) (r : Option Net) (e : Ending) (w' : World) : Prop :=
  ∃ nv pv, e = .returned (.tuple #[.agg #[nv, pv], .bool r.isSome]) ∧ NetApart w.heap.size w'.heap.size w' nv pv (r.getD zNet') ∧ (CapOk nv ∧ CapOk pv) ∧ Below w.heap.size w w'
theorem OutL.none {w w' : World} {r : Option Net} (hr : r = .none) (hB : Below w.heap.size w w') : OutL w r (.returned (.tuple #[.agg #[.slice .none 0 0, .slice .none 0 0], .bool false])) w' := by
  subst hr
  exact ⟨_, _, rfl, NetApart.zero' _ _ _, ⟨CapOk.mk (Nat.le_refl _), CapOk.mk (Nat.le_refl _)⟩, hB⟩
/-- The rounds of l03Read: the nodes and the pipes lie in variables. -/
def SdRel (L : List Txt) (w1 : World) (nv pv i : Value) (wr : World) : Prop :=
  ∃ (k : Nat) (ns : List Nd) (ps : List Pp), i = .int .i64 k ∧ k ≤ L.length ∧ foldO stepS ([], []) (L.take k) = some (ns, ps) ∧ ns.length + ps.length ≤ k ∧ Drn w1.heap.size wr nv pv ⟨ns, ps⟩ ∧ Below w1.heap.size w1 wr

set_option maxHeartbeats 4000000 in
set_option maxRecDepth 100000 in
theorem l03Read_any (s : ByteArray) (w : World) (hs : s.size ≤ 2000000) :
    Calls Tryd.prog 44 #[.string s] w fun e w' => OutL w (l3 s.data.toList) e w' := by
  obtain ⟨L, hL⟩ : ∃ L, lnL s.data.toList = L := ⟨_, rfl⟩
  obtain ⟨R, hR⟩ : ∃ R, lnR s.data.toList = R := ⟨_, rfl⟩
  obtain ⟨W0, hW0⟩ : ∃ W0, W0 = w.alloc (.cells #[.slice none 0 0, .slice none 0 0] 25) := ⟨_, rfl⟩
  have hB0 : Below w.heap.size w W0 := by rw [hW0]; exact below_new w _
  have hX0 : Two W0 w.heap.size (.slice none 0 0) (.slice none 0 0) := by rw [hW0]; exact Two.new w _ _ _
  have C := l01Split_any s 10 W0 (by omega)
  have HLL : Hid (L.length ≤ 2000001 ∧ ∀ l ∈ L, l.length ≤ 2000000) := by
    have h1 := pieces_len 10 s.data.toList
    have h2 := piece_le 10 s.data.toList
    rw [ln_eq, data_len] at h1
    rw [ln_eq, hL, data_len] at h2
    rw [hL] at h1
    simp at h1
    exact ⟨by omega, fun l hl => by have := h2 l (List.mem_append_left _ hl); omega⟩
  rw [ln_eq, hL, hR] at C
  go_enter Tryd.func44, Tryd.ntmps44
  go_wp2_with fail
  rw [← hW0]
  clear hW0
  refine C.mono ?_
  rintro e w1 ⟨v, rfl, hown, b1⟩
  obtain ⟨h1, hcap⟩ := hown.rows lenS (by have := HLL.out.1; simp; omega)
  obtain ⟨la, lc, rfl⟩ := h1.at.shape
  have hrow := h1.at
  have hlen : ((L ++ [R]).map tb).length = L.length + 1 := by simp
  rw [hlen] at hrow hcap ⊢
  have z0 : w.heap.size < W0.heap.size := hX0.lt
  have HZ1 : Hid (w.heap.size < w1.heap.size) := Nat.lt_of_lt_of_le z0 b1.size
  -- the block of the variable 'out'
  have b1' := b1.trans ((below_new w1 (.cells #[.slice none 0 0, .slice none 0 0] 25)).mono b1.size)
  obtain ⟨w2, hw2⟩ : ∃ w2, w2 = w1.alloc (.cells #[.slice none 0 0, .slice none 0 0] 25) := ⟨_, rfl⟩
  have HO2 : Hid (Two w2 w1.heap.size (.slice none 0 0) (.slice none 0 0)) := by rw [hw2]; exact Two.new w1 _ _ _
  have HZ2 : Hid (w2.heap.size = w1.heap.size + 1) := by rw [Hid, hw2]; simp
  rw [← hw2] at b1'
  have HX2 := hid (hX0.below b1' z0)
  have HB2 := hid (hB0.trans (b1'.mono hB0.size))
  have HR2 := hid (hrow.below (show Below w1.heap.size w1 w2 by rw [hw2]; exact below_new w1 _))
  have HLN : Hid ((L.length : Int) ≤ 2000001) := by have := HLL.out.1; rw [Hid]; omega
  have z2 : w1.heap.size < w2.heap.size := HO2.out.lt
  clear C hrow hcap b1 b1' hX0 hB0 z0 h1 hown
  go_wp2_with fail
  rw [← hw2]
  have Hw2 := hid hw2
  clear hw2
  go_wp2_with fail
  go_loopw [6, 7, 8] (fun nv pv i wr => SdRel L w2 nv pv i wr) (fun _ _ i _ => L.length - (intOf i).toNat)
  case atStart =>
    have hz2 := HZ2.out
    refine ⟨0, [], [], rfl, by omega, rfl, by simp, ⟨OwnR.lit encN 3 ?_ ?_, OwnR.lit encP 5 ?_ ?_, fun b hb => ?_, by simp⟩, (below_new _ _).trans ((below_new _ _).mono (by simp))⟩
    · exact (Below.heap_alloc _ _ _ (by simp; omega)).trans (heap_at2 _ _ _ hz2.symm)
    · omega
    · exact heap_at2 _ _ _ (by simp; omega)
    · omega
    · simp [Value.ownBlock] at hb ⊢; omega
  case round =>
    obtain ⟨k, ns, ps, rfl, hk, hf, hlen, hd, hbel⟩ := hrel
    have HF := hid hf
    have HD := hid hd
    have HBL := hid hbel
    have hlk : k ≤ 2000001 := by have := HLL.out.1; omega
    have HX := hid (HX2.out.below hbel (Nat.lt_trans HZ1.out z2))
    have HO := hid (HO2.out.below hbel z2)
    have HBW := hid (HB2.out.trans (hbel.mono HB2.out.size))
    have z1 : w.heap.size < w2.heap.size := Nat.lt_trans HZ1.out z2
    have z3 : w2.heap.size ≤ wr.heap.size := hbel.size
    clear hf hd hbel
    obtain ⟨an, cn, hnv, _⟩ := HD.out.hn.shape lenN
    obtain ⟨ap, cp, hpv, _⟩ := HD.out.hp.shape lenP
    subst hnv hpv
    obtain ⟨r0, r1, g0, g1⟩ := HX.out
    obtain ⟨o0, o1, _, _⟩ := HO.out
    by_cases hlt : k < L.length
    case neg =>
      obtain rfl : k = L.length := by omega
      have HFL : Hid (foldO stepS ([], []) L = some (ns, ps)) := by have := HF.out; rw [List.take_length] at this; exact this
      have HN : Hid (l3 s.data.toList = some ⟨ns, ps⟩) := by rw [Hid, l3, hL, HFL.out]; rfl
      clear HF HFL
      go_wp2_with fail
      obtain ⟨Wf, hWf, ⟨e0, e1, _, _⟩, hb, hkf⟩ := two_end HX.out HBW.out (Nat.le_refl _) (.slice an ns.length cn) (.slice ap ps.length cp)
      rw [hWf]
      refine bodyPost_ret (v := .tuple #[.agg #[.slice an ns.length cn, .slice ap ps.length cp], .bool true]) (by simp [results, Tryd.results44, go_sem, e0, e1]) rfl ?_
      rw [HN.out]
      have HDf := HD.out.kept hkf (fun b hb => by omega)
      obtain ⟨na, q1, q2⟩ := HDf.apart2 (by simp only; omega) (by simp only; omega)
      exact ⟨_, _, rfl, na.widen (by omega) (Nat.le_refl _), ⟨q1, q2⟩, hb⟩
    have hltI : (k : Int) + 1 < (L.length : Int) + 1 := by omega
    obtain ⟨lb, lo, rfl, hlb, hcc⟩ := HR2.out.strs (by simp)
    have c0 := hcc k (by simp; omega)
    have e0 : ((L ++ [R]).map tb)[k]'(by simp; omega) = tb L[k] := by rw [List.getElem_map, List.getElem_append_left hlt]
    rw [e0] at c0
    have c0 := (HBL.out.cell (p := ⟨lb, lo + k, none⟩) hlb).trans c0
    have hll := HLL.out.2 L[k] (List.getElem_mem hlt)
    have CS := l01Split_any (tb L[k]) 32 wr (by rw [tb_size]; omega)
    rw [tb_data] at CS
    have hpl := pieces_len 32 L[k]
    obtain ⟨W, hW⟩ : ∃ W, pieces 32 L[k] = W := ⟨_, rfl⟩
    rw [hW] at CS hpl
    obtain ⟨m, hm⟩ : ∃ m, W.length = m := ⟨_, rfl⟩
    have HP : Hid (pieces 32 L[k] = W) := hW
    have HPL : Hid (∀ p ∈ W, p.length ≤ 2000000) := fun p hp => by have := piece_le 32 L[k] p (by rw [hW]; exact hp); omega
    have hm2 : m ≤ 2000001 := by omega
    have hlbr : lb < wr.heap.size := Nat.lt_of_lt_of_le hlb z3
    clear hcc hpl hW e0
    go_wp2_with fail
    refine CS.mono ?_
    rintro e w3 ⟨v, rfl, hown, b3⟩
    obtain ⟨hro, hcap⟩ := hown.rows lenS (by simp; omega)
    obtain ⟨va, vc, rfl⟩ := hro.at.shape
    rw [List.length_map, hm] at hro hcap ⊢
    have hcap := hcap.le
    have HW3 := hid (hro.mono (Y := fun b => wr.heap.size ≤ b) (fun b _ hb => hb.2.1))
    have HB3 := hid (HBL.out.trans (b3.mono HBL.out.size))
    have HD3 := hid (HD.out.below b3)
    have HX3 := hid (HX.out.below b3 (by omega))
    have HO3 := hid (HO.out.below b3 (by omega))
    have HBW3 := hid (HBW.out.trans (b3.mono HBW.out.size))
    have hcL := (b3.cell (p := ⟨lb, lo + k, none⟩) hlbr).trans c0
    have z4 : wr.heap.size ≤ w3.heap.size := b3.size
    have hlb3 : lb < w3.heap.size := Nat.lt_of_lt_of_le hlbr z4
    clear CS hown hro b3 c0 r0 r1 g0 g1 o0 o1 HX HO HBW
    obtain ⟨r0, r1, g0, g1⟩ := HX3.out
    obtain ⟨o0, o1, _, _⟩ := HO3.out
    have DEF : Hid (∀ W : World, stepS (ns, ps) L[k] = none → Below w.heap.size w W → OutL w (l3 s.data.toList) (.returned (.tuple #[.agg #[.slice none 0 0, .slice none 0 0], .bool false])) W) := fun W h hB =>
      OutL.none (l3_no k (by rw [hL]; exact hlt) (by rw [hL]; exact HF.out) (by simp only [hL]; exact h)) hB
    by_cases h4 : m = 4
    · subst h4
      have HST : Hid (stepS (ns, ps) L[k] = addNd (ns, ps) L[k]) := by rw [Hid, stepS, if_pos (by rw [HP.out, hm])]
      have CN := spec_ReadNodeLine_any (tb L[k]) w3 (by rw [tb_size]; omega)
      rw [tb_data] at CN
      obtain ⟨y, hy⟩ : ∃ y, (rdNode L[k]).getD zN = y := ⟨_, rfl⟩
      simp only [rnV, hy] at CN
      cases hr : rdNode L[k] with
      | none =>
        have HN : Hid (stepS (ns, ps) L[k] = none) := by rw [Hid, HST.out, addNd, hr]; rfl
        rw [hr] at CN
        simp only [Option.isSome_none] at CN
        clear hr hy HST hm
        go_wp2_with fail
        refine CN.mono ?_
        rintro e w4 ⟨rfl, b4⟩
        have b5 := b4.trans ((below_new w4 (.cells #[.string y.name, .int .i64 y.low, .int .i64 y.high] 37)).mono b4.size)
        have HX4 := hid (HX3.out.below b5 (by omega))
        have HBW4 := hid (HBW3.out.trans (b5.mono HBW3.out.size))
        have HO4 := hid (HO3.out.below b4 (by omega))
        have z5 : w1.heap.size < w4.heap.size := by have := b4.size; omega
        clear b4 b5 CN r0 r1 g0 g1 o0 o1 hcL
        obtain ⟨r0, r1, g0, g1⟩ := HX4.out
        obtain ⟨o0, o1, _, _⟩ := HO4.out
        go_wp2_with fail
        obtain ⟨Wf, hWf, ⟨e0, e1, _, _⟩, hb, _⟩ := two_end HX4.out HBW4.out (Nat.le_refl _) (.slice none 0 0) (.slice none 0 0)
        rw [hWf]
        exact bodyPost_ret (v := .tuple #[.agg #[.slice none 0 0, .slice none 0 0], .bool false]) (by simp [results, Tryd.results44, go_sem, e0, e1]) rfl (DEF.out _ HN.out hb)
      | some x =>
        rw [hr] at CN hy
        obtain rfl : x = y := by simpa using hy
        simp only [Option.isSome_some] at CN
        have HNX : Hid (stepS (ns, ps) L[k] = some (ns ++ [x], ps)) := by rw [Hid, HST.out, addNd, hr]; rfl
        have hxB := (rdNode_t hr).1
        have hx8 := (nameB_sz (nodeB_parts hxB).1).2
        clear hr hy HST hxB hm
        go_wp2_with fail
        refine CN.mono ?_
        rintro e w4 ⟨rfl, b4⟩
        have b5 := b4.trans ((below_new w4 (.cells #[.string x.name, .int .i64 x.low, .int .i64 x.high] 37)).mono b4.size)
        have HD5 := hid (HD3.out.below b5)
        have HB5 := hid (HB3.out.trans (b5.mono HB3.out.size))
        have z5 : w2.heap.size ≤ w4.heap.size := by have := b4.size; omega
        clear b4 b5 CN r0 r1 g0 g1 o0 o1 hcL
        go_wp2_with (at_builtin; refine wpList_appN rfl (.tmp 45) (.tmp 47) rfl w2.heap.size (.slice an ns.length cn) (.slice (some ⟨w4.heap.size + 1, 0, none⟩) 1 1) ns [x] rfl rfl ?c1 ?c2 ?c3 ?c4 ?_)
        case c1 => exact HD5.out.hn.below (below_new _ _)
        case c2 =>
          have := rows_one (sz := 3) (Blk.new (w4.alloc (.cells #[.string x.name, .int .i64 x.low, .int .i64 x.high] 37)) (encN x).toArray 37)
          rw [(by simp : (w4.alloc (.cells #[.string x.name, .int .i64 x.low, .int .i64 x.high] 37)).heap.size = w4.heap.size + 1)] at this
          exact this
        case c3 => simp; omega
        case c4 => simp; omega
        intro v6 w6 h6 k6 b6
        have hlo := HD5.out.hn.lt
        have HD6 := hid (HD5.out.addN (by omega) h6 k6 (by simpa using b6))
        have k56 := (Kept.of_below (X := fun b => w2.heap.size ≤ b) (below_new _ (.cells (encN x).toArray 37))).trans (k6.mono (fun b _ hb => (hlo b hb).1))
        have HB6 := hid (HB5.out.trans (k56.below (B := w2.heap.size) (by have := HB5.out.size; omega) (fun b hb => hb)))
        clear h6 k6 b6 k56 hlo
        go_wp2_with fail
        go_roundw
        case rel =>
          refine ⟨k + 1, ns ++ [x], ps, by go_num, by omega, ?_, by simp at hlen ⊢; omega, HD6.out, HB6.out⟩
          rw [foldO_step k hlt HF.out, HNX.out]
        case measure => simp [intOf]; omega
    have d4 : ((m : Int) == 4) = false := beq_false_of_ne (by omega)
    by_cases h6 : m = 6
    case neg =>
      have HN : Hid (stepS (ns, ps) L[k] = none) := by rw [Hid, stepS, HP.out, if_neg (by omega), if_neg (by omega)]
      have d6 : ((m : Int) != 6) = true := by rw [bne_iff_ne]; omega
      go_wp2_with fail
      obtain ⟨Wf, hWf, ⟨e0, e1, _, _⟩, hb, _⟩ := two_end HX3.out HBW3.out (Nat.le_refl _) (.slice none 0 0) (.slice none 0 0)
      rw [hWf]
      exact bodyPost_ret (v := .tuple #[.agg #[.slice none 0 0, .slice none 0 0], .bool false]) (by simp [results, Tryd.results44, go_sem, e0, e1]) rfl (DEF.out _ HN.out hb)
    subst h6
    obtain ⟨a, b, c, d, e5, f, hw⟩ := six hm
    subst hw
    obtain ⟨wb, wo, rfl, hwl, hwx, _, hwc0⟩ := HW3.out.at' (by simp)
    have hwc : ∀ i (hi : i < 6), w3.cell? ⟨wb, wo + i, none⟩ = some (.string (([a, b, c, d, e5, f].map tb)[i]'(by simpa using hi))) := fun i hi => by
      have := hwc0 i (by simpa using hi) 0 (by simp [encS])
      simpa [encS] using this
    have q1 : w3.cell? ⟨wb, wo + 1, none⟩ = some (.string (tb b)) := hwc 1 (by omega)
    have q2 : w3.cell? ⟨wb, wo + 2, none⟩ = some (.string (tb c)) := hwc 2 (by omega)
    have q3 : w3.cell? ⟨wb, wo + 3, none⟩ = some (.string (tb d)) := hwc 3 (by omega)
    have q4 : w3.cell? ⟨wb, wo + 4, none⟩ = some (.string (tb e5)) := hwc 4 (by omega)
    have q5 : w3.cell? ⟨wb, wo + 5, none⟩ = some (.string (tb f)) := hwc 5 (by omega)
    have R3 : RowsAt encS 1 w3 (.slice (some ⟨wb, wo + 3, none⟩) 3 (vc - 3)) ([d, e5, f].map tb) := strs_mk (off := wo + 3) hwl (by simp) (fun i hi => by
      match i, hi with
      | 0, _ => exact q3
      | 1, _ => exact q4
      | 2, _ => exact q5
      | i + 3, h => simp at h; omega)
    have CN := l03Numbers_any _ [d, e5, f] w3 R3 (fun l hl => by have := HPL.out l (by simp at hl ⊢; rcases hl with rfl | rfl | rfl <;> simp); omega) (by simp)
    have HST : Hid (stepS (ns, ps) L[k] = addPp numS (ns, ps) L[k]) := by rw [Hid, stepS, HP.out, if_neg (by simp), if_pos (by simp)]
    clear q3 q4 q5 R3 hwc hwc0 hm
    cases hnum : numsBy numS [d, e5, f] with
    | none =>
      have HN : Hid (stepS (ns, ps) L[k] = none) := by rw [Hid, HST.out, addPp, HP.out]; simp [hnum]
      rw [hnum] at CN
      simp only [Option.isSome_none, Option.getD_none] at CN
      clear HST hnum
      go_wp2_with fail
      refine CN.mono ?_
      rintro e w4 ⟨r, rfl, _, b4⟩
      have HX4 := hid (HX3.out.below b4 (by omega))
      have HBW4 := hid (HBW3.out.trans (b4.mono HBW3.out.size))
      have HO4 := hid (HO3.out.below b4 (by omega))
      clear b4 CN r0 r1 g0 g1 o0 o1 hcL
      obtain ⟨r0, r1, g0, g1⟩ := HX4.out
      obtain ⟨o0, o1, _, _⟩ := HO4.out
      go_wp2_with fail
      obtain ⟨Wf, hWf, ⟨e0, e1, _, _⟩, hb, _⟩ := two_end HX4.out HBW4.out (Nat.le_refl _) (.slice none 0 0) (.slice none 0 0)
      rw [hWf]
      exact bodyPost_ret (v := .tuple #[.agg #[.slice none 0 0, .slice none 0 0], .bool false]) (by simp [results, Tryd.results44, go_sem, e0, e1]) rfl (DEF.out _ HN.out hb)
    | some zs =>
      obtain ⟨x, y, z, hz⟩ : ∃ x y z, zs = [x, y, z] := by
        have := numsBy_len hnum
        match zs, this with
        | [x, y, z], _ => exact ⟨x, y, z, rfl⟩
      subst hz
      have HNX : Hid (stepS (ns, ps) L[k] = some (ns, ps ++ [⟨nIdx ns (tb b), nIdx ns (tb c), x, y, z⟩])) := by rw [Hid, HST.out, addPp, HP.out]; simp [hnum, wdPp]
      rw [hnum] at CN
      simp only [Option.isSome_some, Option.getD_some] at CN
      clear HST hnum
      go_wp2_with fail
      refine CN.mono ?_
      rintro e w4 ⟨r, rfl, hr, b4⟩
      obtain ⟨_, ra, rc, rfl, hrc⟩ := hr
      obtain ⟨rb, ro, rfl, hrb, hrf, hrc2⟩ := hrc.resolve_left (by simp)
      have n0 : w4.cell? ⟨rb, ro, none⟩ = some (.int .i64 x) := hrc2 0 (by simp)
      have n1 : w4.cell? ⟨rb, ro + 1, none⟩ = some (.int .i64 y) := hrc2 1 (by simp)
      have n2 : w4.cell? ⟨rb, ro + 2, none⟩ = some (.int .i64 z) := hrc2 2 (by simp)
      have hrl : rb < w4.heap.size := hrb.2
      have hrb1 := hrb.1
      have q1 := (b4.cell (p := ⟨wb, wo + 1, none⟩) hwl).trans q1
      have q2 := (b4.cell (p := ⟨wb, wo + 2, none⟩) hwl).trans q2
      have z8 : wb < w4.heap.size := Nat.lt_of_lt_of_le hwl b4.size
      have HD4 := hid (HD3.out.below b4)
      have HB4 := hid (HB3.out.trans (b4.mono HB3.out.size))
      have hlo := HD.out.hp.lt
      have hlo2 : Hid (∀ g, (Value.slice ap ps.length cp).ownBlock = some g → w2.heap.size ≤ g ∧ g < wr.heap.size) := hlo
      have z9 : w2.heap.size ≤ w4.heap.size := by have := b4.size; omega
      clear b4 CN r0 r1 g0 g1 o0 o1 hcL hrc hrc2 hrf hwl hlo hrb
      have KS : Hid (∀ W, Below w4.heap.size w4 W → W.cell? ⟨wb, wo + 1, none⟩ = some (.string (tb b)) ∧ W.cell? ⟨wb, wo + 2, none⟩ = some (.string (tb c)) ∧ W.cell? ⟨rb, ro, none⟩ = some (.int .i64 x) ∧ W.cell? ⟨rb, ro + 1, none⟩ = some (.int .i64 y) ∧ W.cell? ⟨rb, ro + 2, none⟩ = some (.int .i64 z)) := fun W hW =>
        ⟨(hW.cell (p := ⟨wb, wo + 1, none⟩) z8).trans q1, (hW.cell (p := ⟨wb, wo + 2, none⟩) z8).trans q2, (hW.cell (p := ⟨rb, ro, none⟩) hrl).trans n0, (hW.cell (p := ⟨rb, ro + 1, none⟩) hrl).trans n1, (hW.cell (p := ⟨rb, ro + 2, none⟩) hrl).trans n2⟩
      have KQF : Hid (∀ (W W' : World), Kept (fun b => (Value.slice ap ps.length cp).ownBlock = some b) W W' → Below w4.heap.size w4 W → (fun W => W.cell? ⟨wb, wo + 1, none⟩ = some (.string (tb b)) ∧ W.cell? ⟨wb, wo + 2, none⟩ = some (.string (tb c)) ∧ W.cell? ⟨rb, ro, none⟩ = some (.int .i64 x) ∧ W.cell? ⟨rb, ro + 1, none⟩ = some (.int .i64 y) ∧ W.cell? ⟨rb, ro + 2, none⟩ = some (.int .i64 z)) W') := fun W W' hk hW => by
        obtain ⟨e1, e2, e3, e4, e5'⟩ := KS.out W hW
        have n2' : ¬ (Value.slice ap ps.length cp).ownBlock = some wb := fun e => by have := (hlo2.out _ e).2; omega
        have n3' : ¬ (Value.slice ap ps.length cp).ownBlock = some rb := fun e => by have := (hlo2.out _ e).2; omega
        exact ⟨hk.cell e1 n2', hk.cell e2 n2', hk.cell e3 n3', hk.cell e4 n3', hk.cell e5' n3'⟩
      have HDN : Hid (∀ W, Below w4.heap.size w4 W → RowsAt encN 3 W (.slice an ns.length cn) ns) := fun W hW => (HD4.out.hn.rows lenN (by simp only; omega)).1.at.below hW
      clear HD q1 q2 n0 n1 n2 HP HPL
      obtain ⟨q1, q2, n0, n1, n2⟩ := KS.out w4 (Below.refl _ _)
      go_wp2_with fail
      go_region_held3 (fun W => W.cell? ⟨wb, wo + 1, none⟩ = some (.string (tb b)) ∧ W.cell? ⟨wb, wo + 2, none⟩ = some (.string (tb c)) ∧ W.cell? ⟨rb, ro, none⟩ = some (.int .i64 x) ∧ W.cell? ⟨rb, ro + 1, none⟩ = some (.int .i64 y) ∧ W.cell? ⟨rb, ro + 2, none⟩ = some (.int .i64 z))
        (first | exact KS.out _ (Below.refl _ _).drew | exact KS.out _ (below_new _ _).drew | exact KS.out _ ((Below.refl _ _).drew.alloc (Nat.le_refl _) _) | exact KQ.out)
        (first
          | (have q7 := FST; go_at_call 85; refine (l03Index_any _ ns (tb c) _ (HDN.out _ (Below.refl _ _).drew)).mono ?_; rintro e w6 ⟨rfl, rfl⟩)
          | (go_at_call 85; refine (l03Index_any _ ns (tb b) _ (HDN.out _ (Below.refl _ _).drew)).mono ?_; rintro e w5 ⟨rfl, rfl⟩; have FST : True := trivial)
          | (refine step_appP rfl (.tmp 62) (.tmp 83) rfl w2.heap.size (.slice ap ps.length cp) (.slice (some ⟨w4.heap.size, 0, none⟩) 1 1) ps [⟨nIdx ns (tb b), nIdx ns (tb c), x, y, z⟩] rfl rfl ?_ ?_ ?_ ?_ ?_; (· exact HD4.out.hp.below ((Below.refl _ _).drew.alloc (Nat.le_refl _) _)); (· exact rows_one (sz := 5) (x := (⟨nIdx ns (tb b), nIdx ns (tb c), x, y, z⟩ : Pp)) (Blk.new w4.drew (encP ⟨nIdx ns (tb b), nIdx ns (tb c), x, y, z⟩).toArray 72)); (· simp; omega); (· simp; omega); intro v6 w6 h6 k6 b6; have KQ := hid (KQF.out _ _ k6 ((Below.refl _ _).drew.alloc (Nat.le_refl _) (.cells #[.int .i64 (nIdx ns (tb b)), .int .i64 (nIdx ns (tb c)), .int .i64 x, .int .i64 y, .int .i64 z] 72)))))
      all_goals
        have HD5 := hid (HD4.out.below (Below.refl w4.heap.size w4).drew)
        have hlo5 := HD5.out.hp.lt
        have HD6 := hid (HD5.out.addP h6 k6 (by simpa using b6))
        have k56 := (Kept.of_below (X := fun b => w2.heap.size ≤ b) (below_new w4.drew (.cells #[.int .i64 (nIdx ns (tb b)), .int .i64 (nIdx ns (tb c)), .int .i64 x, .int .i64 y, .int .i64 z] 72))).trans (k6.mono (fun b _ hb => (hlo5 b hb).1))
        have HB5 := hid (HB4.out.trans (((Below.refl w4.heap.size w4).drew).mono HB4.out.size))
        have HB6 := hid (HB5.out.trans (k56.below (B := w2.heap.size) HB5.out.size (fun b hb => hb)))
        clear k56 k6 b6 h6 KQ hlo5
        go_wp2_with fail
        go_roundw
        case rel =>
          refine ⟨k + 1, ns, _, by go_num, by omega, ?_, by simp at hlen ⊢; omega, HD6.out, HB6.out⟩
          rw [foldO_step k hlt HF.out, HNX.out]
        case measure => simp [intOf]; omega

theorem txN_eq {n : Net} {l : Txt} (hl : l ≠ []) : txN n = l ↔ netB n = true ∧ netTx n = l := by
  unfold txN
  by_cases h : netB n = true
  · rw [if_pos h]; exact ⟨fun e => ⟨h, e⟩, fun e => e.2⟩
  · rw [if_neg h]; exact ⟨fun e => absurd e.symm hl, fun e => absurd e.1 h⟩

set_option maxHeartbeats 4000000 in
set_option maxRecDepth 100000 in
theorem spec_ReadNetwork_any (s : ByteArray) (w : World) (hs : s.size ≤ 2000000) :
    Calls Tryd.prog 14 #[.string s] w fun e w' => OutR w (rdNet s.data.toList) e w' := by
  rw [← rdNetS_eq]
  obtain ⟨W0, hW0⟩ : ∃ W0, W0 = w.alloc (.cells #[.slice none 0 0, .slice none 0 0] 25) := ⟨_, rfl⟩
  have hB0 : Below w.heap.size w W0 := by rw [hW0]; exact below_new w _
  have hX0 : Two W0 w.heap.size (.slice none 0 0) (.slice none 0 0) := by rw [hW0]; exact Two.new w _ _ _
  have C := l03Read_any s W0 hs
  have HL3 := hid (rdNetS_l3 s.data.toList)
  have z0 : w.heap.size < W0.heap.size := hX0.lt
  cases hl : l3 s.data.toList with
  | none =>
    have HN : Hid (rdNetS s.data.toList = none) := by rw [Hid, HL3.out, hl]
    rw [hl] at C
    simp only [OutL, Option.getD_none, Option.isSome_none] at C
    clear hl HL3
    go_enter Tryd.func14, Tryd.ntmps14
    go_wp2_with fail
    rw [← hW0]
    clear hW0
    refine C.mono ?_
    rintro e w1 ⟨nv, pv, rfl, na, _, b1⟩
    obtain ⟨a0, k0, rfl⟩ := na.at.1.shape
    obtain ⟨a1, k1, rfl⟩ := na.at.2.2.shape
    have HX1 := hid (hX0.below b1 z0)
    have HB1 := hid (hB0.trans (b1.mono hB0.size))
    have z1 : w.heap.size < w1.heap.size := Nat.lt_of_lt_of_le z0 b1.size
    clear C na b1 hX0 hB0
    obtain ⟨r0, r1, g0, g1⟩ := HX1.out
    go_wp2_with fail
    obtain ⟨Wf, hWf, ⟨e0, e1, _, _⟩, hb, _⟩ := two_end HX1.out HB1.out (Nat.le_refl _) (.slice none 0 0) (.slice none 0 0)
    rw [hWf]
    replace e0 := cell_al (o := (.cells #[.slice a0 zNet'.nodes.length k0, .slice a1 zNet'.pipes.length k1] 25)) e0
    replace e1 := cell_al (o := (.cells #[.slice a0 zNet'.nodes.length k0, .slice a1 zNet'.pipes.length k1] 25)) e1
    exact bodyPost_ret (v := .tuple #[.agg #[.slice none 0 0, .slice none 0 0], .bool false]) (by simp [results, Tryd.results14, go_sem, e0, e1]) rfl (OutR.none HN.out (hb.alloc hb.size _))
  | some n =>
    rw [hl] at C HL3
    simp only [OutL, Option.getD_some, Option.isSome_some] at C HL3
    clear hl
    have NF : Hid (¬ (netB n = true ∧ netTx n = s.data.toList) → rdNetS s.data.toList = none) := fun h => by rw [HL3.out, if_neg h]
    by_cases hsE : s.data.toList = []
    · have HN : Hid (rdNetS s.data.toList = none) := NF.out (fun h => netTx_ne h.1 (h.2.trans hsE))
      have dE : (s.toList == ([] : List UInt8)) = true := by rw [ByteArray.toList_eq, hsE]; rfl
      clear hsE NF HL3
      go_enter Tryd.func14, Tryd.ntmps14
      go_wp2_with fail
      rw [← hW0]
      clear hW0
      refine C.mono ?_
      rintro e w1 ⟨nv, pv, rfl, na, _, b1⟩
      obtain ⟨a0, k0, rfl⟩ := na.at.1.shape
      obtain ⟨a1, k1, rfl⟩ := na.at.2.2.shape
      have HX1 := hid (hX0.below b1 z0)
      have HB1 := hid (hB0.trans (b1.mono hB0.size))
      have z1 : w.heap.size < w1.heap.size := Nat.lt_of_lt_of_le z0 b1.size
      clear C na b1 hX0 hB0
      obtain ⟨r0, r1, g0, g1⟩ := HX1.out
      go_wp2_with fail
      obtain ⟨Wf, hWf, ⟨e0, e1, _, _⟩, hb, _⟩ := two_end HX1.out HB1.out (Nat.le_refl _) (.slice none 0 0) (.slice none 0 0)
      rw [hWf]
      replace e0 := cell_al (o := (.cells #[.slice a0 n.nodes.length k0, .slice a1 n.pipes.length k1] 25)) e0
      replace e1 := cell_al (o := (.cells #[.slice a0 n.nodes.length k0, .slice a1 n.pipes.length k1] 25)) e1
      exact bodyPost_ret (v := .tuple #[.agg #[.slice none 0 0, .slice none 0 0], .bool false]) (by simp [results, Tryd.results14, go_sem, e0, e1]) rfl (OutR.none HN.out (hb.alloc hb.size _))
    · have dE : (s.toList == ([] : List UInt8)) = false := by rw [ByteArray.toList_eq]; exact beq_false_of_ne hsE
      go_enter Tryd.func14, Tryd.ntmps14
      go_wp2_with fail
      rw [← hW0]
      clear hW0
      refine C.mono ?_
      rintro e w1 ⟨nv, pv, rfl, na, hcaps, b1⟩
      obtain ⟨a0, k0, rfl⟩ := na.at.1.shape
      obtain ⟨a1, k1, rfl⟩ := na.at.2.2.shape
      have bN := below_new w1 (.cells #[.slice a0 n.nodes.length k0, .slice a1 n.pipes.length k1] 25)
      have b2 := b1.trans (bN.mono b1.size)
      have HX2 := hid (hX0.below b2 z0)
      have HB2 := hid (hB0.trans (b2.mono hB0.size))
      have HN2 := hid (Two.new w1 (.slice a0 n.nodes.length k0) (.slice a1 n.pipes.length k1) 25)
      have NA2 := hid (na.below bN)
      have z1 : w.heap.size < w1.heap.size := Nat.lt_of_lt_of_le z0 b1.size
      have CT := spec_NetworkText_any _ _ n _ NA2.out.at
      clear C na b1 b2 hX0 hB0 bN
      go_wp2_with fail
      refine CT.mono ?_
      rintro e w3 ⟨rfl, b3⟩
      have HX3 := hid (HX2.out.below b3 (by have := HX2.out.lt; omega))
      have HB3 := hid (HB2.out.trans (b3.mono HB2.out.size))
      have HN3 := hid (HN2.out.below b3 (by simp))
      have NA3 := hid (NA2.out.below b3)
      have z3 : w1.heap.size < w3.heap.size := HN3.out.lt
      clear b3 CT
      obtain ⟨r0, r1, g0, g1⟩ := HX3.out
      obtain ⟨t0, t1, _, _⟩ := HN3.out
      by_cases hq : txN n = s.data.toList
      case neg =>
        have HN : Hid (rdNetS s.data.toList = none) := NF.out (fun h => hq ((txN_eq hsE).2 h))
        have dq : ((tb (txN n)).toList == s.toList) = false := by rw [ByteArray.toList_eq s]; exact tb_beq hq
        clear NF HL3 hsE hq
        go_wp2_with fail
        obtain ⟨Wf, hWf, ⟨e0, e1, _, _⟩, hb, _⟩ := two_end HX3.out HB3.out (Nat.le_refl _) (.slice none 0 0) (.slice none 0 0)
        rw [hWf]
        exact bodyPost_ret (v := .tuple #[.agg #[.slice none 0 0, .slice none 0 0], .bool false]) (by simp [results, Tryd.results14, go_sem, e0, e1]) rfl (OutR.none HN.out hb)
      · obtain ⟨hb, ht⟩ := (txN_eq hsE).1 hq
        have HN : Hid (rdNetS s.data.toList = some n) := by rw [Hid, HL3.out, if_pos ⟨hb, ht⟩]
        have dq : ((tb (txN n)).toList == s.toList) = true := by rw [ByteArray.toList_eq s]; exact tb_beq_t hq
        have l24 := (netB_t hb).2.1
        have l40 := (netB_t hb).2.2.1
        clear NF HL3 hsE hq ht hb
        go_wp2_with fail
        obtain ⟨Wf, hWf, ⟨e0, e1, _, _⟩, hbf, hkf⟩ := two_end HX3.out HB3.out (Nat.le_refl _) (.slice a0 n.nodes.length k0) (.slice a1 n.pipes.length k1)
        rw [hWf]
        refine bodyPost_ret (v := .tuple #[.agg #[.slice a0 n.nodes.length k0, .slice a1 n.pipes.length k1], .bool true]) (by simp [results, Tryd.results14, go_sem, e0, e1]) rfl ?_
        rw [HN.out]
        have naf := NA3.out.kept hkf (fun b h1 h2 => by omega)
        exact ⟨_, _, rfl, naf.widen (by omega) (by have := hkf.size; omega), hcaps, ⟨by show n.nodes.length ≤ 2000000; omega, by show n.pipes.length ≤ 2000000; omega⟩, hbf⟩

end Go.Proofs.YtdbgncinaacheaaDoor
