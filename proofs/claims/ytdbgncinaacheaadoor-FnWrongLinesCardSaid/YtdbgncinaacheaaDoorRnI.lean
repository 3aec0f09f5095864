/- ReadNetwork of the program. -/
import Derived.Test.YtdbgncinaacheaaDoorRn0
import Derived.Test.YtdbgncinaacheaaDoorTill
namespace Go.Proofs.YtdbgncinaacheaaDoor
set_option linter.unusedSimpArgs false
open Go.RowKit
open Go.Lib hiding intOf

theorem stepI_def1 {ns : List Nd} {ps : List Pp} {l : Txt} {a : Txt} {r : List Txt} (hp : pieces 32 l = a :: r) (h1 : a ≠ wNode ∨ ps ≠ []) (h2 : a ≠ wPipe ∨ (pieces 32 l).length ≠ 6) : stepI (ns, ps) l = none := by
  unfold stepI
  rw [hp] at h2 ⊢
  rw [if_neg (fun h => by
    have e1 : a = wNode := by simpa using h.1
    rcases h1 with h1 | h1
    · exact h1 e1
    · exact h1 h.2), if_neg (fun h => by
    have e1 : a = wPipe := by simpa using h.1
    rcases h2 with h2 | h2
    · exact h2 e1
    · exact h2 h.2)]

set_option maxHeartbeats 4000000 in
set_option maxRecDepth 100000 in
theorem impl_ReadNetwork_any (s : ByteArray) (w : World) (hs : s.size ≤ 2000000) (hy : Lay w) :
    Calls Tryd.prog 15 #[.string s] w fun e w' => OutR w (rdNet s.data.toList) e w' := by
  obtain ⟨L, hL⟩ : ∃ L, lnL s.data.toList = L := ⟨_, rfl⟩
  obtain ⟨R, hR⟩ : ∃ R, lnR s.data.toList = R := ⟨_, rfl⟩
  obtain ⟨W0, hW0⟩ : ∃ W0, W0 = w.alloc (.cells #[.slice none 0 0, .slice none 0 0] 25) := ⟨_, rfl⟩
  have hB0 : Below w.heap.size w W0 := by rw [hW0]; exact below_new w _
  have hX0 : Two W0 w.heap.size (.slice none 0 0) (.slice none 0 0) := by rw [hW0]; exact Two.new w _ _ _
  have HY := hid (hy.below hB0)
  have C := linesOf_any s W0 (by omega) HY.out.maxl
  have HLL : Hid (L.length ≤ 2000001 ∧ ∀ l ∈ L, l.length ≤ 2000000) := by
    have h1 := pieces_len 10 s.data.toList
    have h2 := piece_le 10 s.data.toList
    rw [ln_eq, data_len] at h1
    rw [ln_eq, hL, data_len] at h2
    rw [hL] at h1
    simp at h1
    exact ⟨by omega, fun l hl => by have := h2 l (List.mem_append_left _ hl); omega⟩
  rw [hL, hR] at C
  clear hy
  go_enter Tryd.func15, Tryd.ntmps15
  go_wp2_with fail
  rw [← hW0]
  clear hW0
  refine C.mono ?_
  rintro e w1 ⟨lv, rfl, hrow, hcap, b1⟩
  obtain ⟨la, lc, rfl⟩ := hrow.shape
  rw [List.length_map] at hrow hcap ⊢
  have z0 : w.heap.size < W0.heap.size := hX0.lt
  have HZ1 : Hid (w.heap.size < w1.heap.size) := Nat.lt_of_lt_of_le z0 b1.size
  have HX1 := hid (hX0.below b1 z0)
  have HB1 := hid (hB0.trans (b1.mono hB0.size))
  have HY1 := hid (HY.out.below b1)
  have HR1 := hid hrow
  have HLN : Hid ((L.length : Int) ≤ 2000001) := by have := HLL.out.1; rw [Hid]; omega
  clear C hrow hcap b1 hX0 hB0 HY z0
  go_wp2_with fail
  go_loopw [21] (fun i wr => RdRel stepI L w1 i wr) (fun i _ => L.length - (intOf i).toNat)
  case atStart => exact ⟨0, [], [], _, _, rfl, by omega, rfl, by simp, Drn.nil _ _, Two.new w1 _ _ _, below_new w1 _⟩
  case round =>
    obtain ⟨k, ns, ps, nv, pv, rfl, hk, hf, hlen, hd, ht, hbel⟩ := hrel
    have HF := hid hf
    have HD := hid hd
    have HT := hid ht
    have HBL := hid hbel
    have hlk : k ≤ 2000001 := by have := HLL.out.1; omega
    have z1 := HZ1.out
    have z2 : w1.heap.size < wr.heap.size := ht.lt
    clear hf hd ht hbel
    by_cases hlt : k < L.length
    case neg =>
      obtain rfl : k = L.length := by omega
      have HFL : Hid (foldO stepI ([], []) L = some (ns, ps)) := by have := HF.out; rw [List.take_length] at this; exact this
      obtain ⟨t0, t1, u0, u1⟩ := HT.out
      have HX := hid (HX1.out.below HBL.out z1)
      obtain ⟨r0, r1, g0, g1⟩ := HX.out
      have HBW := hid (HB1.out.trans (HBL.out.mono HB1.out.size))
      have hl1 : ns.length ≤ 2000001 := by omega
      have hl2 : ps.length ≤ 2000001 := by omega
      obtain ⟨na, hcn, hcp⟩ := HD.out.apart2 (by simp only; omega) (by simp only; omega)
      obtain ⟨an, cn, hnv, _⟩ := HD.out.hn.shape lenN
      obtain ⟨ap, cp, hpv, _⟩ := HD.out.hp.shape lenP
      subst hnv hpv
      have NA := hid na.at
      have HT' := hid HT.out
      have HC := hid (And.intro hcn hcp)
      clear na hcn hcp HF HT
      by_cases hR0 : R = []
      case neg =>
        have HN : Hid (rdNet s.data.toList = none) := by
          rw [Hid, rdNet, hL, HFL.out]
          exact if_neg (fun h => hR0 (by rw [← hR]; exact h.1))
        have dR : ((tb R).toList == ([] : List UInt8)) = false := tb_beq hR0
        clear hR0
        go_wp2_with fail
        obtain ⟨Wf, hWf, ⟨e0, e1, _, _⟩, hb, _⟩ := two_end HX.out HBW.out (Nat.le_refl _) (.slice none 0 0) (.slice none 0 0)
        rw [hWf]
        exact bodyPost_ret (v := .tuple #[.agg #[.slice none 0 0, .slice none 0 0], .bool false]) (by simp [results, Tryd.results15, go_sem, e0, e1]) rfl (OutR.none HN.out hb)
      have dR : ((tb R).toList == ([] : List UInt8)) = true := tb_beq_t hR0
      replace hR0 := hid hR0
      go_wp2_with fail
      refine (impl_IsNetwork_any _ _ ⟨ns, ps⟩ _ NA.out HC.out.1).mono ?_
      cases hb : netB ⟨ns, ps⟩
      · rintro e w3 ⟨rfl, b3⟩
        have HN : Hid (rdNet s.data.toList = none) := by
          rw [Hid, rdNet, hL, HFL.out]
          exact if_neg (fun h => by have := h.2; rw [hb] at this; cases this)
        have HX3 := hid (HX.out.below b3 (Nat.lt_trans z1 z2))
        have HBW3 := hid (HBW.out.trans (b3.mono HBW.out.size))
        obtain ⟨r0, r1, g0, g1⟩ := HX3.out
        clear b3
        go_wp2_with fail
        obtain ⟨Wf, hWf, ⟨e0, e1, _, _⟩, hb, _⟩ := two_end HX3.out HBW3.out (Nat.le_refl _) (.slice none 0 0) (.slice none 0 0)
        rw [hWf]
        exact bodyPost_ret (v := .tuple #[.agg #[.slice none 0 0, .slice none 0 0], .bool false]) (by simp [results, Tryd.results15, go_sem, e0, e1]) rfl (OutR.none HN.out hb)
      · rintro e w3 ⟨rfl, b3⟩
        have HN : Hid (rdNet s.data.toList = some ⟨ns, ps⟩) := by
          rw [Hid, rdNet, hL, HFL.out]
          exact if_pos ⟨by rw [hR]; exact hR0.out, hb⟩
        have HX3 := hid (HX.out.below b3 (Nat.lt_trans z1 z2))
        have HBW3 := hid (HBW.out.trans (b3.mono HBW.out.size))
        have HD3 := hid (HD.out.below b3)
        have HT3 := hid (HT'.out.below b3 z2)
        obtain ⟨r0, r1, g0, g1⟩ := HX3.out
        obtain ⟨t0, t1, u0, u1⟩ := HT3.out
        have l24 := (netB_t hb).2.1
        have l40 := (netB_t hb).2.2.1
        clear b3
        go_wp2_with fail
        obtain ⟨Wf, hWf, ⟨e0, e1, _, _⟩, hbf, hkf⟩ := two_end HX3.out HBW3.out (Nat.le_refl _) (.slice an ns.length cn) (.slice ap ps.length cp)
        rw [hWf]
        refine bodyPost_ret (v := .tuple #[.agg #[.slice an ns.length cn, .slice ap ps.length cp], .bool true]) (by simp [results, Tryd.results15, go_sem, e0, e1]) rfl ?_
        rw [HN.out]
        have HDf := HD3.out.kept hkf (fun b hb => by omega)
        exact ⟨_, _, rfl, (HDf.apart2 (by simp only; omega) (by simp only; omega)).1.widen (by omega) (Nat.le_refl _), HC.out, ⟨by show ns.length ≤ 2000000; have : ns.length ≤ 24 := l24; omega, by show ps.length ≤ 2000000; have : ps.length ≤ 40 := l40; omega⟩, hbf⟩
    obtain ⟨lb, lo, rfl, hlb, hcc⟩ := HR1.out.strs (by simpa using (by omega : 0 < L.length))
    have c0 := hcc k (by simpa using hlt)
    rw [List.getElem_map] at c0
    have c0 := (HBL.out.cell (p := ⟨lb, lo + k, none⟩) hlb).trans c0
    have hll := HLL.out.2 L[k] (List.getElem_mem hlt)
    have CS := split_any (tb L[k]) 32 wr (by rw [tb_size]; omega) (HY1.out.below HBL.out).maxl
    rw [tb_data] at CS
    have hne := pieces_ne 32 L[k]
    have hpl := pieces_len 32 L[k]
    obtain ⟨W, hW⟩ : ∃ W, pieces 32 L[k] = W := ⟨_, rfl⟩
    rw [hW] at CS hne hpl
    obtain ⟨m, hm⟩ : ∃ m, W.length = m := ⟨_, rfl⟩
    rw [hm] at CS
    obtain ⟨a, rest, hw⟩ : ∃ a rest, W = a :: rest := by
      cases W with
      | nil => exact absurd rfl hne
      | cons a r => exact ⟨a, r, rfl⟩
    have HP : Hid (pieces 32 L[k] = a :: rest) := by rw [Hid, hW, hw]
    have HPM : Hid ((pieces 32 L[k]).length = m) := by rw [Hid, hW, hm]
    have HPL : Hid (∀ p ∈ W, p.length ≤ 2000000) := fun p hp => by have := piece_le 32 L[k] p (by rw [hW]; exact hp); omega
    have hm1 : 1 ≤ m := by rw [← hm, hw]; simp
    have hm2 : m ≤ 2000001 := by omega
    clear hcc hne hpl hW
    go_wp2_with fail
    refine CS.mono ?_
    rintro e w2 ⟨rfl, h2, b2⟩
    have HB2 := hid (HBL.out.trans (b2.mono HBL.out.size))
    have HD2 := hid (HD.out.below b2)
    have HT2 := hid (HT.out.below b2 z2)
    have HX2 := hid (HX1.out.below HB2.out z1)
    have HBW2 := hid (HB1.out.trans (HB2.out.mono HB1.out.size))
    have z3 : wr.heap.size ≤ w2.heap.size := b2.size
    subst hw
    obtain ⟨wb, wo, hwa, hwl, hwc⟩ := h2.strs (by simp)
    simp only [Option.some.injEq, Addr.mk.injEq, and_true] at hwa
    obtain ⟨rfl, rfl⟩ := hwa
    have q0 : w2.cell? ⟨wr.heap.size, 0, none⟩ = some (.string (tb a)) := hwc 0 (by simp)
    have HW2 := hid h2
    have hcL := (b2.cell (p := ⟨lb, lo + k, none⟩) (Nat.lt_of_lt_of_le hlb HBL.out.size)).trans c0
    clear CS h2 b2 hwc HT c0
    obtain ⟨r0, r1, g0, g1⟩ := HX2.out
    obtain ⟨t0, t1, u0, u1⟩ := HT2.out
    obtain ⟨an, cn, hnv, _⟩ := HD2.out.hn.shape lenN
    obtain ⟨ap, cp, hpv, _⟩ := HD2.out.hp.shape lenP
    subst hnv hpv
    have DEF : Hid (∀ W : World, stepI (ns, ps) L[k] = none → Below w.heap.size w W → OutR w (rdNet s.data.toList) (.returned (.tuple #[.agg #[.slice none 0 0, .slice none 0 0], .bool false])) W) := fun W h hB =>
      OutR.none (rdNet_no k (by rw [hL]; exact hlt) (by rw [hL]; exact HF.out) (by simp only [hL]; exact h)) hB
    by_cases hn : a = wNode
    · have dn : ((tb a).toList == ([110, 111, 100, 101] : List UInt8)) = true := tb_beq_t hn
      have dp : ((tb a).toList == ([112, 105, 112, 101] : List UInt8)) = false := tb_beq (by rw [hn]; decide)
      replace hn := hid hn
      by_cases hp : ps = []
      case neg =>
        have HN : Hid (stepI (ns, ps) L[k] = none) := stepI_def1 HP.out (Or.inr hp) (Or.inl (by rw [hn.out]; decide))
        have hp0 : ((ps.length : Int) == 0) = false := beq_false_of_ne (by have := List.length_pos_iff.2 hp; omega)
        go_wp2_with fail
        obtain ⟨Wf, hWf, ⟨e0, e1, _, _⟩, hb, _⟩ := two_end HX2.out HBW2.out (Nat.le_refl _) (.slice none 0 0) (.slice none 0 0)
        rw [hWf]
        exact bodyPost_ret (v := .tuple #[.agg #[.slice none 0 0, .slice none 0 0], .bool false]) (by simp [results, Tryd.results15, go_sem, e0, e1]) rfl (DEF.out _ HN.out hb)
      subst hp
      have HST : Hid (stepI (ns, []) L[k] = addNd (ns, []) L[k]) := by rw [Hid, stepI, if_pos ⟨by rw [HP.out, hn.out]; rfl, rfl⟩]
      have CN := impl_ReadNodeLine_any (tb L[k]) w2 (by rw [tb_size]; omega) (HY1.out.below HB2.out)
      rw [tb_data] at CN
      obtain ⟨y, hy⟩ : ∃ y, (rdNode L[k]).getD zN = y := ⟨_, rfl⟩
      simp only [rnV, hy] at CN
      have z5 : w1.heap.size < w2.heap.size := by omega
      cases hr : rdNode L[k] with
      | none =>
        have HN : Hid (stepI (ns, []) L[k] = none) := by rw [Hid, HST.out, addNd, hr]; rfl
        rw [hr] at CN
        simp only [Option.isSome_none] at CN
        clear hr hy HST
        go_wp2_with fail
        refine CN.mono ?_
        rintro e w3 ⟨rfl, b3⟩
        have HX3 := hid ((HX2.out.below b3 (by omega)).below (below_new w3 (.cells #[.string y.name, .int .i64 y.low, .int .i64 y.high] 37)) (by have := b3.size; omega))
        have HBW3 := hid ((HBW2.out.trans (b3.mono HBW2.out.size)).trans ((below_new w3 (.cells #[.string y.name, .int .i64 y.low, .int .i64 y.high] 37)).mono (Nat.le_trans HBW2.out.size b3.size)))
        clear b3 CN r0 r1 g0 g1 t0 t1 u0 u1 q0 hcL
        obtain ⟨r0, r1, g0, g1⟩ := HX3.out
        go_wp2_with fail
        obtain ⟨Wf, hWf, ⟨e0, e1, _, _⟩, hb, _⟩ := two_end HX3.out HBW3.out (Nat.le_refl _) (.slice none 0 0) (.slice none 0 0)
        rw [hWf]
        exact bodyPost_ret (v := .tuple #[.agg #[.slice none 0 0, .slice none 0 0], .bool false]) (by simp [results, Tryd.results15, go_sem, e0, e1]) rfl (DEF.out _ HN.out hb)
      | some x =>
        rw [hr] at CN hy
        obtain rfl : x = y := by simpa using hy
        simp only [Option.isSome_some] at CN
        have HNX : Hid (stepI (ns, []) L[k] = some (ns ++ [x], [])) := by rw [Hid, HST.out, addNd, hr]; rfl
        have hxB := (rdNode_t hr).1
        have hx8 := (nameB_sz (nodeB_parts hxB).1).2
        clear hr hy HST hxB
        go_wp2_with fail
        refine CN.mono ?_
        rintro e w3 ⟨rfl, b3⟩
        have b4 := b3.trans ((below_new w3 (.cells #[.string x.name, .int .i64 x.low, .int .i64 x.high] 37)).mono b3.size)
        have z6 : w1.heap.size < w3.heap.size := by have := b3.size; omega
        have HT4 := hid (HT2.out.below b4 z5)
        have HD4 := hid (HD2.out.below b4)
        have HB4 := hid (HB2.out.trans (b4.mono HB2.out.size))
        have HT3 := hid (HT2.out.below b3 z5)
        clear b3 b4 CN r0 r1 g0 g1 t0 t1 u0 u1 q0 hcL
        obtain ⟨t0, t1, u0, u1⟩ := HT3.out
        go_wp2_with (at_builtin; refine wpList_appN rfl (.tmp 48) (.tmp 50) rfl (w1.heap.size + 1) (.slice an ns.length cn) (.slice (some ⟨w3.heap.size + 1, 0, none⟩) 1 1) ns [x] rfl rfl ?c1 ?c2 ?c3 ?c4 ?_)
        case c1 => exact HD4.out.hn.below (below_new _ _)
        case c2 =>
          have := rows_one (sz := 3) (Blk.new (w3.alloc (.cells #[.string x.name, .int .i64 x.low, .int .i64 x.high] 37)) (encN x).toArray 37)
          rw [(by simp : (w3.alloc (.cells #[.string x.name, .int .i64 x.low, .int .i64 x.high] 37)).heap.size = w3.heap.size + 1)] at this
          exact this
        case c3 => simp; omega
        case c4 => simp; omega
        intro v5 w5 h5 k5 b5
        have hlo := HD4.out.hn.lt
        have HD5 := hid (HD4.out.addN (by omega) h5 k5 (by simpa using b5))
        have k45 := (Kept.of_below (X := fun b => w1.heap.size + 1 ≤ b) (below_new _ (.cells (encN x).toArray 37))).trans (k5.mono (fun b _ hb => (hlo b hb).1))
        have HB5 := hid (HB4.out.trans (k45.below (B := w1.heap.size) (by have := HB4.out.size; omega) (fun b hb => by omega)))
        have HT5 := hid (HT4.out.kept k45 (by omega))
        have z7 : w1.heap.size < w5.heap.size := HT5.out.lt
        obtain ⟨a5, c5, hv5, _⟩ := HD5.out.hn.shape lenN
        obtain ⟨M, hM⟩ : ∃ M, (ns ++ [x]).length = M := ⟨_, rfl⟩
        rw [hM] at hv5
        subst hv5
        clear h5 k5 b5 k45 hlo t0 t1 u0 u1 HT3 hM
        obtain ⟨t0, t1, u0, u1⟩ := HT5.out
        go_wp2_with fail
        go_roundw
        case rel =>
          refine ⟨k + 1, ns ++ [x], [], _, _, by go_num, by omega, ?_, by simp at hlen ⊢; omega, HD5.out.kept ((Kept.refl (· = w1.heap.size) w5).setCell (p := ⟨w1.heap.size, 0, none⟩) rfl _) (fun b hb => by omega), HT5.out.set0 _, HB5.out.setCell (p := ⟨w1.heap.size, 0, none⟩) (Nat.le_refl _) _⟩
          rw [foldO_step k hlt HF.out, HNX.out]
        case measure => simp [intOf]; omega
    · have dn : ((tb a).toList == ([110, 111, 100, 101] : List UInt8)) = false := tb_beq hn
      by_cases hpi : a = wPipe
      case neg =>
        have HN : Hid (stepI (ns, ps) L[k] = none) := stepI_def1 HP.out (Or.inl hn) (Or.inl hpi)
        have dp : ((tb a).toList == ([112, 105, 112, 101] : List UInt8)) = false := tb_beq hpi
        clear hn hpi
        go_wp2_with fail
        obtain ⟨Wf, hWf, ⟨e0, e1, _, _⟩, hb, _⟩ := two_end HX2.out HBW2.out (Nat.le_refl _) (.slice none 0 0) (.slice none 0 0)
        rw [hWf]
        exact bodyPost_ret (v := .tuple #[.agg #[.slice none 0 0, .slice none 0 0], .bool false]) (by simp [results, Tryd.results15, go_sem, e0, e1]) rfl (DEF.out _ HN.out hb)
      have dp : ((tb a).toList == ([112, 105, 112, 101] : List UInt8)) = true := tb_beq_t hpi
      replace hpi := hid hpi
      by_cases h6 : m = 6
      case neg =>
        have HN : Hid (stepI (ns, ps) L[k] = none) := stepI_def1 HP.out (Or.inl hn) (Or.inr (by rw [HPM.out]; exact h6))
        have d6 : ((m : Int) == 6) = false := beq_false_of_ne (by omega)
        clear hn
        go_wp2_with fail
        obtain ⟨Wf, hWf, ⟨e0, e1, _, _⟩, hb, _⟩ := two_end HX2.out HBW2.out (Nat.le_refl _) (.slice none 0 0) (.slice none 0 0)
        rw [hWf]
        exact bodyPost_ret (v := .tuple #[.agg #[.slice none 0 0, .slice none 0 0], .bool false]) (by simp [results, Tryd.results15, go_sem, e0, e1]) rfl (DEF.out _ HN.out hb)
      subst h6
      obtain ⟨b, c, d, e5, f, hrest⟩ : ∃ b c d e f, rest = [b, c, d, e, f] := by
        match rest, hm with
        | [b, c, d, e, f], _ => exact ⟨b, c, d, e, f, rfl⟩
      subst hrest
      obtain ⟨wb2, wo2, hwa, hwl2, hwc⟩ := HW2.out.strs (by simp)
      simp only [Option.some.injEq, Addr.mk.injEq, and_true] at hwa
      obtain ⟨rfl, rfl⟩ := hwa
      have q1 : w2.cell? ⟨wr.heap.size, 1, none⟩ = some (.string (tb b)) := hwc 1 (by simp)
      have q2 : w2.cell? ⟨wr.heap.size, 2, none⟩ = some (.string (tb c)) := hwc 2 (by simp)
      have q3 : w2.cell? ⟨wr.heap.size, 3, none⟩ = some (.string (tb d)) := hwc 3 (by simp)
      have q4 : w2.cell? ⟨wr.heap.size, 4, none⟩ = some (.string (tb e5)) := hwc 4 (by simp)
      have q5 : w2.cell? ⟨wr.heap.size, 5, none⟩ = some (.string (tb f)) := hwc 5 (by simp)
      have R3 : RowsAt encS 1 w2 (.slice (some ⟨wr.heap.size, 3, none⟩) 3 3) ([d, e5, f].map tb) := strs_mk (off := 3) hwl2 (by simp) (fun i hi => by
        match i, hi with
        | 0, _ => exact q3
        | 1, _ => exact q4
        | 2, _ => exact q5
        | i + 3, h => simp at h; omega)
      have CN := readNumbers_own _ [d, e5, f] w2 R3 (fun l hl => by have := HPL.out l (by simp at hl ⊢; rcases hl with rfl | rfl | rfl <;> simp); omega) (by simp) (HY1.out.below HB2.out)
      have HST : Hid (stepI (ns, ps) L[k] = addPp numI (ns, ps) L[k]) := by
        rw [Hid, stepI, if_neg (fun h => hn (by have := h.1; rw [HP.out] at this; simpa using this)), if_pos ⟨by rw [HP.out, hpi.out]; rfl, HPM.out⟩]
      have z5 : w1.heap.size < w2.heap.size := by omega
      clear q3 q4 q5 R3 hwc hm hn
      cases hnum : numsBy numI [d, e5, f] with
      | none =>
        have HN : Hid (stepI (ns, ps) L[k] = none) := by rw [Hid, HST.out, addPp, HP.out]; simp [hnum]
        rw [hnum] at CN
        simp only [Option.isSome_none, Option.getD_none] at CN
        clear HST hnum
        go_wp2_with fail
        refine CN.mono ?_
        rintro e w3 ⟨r, rfl, _, b3⟩
        have HX3 := hid (HX2.out.below b3 (by omega))
        have HBW3 := hid (HBW2.out.trans (b3.mono HBW2.out.size))
        clear b3 CN r0 r1 g0 g1 t0 t1 u0 u1 q0 hcL
        obtain ⟨r0, r1, g0, g1⟩ := HX3.out
        go_wp2_with fail
        obtain ⟨Wf, hWf, ⟨e0, e1, _, _⟩, hb, _⟩ := two_end HX3.out HBW3.out (Nat.le_refl _) (.slice none 0 0) (.slice none 0 0)
        rw [hWf]
        exact bodyPost_ret (v := .tuple #[.agg #[.slice none 0 0, .slice none 0 0], .bool false]) (by simp [results, Tryd.results15, go_sem, e0, e1]) rfl (DEF.out _ HN.out hb)
      | some zs =>
        obtain ⟨x, y, z, hz⟩ : ∃ x y z, zs = [x, y, z] := by
          have := numsBy_len hnum
          match zs, this with
          | [x, y, z], _ => exact ⟨x, y, z, rfl⟩
        subst hz
        obtain ⟨P, hP⟩ : ∃ P : Pp, P = ⟨nIdx ns (tb b), nIdx ns (tb c), x, y, z⟩ := ⟨_, rfl⟩
        have HNX : Hid (stepI (ns, ps) L[k] = some (ns, ps ++ [P])) := by rw [Hid, HST.out, addPp, HP.out]; simp [hnum, wdPp, hP]
        rw [hnum] at CN
        simp only [Option.isSome_some, Option.getD_some] at CN
        clear HST hnum
        go_wp2_with fail
        refine CN.mono ?_
        rintro e w3 ⟨r, rfl, hr, b3⟩
        obtain ⟨_, ra, rc, rfl, hrc⟩ := hr
        obtain ⟨rb, ro, rfl, hrb, hrf, hrc2⟩ := hrc.resolve_left (by simp)
        have n0 : w3.cell? ⟨rb, ro, none⟩ = some (.int .i64 x) := hrc2 0 (by simp)
        have n1 : w3.cell? ⟨rb, ro + 1, none⟩ = some (.int .i64 y) := hrc2 1 (by simp)
        have n2 : w3.cell? ⟨rb, ro + 2, none⟩ = some (.int .i64 z) := hrc2 2 (by simp)
        have hrl : rb < w3.heap.size := World.block_lt_of_cell? (a := ⟨rb, ro, none⟩) w3 n0
        have q1 := (b3.cell (p := ⟨wr.heap.size, 1, none⟩) hwl2).trans q1
        have q2 := (b3.cell (p := ⟨wr.heap.size, 2, none⟩) hwl2).trans q2
        have z8 : wr.heap.size < w3.heap.size := Nat.lt_of_lt_of_le hwl2 b3.size
        have HT3 := hid (HT2.out.below b3 z5)
        have HD3 := hid (HD2.out.below b3)
        have HB3 := hid (HB2.out.trans (b3.mono HB2.out.size))
        have hlo := HD.out.hp.lt
        have hlo2 : Hid (∀ g, (Value.slice ap ps.length cp).ownBlock = some g → w1.heap.size + 1 ≤ g ∧ g < wr.heap.size) := hlo
        clear b3 CN r0 r1 g0 g1 t0 t1 u0 u1 q0 hcL hrc hrc2 hrf hwl2 hlo
        obtain ⟨t0, t1, u0, u1⟩ := HT3.out
        have z6 : w1.heap.size < w3.heap.size := by omega
        have KS : Hid (∀ W, Below w3.heap.size w3 W → W.cell? ⟨w1.heap.size, 0, none⟩ = some (.slice an ns.length cn) ∧ W.cell? ⟨w1.heap.size, 1, none⟩ = some (.slice ap ps.length cp) ∧ W.cell? ⟨wr.heap.size, 1, none⟩ = some (.string (tb b)) ∧ W.cell? ⟨wr.heap.size, 2, none⟩ = some (.string (tb c)) ∧ W.cell? ⟨rb, ro, none⟩ = some (.int .i64 x) ∧ W.cell? ⟨rb, ro + 1, none⟩ = some (.int .i64 y) ∧ W.cell? ⟨rb, ro + 2, none⟩ = some (.int .i64 z)) := fun W hW =>
          ⟨(hW.cell (p := ⟨w1.heap.size, 0, none⟩) z6).trans t0, (hW.cell (p := ⟨w1.heap.size, 1, none⟩) z6).trans t1, (hW.cell (p := ⟨wr.heap.size, 1, none⟩) z8).trans q1, (hW.cell (p := ⟨wr.heap.size, 2, none⟩) z8).trans q2, (hW.cell (p := ⟨rb, ro, none⟩) hrl).trans n0, (hW.cell (p := ⟨rb, ro + 1, none⟩) hrl).trans n1, (hW.cell (p := ⟨rb, ro + 2, none⟩) hrl).trans n2⟩
        have KQF : Hid (∀ (W W' : World), Kept (fun b => (Value.slice ap ps.length cp).ownBlock = some b) W W' → Below w3.heap.size w3 W → (fun W => W.cell? ⟨w1.heap.size, 0, none⟩ = some (.slice an ns.length cn) ∧ W.cell? ⟨w1.heap.size, 1, none⟩ = some (.slice ap ps.length cp) ∧ W.cell? ⟨wr.heap.size, 1, none⟩ = some (.string (tb b)) ∧ W.cell? ⟨wr.heap.size, 2, none⟩ = some (.string (tb c)) ∧ W.cell? ⟨rb, ro, none⟩ = some (.int .i64 x) ∧ W.cell? ⟨rb, ro + 1, none⟩ = some (.int .i64 y) ∧ W.cell? ⟨rb, ro + 2, none⟩ = some (.int .i64 z)) W' ∧ W'.frozen? ⟨w1.heap.size, 1, none⟩ = false) := fun W W' hk hW => by
          obtain ⟨e1, e2, e3, e4, e5', e6, e7⟩ := KS.out W hW
          have n1' : ¬ (Value.slice ap ps.length cp).ownBlock = some w1.heap.size := fun e => by have := (hlo2.out _ e).1; omega
          have n2' : ¬ (Value.slice ap ps.length cp).ownBlock = some wr.heap.size := fun e => by have := (hlo2.out _ e).2; omega
          have n3' : ¬ (Value.slice ap ps.length cp).ownBlock = some rb := fun e => by have := (hlo2.out _ e).2; omega
          have hb := hk.block w1.heap.size (Nat.lt_of_lt_of_le z6 hW.size) n1'
          refine ⟨⟨hk.cell e1 n1', hk.cell e2 n1', hk.cell e3 n2', hk.cell e4 n2', hk.cell e5' n3', hk.cell e6 n3', hk.cell e7 n3'⟩, ?_⟩
          rw [World.frozen?_of_block (w := W) (a := ⟨w1.heap.size, 1, none⟩) hb]
          exact (hW.frozen (p := ⟨w1.heap.size, 1, none⟩) z6).trans u1
        have HDN : Hid (∀ W, Below w3.heap.size w3 W → RowsAt encN 3 W (.slice an ns.length cn) ns) := fun W hW => (HD3.out.hn.rows lenN (by simp only; omega)).1.at.below hW
        clear HD q1 q2 n0 n1 n2 t0 t1 HP HPM HPL
        obtain ⟨t0, t1, q1, q2, n0, n1, n2⟩ := KS.out w3 (Below.refl _ _)
        go_wp2_with fail
        refine wp_region_till (S := fun W => W.cell? ⟨w1.heap.size, 0, none⟩ = some (.slice an ns.length cn) ∧ W.cell? ⟨w1.heap.size, 1, none⟩ = some (.slice ap ps.length cp) ∧ W.cell? ⟨wr.heap.size, 1, none⟩ = some (.string (tb b)) ∧ W.cell? ⟨wr.heap.size, 2, none⟩ = some (.string (tb c)) ∧ W.cell? ⟨rb, ro, none⟩ = some (.int .i64 x) ∧ W.cell? ⟨rb, ro + 1, none⟩ = some (.int .i64 y) ∧ W.cell? ⟨rb, ro + 2, none⟩ = some (.int .i64 z)) (z := 25) (by kernel_rfl) (KS.out _ (Below.refl _ _).drew) (fun hHeld => ?_)
        refine wpTill_take [1, 23, 25] (i := 0) (v := (.pointer (some ⟨w1.heap.size, 1, none⟩))) rfl (by kernel_rfl) (by kernel_rfl) (by kernel_rfl) (by kernel_rfl) (fun _ _ _ h => h) (Or.inl ⟨by rfl, ?_⟩) (by assumption) ?_
        · intro wq hSw
          try dsimp only at hSw
          go_simp
        try simp only [Act.put, List.setIfInBounds_toArray, List.set_cons_zero, List.set_cons_succ]
        refine wpTill_take [23, 25] (i := 1) (v := (.slice ap ps.length cp)) rfl (by kernel_rfl) (by kernel_rfl) (by kernel_rfl) (by kernel_rfl) (fun _ _ _ h => h) (Or.inl ⟨by rfl, ?_⟩) (by assumption) ?_
        · intro wq hSw
          try dsimp only at hSw
          go_simp
        try simp only [Act.put, List.setIfInBounds_toArray, List.set_cons_zero, List.set_cons_succ]
        refine wpTill_take [6, 21, 22, 23, 25] (i := 2) (v := (.agg #[.slice an ns.length cn, .slice ap ps.length cp])) rfl (by kernel_rfl) (by kernel_rfl) (by kernel_rfl) (by kernel_rfl) (fun _ _ _ h => h) (Or.inl ⟨by rfl, ?_⟩) (by assumption) ?_
        · intro wq hSw
          try dsimp only at hSw
          go_simp
        try simp only [Act.put, List.setIfInBounds_toArray, List.set_cons_zero, List.set_cons_succ]
        refine wpTill_take [4, 5, 6, 21, 22, 23, 25] (i := 3) (v := (.slice (some ⟨wr.heap.size, 0, none⟩) 6 6)) rfl (by kernel_rfl) (by kernel_rfl) (by kernel_rfl) (by kernel_rfl) (fun _ _ _ h => h) (Or.inl ⟨by rfl, ?_⟩) (by assumption) ?_
        · intro wq hSw
          try dsimp only at hSw
          go_simp
        try simp only [Act.put, List.setIfInBounds_toArray, List.set_cons_zero, List.set_cons_succ]
        refine wpTill_take [5, 6, 21, 22, 23, 25] (i := 4) (v := (.pointer (some ⟨wr.heap.size, 1, none⟩))) rfl (by kernel_rfl) (by kernel_rfl) (by kernel_rfl) (by kernel_rfl) (fun _ _ _ h => h) (Or.inl ⟨by rfl, ?_⟩) (by assumption) ?_
        · intro wq hSw
          try dsimp only at hSw
          go_simp
        try simp only [Act.put, List.setIfInBounds_toArray, List.set_cons_zero, List.set_cons_succ]
        refine wpTill_take [6, 21, 22, 23, 25] (i := 5) (v := (.string (tb b))) rfl (by kernel_rfl) (by kernel_rfl) (by kernel_rfl) (by kernel_rfl) (fun _ _ _ h => h) (Or.inl ⟨by rfl, ?_⟩) (by assumption) ?_
        · intro wq hSw
          try dsimp only at hSw
          go_simp
        try simp only [Act.put, List.setIfInBounds_toArray, List.set_cons_zero, List.set_cons_succ]
        refine wpTill_take [11, 21, 22, 23, 25] (i := 7) (v := (.agg #[.slice an ns.length cn, .slice ap ps.length cp])) rfl (by kernel_rfl) (by kernel_rfl) (by kernel_rfl) (by kernel_rfl) (fun _ _ _ h => h) (Or.inl ⟨by rfl, ?_⟩) (by assumption) ?_
        · intro wq hSw
          try dsimp only at hSw
          go_simp
        try simp only [Act.put, List.setIfInBounds_toArray, List.set_cons_zero, List.set_cons_succ]
        refine wpTill_take [9, 10, 11, 21, 22, 23, 25] (i := 8) (v := (.slice (some ⟨wr.heap.size, 0, none⟩) 6 6)) rfl (by kernel_rfl) (by kernel_rfl) (by kernel_rfl) (by kernel_rfl) (fun _ _ _ h => h) (Or.inl ⟨by rfl, ?_⟩) (by assumption) ?_
        · intro wq hSw
          try dsimp only at hSw
          go_simp
        try simp only [Act.put, List.setIfInBounds_toArray, List.set_cons_zero, List.set_cons_succ]
        refine wpTill_take [10, 11, 21, 22, 23, 25] (i := 9) (v := (.pointer (some ⟨wr.heap.size, 2, none⟩))) rfl (by kernel_rfl) (by kernel_rfl) (by kernel_rfl) (by kernel_rfl) (fun _ _ _ h => h) (Or.inl ⟨by rfl, ?_⟩) (by assumption) ?_
        · intro wq hSw
          try dsimp only at hSw
          go_simp
        try simp only [Act.put, List.setIfInBounds_toArray, List.set_cons_zero, List.set_cons_succ]
        refine wpTill_take [11, 21, 22, 23, 25] (i := 10) (v := (.string (tb c))) rfl (by kernel_rfl) (by kernel_rfl) (by kernel_rfl) (by kernel_rfl) (fun _ _ _ h => h) (Or.inl ⟨by rfl, ?_⟩) (by assumption) ?_
        · intro wq hSw
          try dsimp only at hSw
          go_simp
        try simp only [Act.put, List.setIfInBounds_toArray, List.set_cons_zero, List.set_cons_succ]
        refine wpTill_take [13, 14, 21, 22, 23, 25] (i := 12) (v := (.slice (some ⟨rb, ro, none⟩) 3 rc)) rfl (by kernel_rfl) (by kernel_rfl) (by kernel_rfl) (by kernel_rfl) (fun _ _ _ h => h) (Or.inl ⟨by rfl, ?_⟩) (by assumption) ?_
        · intro wq hSw
          try dsimp only at hSw
          go_simp
        try simp only [Act.put, List.setIfInBounds_toArray, List.set_cons_zero, List.set_cons_succ]
        refine wpTill_take [14, 21, 22, 23, 25] (i := 13) (v := (.pointer (some ⟨rb, ro, none⟩))) rfl (by kernel_rfl) (by kernel_rfl) (by kernel_rfl) (by kernel_rfl) (fun _ _ _ h => h) (Or.inl ⟨by rfl, ?_⟩) (by assumption) ?_
        · intro wq hSw
          try dsimp only at hSw
          go_simp
        try simp only [Act.put, List.setIfInBounds_toArray, List.set_cons_zero, List.set_cons_succ]
        refine wpTill_take [21, 22, 23, 25] (i := 14) (v := (.int .i64 x)) rfl (by kernel_rfl) (by kernel_rfl) (by kernel_rfl) (by kernel_rfl) (fun _ _ _ h => h) (Or.inl ⟨by rfl, ?_⟩) (by assumption) ?_
        · intro wq hSw
          try dsimp only at hSw
          go_simp
        try simp only [Act.put, List.setIfInBounds_toArray, List.set_cons_zero, List.set_cons_succ]
        refine wpTill_take [16, 17, 21, 22, 23, 25] (i := 15) (v := (.slice (some ⟨rb, ro, none⟩) 3 rc)) rfl (by kernel_rfl) (by kernel_rfl) (by kernel_rfl) (by kernel_rfl) (fun _ _ _ h => h) (Or.inl ⟨by rfl, ?_⟩) (by assumption) ?_
        · intro wq hSw
          try dsimp only at hSw
          go_simp
        try simp only [Act.put, List.setIfInBounds_toArray, List.set_cons_zero, List.set_cons_succ]
        refine wpTill_take [17, 21, 22, 23, 25] (i := 16) (v := (.pointer (some ⟨rb, ro + 1, none⟩))) rfl (by kernel_rfl) (by kernel_rfl) (by kernel_rfl) (by kernel_rfl) (fun _ _ _ h => h) (Or.inl ⟨by rfl, ?_⟩) (by assumption) ?_
        · intro wq hSw
          try dsimp only at hSw
          go_simp
        try simp only [Act.put, List.setIfInBounds_toArray, List.set_cons_zero, List.set_cons_succ]
        refine wpTill_take [21, 22, 23, 25] (i := 17) (v := (.int .i64 y)) rfl (by kernel_rfl) (by kernel_rfl) (by kernel_rfl) (by kernel_rfl) (fun _ _ _ h => h) (Or.inl ⟨by rfl, ?_⟩) (by assumption) ?_
        · intro wq hSw
          try dsimp only at hSw
          go_simp
        try simp only [Act.put, List.setIfInBounds_toArray, List.set_cons_zero, List.set_cons_succ]
        refine wpTill_take [19, 20, 21, 22, 23, 25] (i := 18) (v := (.slice (some ⟨rb, ro, none⟩) 3 rc)) rfl (by kernel_rfl) (by kernel_rfl) (by kernel_rfl) (by kernel_rfl) (fun _ _ _ h => h) (Or.inl ⟨by rfl, ?_⟩) (by assumption) ?_
        · intro wq hSw
          try dsimp only at hSw
          go_simp
        try simp only [Act.put, List.setIfInBounds_toArray, List.set_cons_zero, List.set_cons_succ]
        refine wpTill_take [20, 21, 22, 23, 25] (i := 19) (v := (.pointer (some ⟨rb, ro + 2, none⟩))) rfl (by kernel_rfl) (by kernel_rfl) (by kernel_rfl) (by kernel_rfl) (fun _ _ _ h => h) (Or.inl ⟨by rfl, ?_⟩) (by assumption) ?_
        · intro wq hSw
          try dsimp only at hSw
          go_simp
        try simp only [Act.put, List.setIfInBounds_toArray, List.set_cons_zero, List.set_cons_succ]
        refine wpTill_take [21, 22, 23, 25] (i := 20) (v := (.int .i64 z)) rfl (by kernel_rfl) (by kernel_rfl) (by kernel_rfl) (by kernel_rfl) (fun _ _ _ h => h) (Or.inl ⟨by rfl, ?_⟩) (by assumption) ?_
        · intro wq hSw
          try dsimp only at hSw
          go_simp
        try simp only [Act.put, List.setIfInBounds_toArray, List.set_cons_zero, List.set_cons_succ]
        refine wpTill_one (i := 6) (by kernel_rfl) rfl (fun K hK => ?_)
        go_simp
        refine (nodeIndex_any _ _ ns (tb b) _ (HDN.out _ (Below.refl _ _).drew) ⟨_, _, _, rfl⟩).mono ?_
        rintro e w4 ⟨rfl, b4⟩
        have b4 := below_undrew b4
        refine hK.out _ _ ?_ (fun hHeld => ?_)
        · exact KS.out w4 b4
        clear hK K
        try simp only [Act.put, List.setIfInBounds_toArray, List.set_cons_zero, List.set_cons_succ]
        refine wpTill_one (i := 11) (by kernel_rfl) rfl (fun K hK => ?_)
        go_simp
        refine (nodeIndex_any _ _ ns (tb c) _ (HDN.out _ b4) ⟨_, _, _, rfl⟩).mono ?_
        rintro e w5 ⟨rfl, b5⟩
        have b5 := b4.trans (b5.mono b4.size)
        refine hK.out _ _ ?_ (fun hHeld => ?_)
        · exact KS.out w5 b5
        clear hK K
        try simp only [Act.put, List.setIfInBounds_toArray, List.set_cons_zero, List.set_cons_succ]
        refine wpTill_take [22, 23, 25] (i := 21) (v := (.agg #[.int .i64 (nIdx ns (tb b)), .int .i64 (nIdx ns (tb c)), .int .i64 x, .int .i64 y, .int .i64 z])) rfl (by kernel_rfl) (by kernel_rfl) (by kernel_rfl) (by kernel_rfl) (fun _ _ _ h => h) (Or.inl ⟨by rfl, ?_⟩) (by assumption) ?_
        · intro wq hSw
          try dsimp only at hSw
          go_simp
        try simp only [Act.put, List.setIfInBounds_toArray, List.set_cons_zero, List.set_cons_succ]
        refine wpTill_one (i := 22) (by kernel_rfl) rfl (fun K hK => ?_)
        go_simp
        refine hK.out _ _ ?_ (fun hHeld => ?_)
        · exact KS.out _ (b5.trans ((below_new w5 (.cells #[.int .i64 (nIdx ns (tb b)), .int .i64 (nIdx ns (tb c)), .int .i64 x, .int .i64 y, .int .i64 z] 72)).mono b5.size))
        clear hK K
        try simp only [Act.put, List.setIfInBounds_toArray, List.set_cons_zero, List.set_cons_succ]
        refine wpTill_one (i := 23) (by kernel_rfl) rfl (fun K hK => ?_)
        refine step_appP rfl (.tmp 73) (.tmp 94) rfl (w1.heap.size + 1) (.slice ap ps.length cp) (.slice (some ⟨w5.heap.size, 0, none⟩) 1 1) ps [⟨nIdx ns (tb b), nIdx ns (tb c), x, y, z⟩] rfl rfl ?_ ?_ ?_ ?_ ?_
        · exact (HD3.out.below b5).hp.below (below_new _ _)
        · exact rows_one (sz := 5) (x := (⟨nIdx ns (tb b), nIdx ns (tb c), x, y, z⟩ : Pp)) (Blk.new w5 (encP ⟨nIdx ns (tb b), nIdx ns (tb c), x, y, z⟩).toArray 72)
        · simp; omega
        · simp; have := b5.size; omega
        intro v6 w6 h6 k6 b6
        have KQ := hid (KQF.out _ _ k6 (b5.trans ((below_new w5 (.cells #[.int .i64 (nIdx ns (tb b)), .int .i64 (nIdx ns (tb c)), .int .i64 x, .int .i64 y, .int .i64 z] 72)).mono b5.size)))
        have FZ := KQ.out.2
        have O6 := hid h6
        obtain ⟨a6, c6, hv6, _⟩ := OwnR.shape lenP h6
        obtain ⟨M, hM⟩ : ∃ M, (ps ++ [(⟨nIdx ns (tb b), nIdx ns (tb c), x, y, z⟩ : Pp)]).length = M := ⟨_, rfl⟩
        rw [hM] at hv6
        subst hv6
        refine hK.out _ _ ?_ (fun hHeld => ?_)
        · exact KQ.out.1
        clear hK K
        try simp only [Act.put, List.setIfInBounds_toArray, List.set_cons_zero, List.set_cons_succ]
        obtain ⟨q0', q1', _⟩ := KQ.out.1
        refine wpTill_take [25] (i := 24) (v := (.pointer (some ⟨w1.heap.size, 1, none⟩))) rfl (by kernel_rfl) (by kernel_rfl) (by kernel_rfl) (by kernel_rfl) (fun _ _ _ h => h) (Or.inl ⟨by rfl, ?_⟩) (by assumption) ?_
        · intro wq hSw
          try dsimp only at hSw
          go_simp
        try simp only [Act.put, List.setIfInBounds_toArray, List.set_cons_zero, List.set_cons_succ]
        refine wpTill_last (by kernel_rfl) rfl (by kernel_rfl) (fun K hK => ?_)
        go_simp
        refine hK.out _ _ ?_
        clear hK K
        try simp only [Act.put, List.setIfInBounds_toArray, List.set_cons_zero, List.set_cons_succ]
        refine wpTill_done (by kernel_rfl) ?_ _
        have HD5 := hid (HD3.out.below b5)
        have hlo5 := HD5.out.hp.lt
        have hl5 := b5.size
        have HD6 := hid (HD5.out.addP O6.out k6 (by simpa using b6))
        have k56 := (Kept.of_below (X := fun b => w1.heap.size + 1 ≤ b) (below_new w5 (.cells #[.int .i64 (nIdx ns (tb b)), .int .i64 (nIdx ns (tb c)), .int .i64 x, .int .i64 y, .int .i64 z] 72))).trans (k6.mono (fun b _ hb => (hlo5 b hb).1))
        have HB5 := hid (HB3.out.trans (b5.mono HB3.out.size))
        have HB6 := hid (HB5.out.trans (k56.below (B := w1.heap.size) HB5.out.size (fun b hb => by omega)))
        have HT6 := hid ((HT3.out.below b5 z6).kept k56 (by omega))
        rw [hP] at HNX
        clear k56 k6 b6 h6 b4 b5 KQ FZ hHeld q0' q1' hlo5
        go_wp2_with fail
        go_roundw
        case rel =>
          refine ⟨k + 1, ns, _, _, _, by go_num, by omega, ?_, by simp at hlen ⊢; omega, HD6.out.kept ((Kept.refl (· = w1.heap.size) w6).setCell (p := ⟨w1.heap.size, 1, none⟩) rfl _) (fun b hb => by omega), HT6.out.set1 _, HB6.out.setCell (p := ⟨w1.heap.size, 1, none⟩) (Nat.le_refl _) _⟩
          rw [foldO_step k hlt HF.out, HNX.out]
        case measure => simp [intOf]; omega

end Go.Proofs.YtdbgncinaacheaaDoor
