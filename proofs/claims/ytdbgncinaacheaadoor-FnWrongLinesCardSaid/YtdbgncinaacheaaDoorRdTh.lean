/- ReadThousandths of both sides. -/
import Derived.Test.YtdbgncinaacheaaDoorThP
import Derived.Test.YtdbgncinaacheaaDoorNumI
namespace Go.Proofs.YtdbgncinaacheaaDoor
open Go.RowKit
open Go.Lib hiding intOf

theorem ext_tb' (s : ByteArray) (a b : Nat) : s.extract a b = tb ((s.data.toList.take b).drop a) := by
  apply data_inj
  rw [tb_data, ByteArray.data_extract, Array.toList_extract]
  rw [List.extract_eq_take_drop, List.drop_take]
theorem cut_len (l : Txt) : (cut l [46]).1.length + (cut l [46]).2.1.length ≤ l.length := by
  by_cases h : (46 : UInt8) ∈ l
  · obtain ⟨a, r, rfl, ha⟩ := mem_cut h
    rw [cut_some ha]; simp
  · rw [cut_none h]; simp

set_option maxHeartbeats 1000000 in
set_option maxRecDepth 100000 in
theorem impl_ReadThousandths_any (s : ByteArray) (w : World) (hs : s.size ≤ 1000000000) (hy : Lay w) :
    Calls Tryd.prog 36 #[.string s] w fun e w' => e = .returned (.tuple #[.int .i64 ((rdTh s).getD 0), .bool (rdTh s).isSome]) ∧ Below w.heap.size w w' := by
  have HY := hid hy
  have C := cut_any s 46 w (by omega) hy.maxl
  obtain ⟨A, hA⟩ : ∃ A, (cut s.data.toList [46]).1 = A := ⟨_, rfl⟩
  obtain ⟨B, hB⟩ : ∃ B, (cut s.data.toList [46]).2.1 = B := ⟨_, rfl⟩
  obtain ⟨F, hF⟩ : ∃ F, (cut s.data.toList [46]).2.2 = F := ⟨_, rfl⟩
  have hlen := cut_len s.data.toList
  have hcat : Hid ((tb A ++ tb B).data.toList = catTh s) := by rw [Hid, tb_app, tb_data, catTh, hA, hB]
  rw [hA, hB, hF] at C
  rw [hA, hB] at hlen
  have hlen : A.length + B.length ≤ s.size := Nat.le_trans hlen (Nat.le_of_eq (Array.length_toList ..))
  have l1 := tb_size A
  have l2 := tb_size B
  have za : (tb A).size + (tb B).size ≤ 1000000000 := by omega
  have zab : (tb A ++ tb B).size ≤ 281474976710656 := by rw [ByteArray.size_append]; omega
  have z0 : ¬ (9223372036854775807 < (tb A).size + (tb B).size) := by omega
  have HZ := hid zab
  have HF := hid hF
  clear hy hA hB hlen l1 l2 hF zab za
  go_enter Tryd.func36, Tryd.ntmps36
  go_wp2_with fail
  refine C.mono ?_
  rintro e w1 ⟨rfl, b1⟩
  have HB1 := hid b1
  have HY1 := hid (HY.out.below b1)
  clear b1 C
  go_wp2_with fail
  refine (parseInt_any (tb A ++ tb B) _ HZ.out HY1.out.errs).mono ?_
  rintro e w2 ⟨hE, b2⟩
  have HB2 := hid (HB1.out.trans (b2.mono HB1.out.size))
  have HY2 := hid (HY1.out.below b2)
  clear b2
  cases F with
  | false =>
    have HN := hid (rdTh_cut HF.out)
    rcases hE with ⟨v, hp, rfl⟩ | ⟨v, t, p, hp, rfl⟩
    all_goals
      clear hp
      go_wp2_with fail
      go_ret2
      rw [HN.out]
      exact ⟨rfl, HB2.out⟩
  | true =>
    rcases hE with ⟨v, hp, rfl⟩ | ⟨v, t, p, hp, rfl⟩
    · rw [hcat.out] at hp
      have HN := hid (rdTh_val HF.out hp)
      by_cases he : thS v = s
      · have hq : ((thI v).toList == s.toList) = true := sEq_iff.2 (by rw [← thS_eq]; exact he)
        have HN2 : Hid (rdTh s = some v) := by rw [Hid, HN.out, if_pos he]
        clear hp he HN
        go_wp2_with fail
        refine (impl_ThousandthsText_any v _ HY2.out.tab).mono ?_
        rintro e w3 ⟨rfl, b3⟩
        go_wp2_with fail
        go_ret2
        rw [HN2.out]
        exact ⟨rfl, HB2.out.trans (b3.mono HB2.out.size)⟩
      · have hq : ((thI v).toList == s.toList) = false := sEq_f.2 (by rw [← thS_eq]; exact he)
        have HN2 : Hid (rdTh s = none) := by rw [Hid, HN.out, if_neg he]
        clear hp he HN
        go_wp2_with fail
        refine (impl_ThousandthsText_any v _ HY2.out.tab).mono ?_
        rintro e w3 ⟨rfl, b3⟩
        go_wp2_with fail
        go_ret2
        rw [HN2.out]
        exact ⟨rfl, HB2.out.trans (b3.mono HB2.out.size)⟩
    · have HN : Hid (rdTh s = none) := rdTh_bad (fun x hx => hp x (by rw [hcat.out]; exact hx))
      clear hp
      go_wp2_with fail
      go_ret2
      rw [HN.out]
      exact ⟨rfl, HB2.out⟩

theorem ext0_txt (s : ByteArray) (b : Nat) : (s.extract 0 b).data.toList = s.data.toList.take b := by rw [ext_tb', tb_data]; simp
theorem part_txt (s : ByteArray) (a : Nat) : (⟨#[49]⟩ ++ s.extract a s.size).data.toList = 49 :: s.data.toList.drop a := by
  rw [ext_tb', show (⟨#[49]⟩ : ByteArray) = tb [49] from rfl, tb_app, tb_data, List.take_of_length_le (by rw [Array.length_toList]; exact Nat.le_refl _)]
  rfl

theorem head_45 {s : ByteArray} (h0 : 0 < s.size) (h : s[0] = 45) : ∃ r, s.data.toList = 45 :: r := by
  have h1 : 0 < s.data.toList.length := by rw [Array.length_toList]; exact h0
  have h2 : s.data.toList[0] = 45 := by rw [Array.getElem_toList]; exact h
  cases hl : s.data.toList with
  | nil => rw [hl] at h1; simp at h1
  | cons x r =>
    refine ⟨r, ?_⟩
    have : x = 45 := by simpa [hl] using h2
    rw [this]
theorem no_45 {s : ByteArray} (h : ∀ h0 : 0 < s.size, s[0] ≠ 45) : body s = s.data.toList ∧ neg s = false := by
  unfold body neg
  cases hl : s.data.toList with
  | nil => exact ⟨rfl, rfl⟩
  | cons x r =>
    have h0 : 0 < s.size := by
      have : 0 < s.data.toList.length := by rw [hl]; simp
      rw [Array.length_toList] at this; exact this
    have hx : x ≠ 45 := fun e => by
      refine h h0 ?_
      have h2 : s.data.toList[0]'(by rw [Array.length_toList]; exact h0) = s[0] := by rw [Array.getElem_toList]; rfl
      rw [← h2]; simp [hl, e]
    constructor
    · split
      · next e => simp only [List.cons.injEq] at e; exact absurd e.1 hx
      · rfl
    · split
      · next e => simp only [List.cons.injEq] at e; exact absurd e.1 hx
      · rfl

theorem readTh_nil (s : ByteArray) (w : World) (h0 : ¬ 0 < s.size) :
    Calls Tryd.prog 35 #[.string s] w fun e w' => e = .returned (.tuple #[.int .i64 ((rdTh s).getD 0), .bool (rdTh s).isSome]) ∧ Below w.heap.size w w' := by
  have HN : Hid (rdTh s = none) := rdTh_form (fun h => by
    have h1 := h.1
    rw [(no_45 (fun h => absurd h h0)).1, Array.length_toList] at h1
    have : s.data.size = s.size := rfl
    omega)
  have hz : s.size = 0 := by omega
  go_enter Tryd.func35, Tryd.ntmps35
  go_wp2_with fail
  go_ret2
  rw [HN.out]
  exact ⟨rfl, Below.refl _ _⟩

set_option maxHeartbeats 6000000 in
set_option maxRecDepth 100000 in
theorem readTh_neg (s : ByteArray) (w : World) (hs : s.size ≤ 1000000000) (h0 : 0 < s.size) (h45 : s[0] = 45) :
    Calls Tryd.prog 35 #[.string s] w fun e w' => e = .returned (.tuple #[.int .i64 ((rdTh s).getD 0), .bool (rdTh s).isSome]) ∧ Below w.heap.size w w' := by
  have hse : s.extract 1 s.size = s.extract 1 s.size := rfl
  obtain ⟨X, hX⟩ : ∃ X, s.extract 1 s.size = X := ⟨_, rfl⟩
  have HX : Hid (X.data.toList = body s) := by
    rw [Hid, ← hX, ext_tb', tb_data, List.take_of_length_le (by rw [Array.length_toList]; exact Nat.le_refl _)]
    have := head_45 h0 h45
    obtain ⟨r, hr⟩ := this
    rw [body, hr]; rfl
  have HNEG : Hid (neg s = true) := by
    obtain ⟨r, hr⟩ := head_45 h0 h45
    rw [Hid, neg, hr]; rfl
  have d0 : ((s[0].toNat : Int) == 45) = true := by rw [h45]; rfl
  have hXs : X.size = s.size - 1 := by rw [← hX, ByteArray.size_extract]; omega
  have hX9 : X.size ≤ 1000000000 := by omega
  have h0' : 1 ≤ s.size := h0
  clear hse hXs h45
  have HL : Hid ((body s).length = X.size) := by rw [Hid, ← HX.out]; exact Array.length_toList ..
  have none_ret : ∀ (w' : World), rdTh s = none → Below w.heap.size w w' → (Ending.returned (.tuple #[.int .i64 0, .bool false]) = .returned (.tuple #[.int .i64 ((rdTh s).getD 0), .bool (rdTh s).isSome]) ∧ Below w.heap.size w w') := fun w' h hb => by rw [h]; exact ⟨rfl, hb⟩
  have NR := hid none_ret
  clear none_ret
  by_cases h1 : X.size < 5
  · have HN : Hid (rdTh s = none) := rdTh_form (fun h => by have := h.1; rw [HL.out] at this; omega)
    go_enter Tryd.func35, Tryd.ntmps35
    go_wp2_with fail
    go_ret2
    exact NR.out _ HN.out (Below.refl _ _)
  by_cases h2 : 20 < X.size
  · have HN : Hid (rdTh s = none) := rdTh_form (fun h => by have := h.2.1; rw [HL.out] at this; omega)
    go_enter Tryd.func35, Tryd.ntmps35
    go_wp2_with fail
    go_ret2
    exact NR.out _ HN.out (Below.refl _ _)
  have w4 : IntKind.i64.wrap ((X.size : Int) - 4) = ((X.size - 4 : Nat) : Int) := by rw [IntWalk.i64_in _ (by omega)]; omega
  have w3 : IntKind.i64.wrap ((X.size : Int) - 3) = ((X.size - 3 : Nat) : Int) := by rw [IntWalk.i64_in _ (by omega)]; omega
  have l4 : X.size - 4 < X.size := by omega
  have l3 : X.size - 3 ≤ X.size := by omega
  have l4' : X.size - 4 ≤ X.size := by omega
  have HG : Hid ((body s).getD ((body s).length - 4) 0 = X[X.size - 4]) := by
    rw [Hid, HL.out, ← HX.out, List.getD_eq_getElem?_getD, List.getElem?_eq_getElem (by rw [Array.length_toList]; exact l4), Array.getElem_toList]; rfl
  by_cases h3 : X[X.size - 4] = 46
  case neg =>
    have HN : Hid (rdTh s = none) := rdTh_form (fun h => h3 (by rw [← HG.out]; exact h.2.2))
    have d1 : ((X[X.size - 4].toNat : Int) != 46) = true := by
      rw [bne_iff_ne]; intro e; exact h3 (UInt8.toNat_inj.1 (by show X[X.size - 4].toNat = 46; omega))
    clear h3
    go_enter Tryd.func35, Tryd.ntmps35
    go_wp2_with fail
    go_ret2
    exact NR.out _ HN.out (Below.refl _ _)
  have HFB : Hid (formB s) := ⟨by rw [HL.out]; omega, by rw [HL.out]; omega, by rw [HG.out, h3]⟩
  have d1 : ((X[X.size - 4].toNat : Int) != 46) = false := by rw [h3]; rfl
  have HWh : Hid ((X.extract 0 (X.size - 4)).data.toList = whS s) := by rw [Hid, ext0_txt, HX.out, whS, HL.out]
  have HPa : Hid ((⟨#[49]⟩ ++ X.extract (X.size - 3) X.size : ByteArray).data.toList = paS s) := by rw [Hid, part_txt _ _, HX.out, paS, HL.out]
  obtain ⟨WH, hWH⟩ : ∃ WH, X.extract 0 (X.size - 4) = WH := ⟨_, rfl⟩
  obtain ⟨PA, hPA⟩ : ∃ PA, X.extract (X.size - 3) X.size = PA := ⟨_, rfl⟩
  rw [hWH] at HWh
  rw [hPA] at HPa
  have zp : PA.size = 3 := by rw [← hPA, ByteArray.size_extract]; omega
  have zw : WH.size ≤ 20 := by rw [← hWH, ByteArray.size_extract]; omega
  have zpp : (⟨#[49]⟩ ++ PA : ByteArray).size ≤ 9223372036854775807 := by rw [ByteArray.size_append, zp]; decide
  have C1 := fun w1 => l01Value_any WH w1 (by omega)
  have C2 := fun w1 => l01Value_any (⟨#[49]⟩ ++ PA) w1 zpp
  rw [HWh.out] at C1
  rw [HPa.out] at C2
  have HC1 := hid C1
  have HC2 := hid C2
  have z1 : ¬ (9223372036854775807 < 1 + PA.size) := by omega
  clear C1 C2 h3 zp zw zpp
  go_enter Tryd.func35, Tryd.ntmps35
  go_wp2_with fail
  refine (HC1.out _).mono ?_
  rintro e w1 ⟨⟨v1, rfl, e1⟩, b1⟩
  have HB1 := hid b1
  have HE1 := hid e1
  clear b1 e1
  go_wp2_with fail
  refine (HC2.out _).mono ?_
  rintro e w2 ⟨⟨v2, rfl, e2⟩, b2⟩
  have HB2 := hid (HB1.out.trans (b2.mono HB1.out.size))
  have HE2 := hid e2
  clear b2 e2
  cases ha : numS (whS s) with
  | none =>
    have HN : Hid (rdTh s = none) := rdTh_wh ha
    have q1 : (none : Option Int).isSome = false := rfl
    clear ha
    go_wp2_with fail
    go_ret2
    exact NR.out _ HN.out HB2.out
  | some a =>
    obtain rfl : v1 = a := HE1.out a ha
    cases hb : numS (paS s) with
    | none =>
      have HN : Hid (rdTh s = none) := rdTh_pa hb
      have q1 : (none : Option Int).isSome = false := rfl
      have q2 : (some v1 : Option Int).isSome = true := rfl
      clear ha hb
      go_wp2_with fail
      go_ret2
      exact NR.out _ HN.out HB2.out
    | some b =>
      obtain rfl : v2 = b := HE2.out b hb
      have q1 : (some v1 : Option Int).isSome = true := rfl
      have q2 : (some v2 : Option Int).isSome = true := rfl
      by_cases hbig : 1000000000000000 < v1
      · have HN : Hid (rdTh s = none) := rdTh_big ha hb hbig
        clear ha hb
        go_wp2_with fail
        go_ret2
        exact NR.out _ HN.out HB2.out
      · have HV := hid (rdTh_valS HFB.out ha hb)
        have ra := numS_lt ha
        have rb := numS_lt hb
        have hval : Hid (valTh s v1 v2 = (-1) * (1000 * v1 + v2 - 1000)) := by rw [Hid, valTh, HNEG.out]; rfl
        have s1 : IntKind.i64.wrap (1000 * v1) = 1000 * v1 := IntWalk.i64_in _ (by omega)
        have s2 : IntKind.i64.wrap (1000 * v1 + v2) = 1000 * v1 + v2 := IntWalk.i64_in _ (by omega)
        have s3 : IntKind.i64.wrap (1000 * v1 + v2 - 1000) = 1000 * v1 + v2 - 1000 := IntWalk.i64_in _ (by omega)
        have s4 : IntKind.i64.wrap ((-1) * (1000 * v1 + v2 - 1000)) = valTh s v1 v2 := by rw [hval.out, IntWalk.i64_in _ (by omega)]
        have s5 : IntKind.i64.wrap (-(1000 * v1 + v2 - 1000)) = valTh s v1 v2 := by rw [hval.out, IntWalk.i64_in _ (by omega)]; omega
        obtain ⟨V, hVV⟩ : ∃ V, valTh s v1 v2 = V := ⟨_, rfl⟩
        rw [hVV] at s4 s5 HV
        clear hVV ha hb
        by_cases he : thS V = s
        · have hq : ((thS V).toList == s.toList) = true := sEq_iff.2 he
          have HN2 : Hid (rdTh s = some V) := by rw [Hid, HV.out, if_pos he]
          clear he
          go_wp2_with fail
          refine (spec_ThousandthsText_any V _).mono ?_
          rintro e w3 ⟨rfl, b3⟩
          go_wp2_with fail
          go_ret2
          rw [HN2.out]
          exact ⟨rfl, HB2.out.trans (b3.mono HB2.out.size)⟩
        · have hq : ((thS V).toList == s.toList) = false := sEq_f.2 he
          have HN2 : Hid (rdTh s = none) := by rw [Hid, HV.out, if_neg he]
          clear he
          go_wp2_with fail
          refine (spec_ThousandthsText_any V _).mono ?_
          rintro e w3 ⟨rfl, b3⟩
          go_wp2_with fail
          go_ret2
          rw [HN2.out]
          exact ⟨rfl, HB2.out.trans (b3.mono HB2.out.size)⟩

set_option maxHeartbeats 6000000 in
set_option maxRecDepth 100000 in
theorem readTh_pos (s : ByteArray) (w : World) (hs : s.size ≤ 1000000000) (hp0 : 0 < s.size) (hno : ∀ h0 : 0 < s.size, s[0] ≠ 45) :
    Calls Tryd.prog 35 #[.string s] w fun e w' => e = .returned (.tuple #[.int .i64 ((rdTh s).getD 0), .bool (rdTh s).isSome]) ∧ Below w.heap.size w w' := by
  have h0 : 0 < s.size := hp0
  have hd45 : s[0] ≠ 45 := hno h0
  have d0 : ((s[0].toNat : Int) == 45) = false := beq_false_of_ne (fun e => hd45 (UInt8.toNat_inj.1 (by show s[0].toNat = 45; omega)))
  have HX : Hid (s.data.toList = body s) := by rw [Hid, (no_45 hno).1]
  have HNEG : Hid (neg s = false) := (no_45 hno).2
  clear hno hp0 hd45
  have HL : Hid ((body s).length = s.size) := by rw [Hid, ← HX.out]; exact Array.length_toList ..
  have none_ret : ∀ (w' : World), rdTh s = none → Below w.heap.size w w' → (Ending.returned (.tuple #[.int .i64 0, .bool false]) = .returned (.tuple #[.int .i64 ((rdTh s).getD 0), .bool (rdTh s).isSome]) ∧ Below w.heap.size w w') := fun w' h hb => by rw [h]; exact ⟨rfl, hb⟩
  have NR := hid none_ret
  clear none_ret
  by_cases h1 : s.size < 5
  · have HN : Hid (rdTh s = none) := rdTh_form (fun h => by have := h.1; rw [HL.out] at this; omega)
    go_enter Tryd.func35, Tryd.ntmps35
    go_wp2_with fail
    go_ret2
    exact NR.out _ HN.out (Below.refl _ _)
  by_cases h2 : 20 < s.size
  · have HN : Hid (rdTh s = none) := rdTh_form (fun h => by have := h.2.1; rw [HL.out] at this; omega)
    go_enter Tryd.func35, Tryd.ntmps35
    go_wp2_with fail
    go_ret2
    exact NR.out _ HN.out (Below.refl _ _)
  have w4 : IntKind.i64.wrap ((s.size : Int) - 4) = ((s.size - 4 : Nat) : Int) := by rw [IntWalk.i64_in _ (by omega)]; omega
  have w3 : IntKind.i64.wrap ((s.size : Int) - 3) = ((s.size - 3 : Nat) : Int) := by rw [IntWalk.i64_in _ (by omega)]; omega
  have l4 : s.size - 4 < s.size := by omega
  have l3 : s.size - 3 ≤ s.size := by omega
  have l4' : s.size - 4 ≤ s.size := by omega
  have HG : Hid ((body s).getD ((body s).length - 4) 0 = s[s.size - 4]) := by
    rw [Hid, HL.out, ← HX.out, List.getD_eq_getElem?_getD, List.getElem?_eq_getElem (by rw [Array.length_toList]; exact l4), Array.getElem_toList]; rfl
  by_cases h3 : s[s.size - 4] = 46
  case neg =>
    have HN : Hid (rdTh s = none) := rdTh_form (fun h => h3 (by rw [← HG.out]; exact h.2.2))
    have d1 : ((s[s.size - 4].toNat : Int) != 46) = true := by
      rw [bne_iff_ne]; intro e; exact h3 (UInt8.toNat_inj.1 (by show s[s.size - 4].toNat = 46; omega))
    clear h3
    go_enter Tryd.func35, Tryd.ntmps35
    go_wp2_with fail
    go_ret2
    exact NR.out _ HN.out (Below.refl _ _)
  have HFB : Hid (formB s) := ⟨by rw [HL.out]; omega, by rw [HL.out]; omega, by rw [HG.out, h3]⟩
  have d1 : ((s[s.size - 4].toNat : Int) != 46) = false := by rw [h3]; rfl
  have HWh : Hid ((s.extract 0 (s.size - 4)).data.toList = whS s) := by rw [Hid, ext0_txt, HX.out, whS, HL.out]
  have HPa : Hid ((⟨#[49]⟩ ++ s.extract (s.size - 3) s.size : ByteArray).data.toList = paS s) := by rw [Hid, part_txt _ _, HX.out, paS, HL.out]
  obtain ⟨WH, hWH⟩ : ∃ WH, s.extract 0 (s.size - 4) = WH := ⟨_, rfl⟩
  obtain ⟨PA, hPA⟩ : ∃ PA, s.extract (s.size - 3) s.size = PA := ⟨_, rfl⟩
  rw [hWH] at HWh
  rw [hPA] at HPa
  have zp : PA.size = 3 := by rw [← hPA, ByteArray.size_extract]; omega
  have zw : WH.size ≤ 20 := by rw [← hWH, ByteArray.size_extract]; omega
  have zpp : (⟨#[49]⟩ ++ PA : ByteArray).size ≤ 9223372036854775807 := by rw [ByteArray.size_append, zp]; decide
  have C1 := fun w1 => l01Value_any WH w1 (by omega)
  have C2 := fun w1 => l01Value_any (⟨#[49]⟩ ++ PA) w1 zpp
  rw [HWh.out] at C1
  rw [HPa.out] at C2
  have HC1 := hid C1
  have HC2 := hid C2
  have z1 : ¬ (9223372036854775807 < 1 + PA.size) := by omega
  clear C1 C2 h3 zp zw zpp
  go_enter Tryd.func35, Tryd.ntmps35
  go_wp2_with fail
  refine (HC1.out _).mono ?_
  rintro e w1 ⟨⟨v1, rfl, e1⟩, b1⟩
  have HB1 := hid b1
  have HE1 := hid e1
  clear b1 e1
  go_wp2_with fail
  refine (HC2.out _).mono ?_
  rintro e w2 ⟨⟨v2, rfl, e2⟩, b2⟩
  have HB2 := hid (HB1.out.trans (b2.mono HB1.out.size))
  have HE2 := hid e2
  clear b2 e2
  cases ha : numS (whS s) with
  | none =>
    have HN : Hid (rdTh s = none) := rdTh_wh ha
    have q1 : (none : Option Int).isSome = false := rfl
    clear ha
    go_wp2_with fail
    go_ret2
    exact NR.out _ HN.out HB2.out
  | some a =>
    obtain rfl : v1 = a := HE1.out a ha
    cases hb : numS (paS s) with
    | none =>
      have HN : Hid (rdTh s = none) := rdTh_pa hb
      have q1 : (none : Option Int).isSome = false := rfl
      have q2 : (some v1 : Option Int).isSome = true := rfl
      clear ha hb
      go_wp2_with fail
      go_ret2
      exact NR.out _ HN.out HB2.out
    | some b =>
      obtain rfl : v2 = b := HE2.out b hb
      have q1 : (some v1 : Option Int).isSome = true := rfl
      have q2 : (some v2 : Option Int).isSome = true := rfl
      by_cases hbig : 1000000000000000 < v1
      · have HN : Hid (rdTh s = none) := rdTh_big ha hb hbig
        clear ha hb
        go_wp2_with fail
        go_ret2
        exact NR.out _ HN.out HB2.out
      · have HV := hid (rdTh_valS HFB.out ha hb)
        have ra := numS_lt ha
        have rb := numS_lt hb
        have hval : Hid (valTh s v1 v2 = 1 * (1000 * v1 + v2 - 1000)) := by rw [Hid, valTh, HNEG.out]; rfl
        have s1 : IntKind.i64.wrap (1000 * v1) = 1000 * v1 := IntWalk.i64_in _ (by omega)
        have s2 : IntKind.i64.wrap (1000 * v1 + v2) = 1000 * v1 + v2 := IntWalk.i64_in _ (by omega)
        obtain ⟨V, hVV⟩ : ∃ V, 1000 * v1 + v2 - 1000 = V := ⟨_, rfl⟩
        have hv2 : valTh s v1 v2 = V := by rw [hval.out, ← hVV]; omega
        have s3 : IntKind.i64.wrap (1000 * v1 + v2 - 1000) = V := by rw [IntWalk.i64_in _ (by omega), hVV]
        have s4 : IntKind.i64.wrap (1 * V) = V := by rw [IntWalk.i64_in _ (by omega)]; omega
        have s5 : IntKind.i64.wrap V = V := IntWalk.i64_in _ (by omega)
        rw [hv2] at HV
        clear hv2
        clear hVV ha hb
        by_cases he : thS V = s
        · have hq : ((thS V).toList == s.toList) = true := sEq_iff.2 he
          have HN2 : Hid (rdTh s = some V) := by rw [Hid, HV.out, if_pos he]
          clear he
          go_wp2_with fail
          refine (spec_ThousandthsText_any V _).mono ?_
          rintro e w3 ⟨rfl, b3⟩
          go_wp2_with fail
          go_ret2
          rw [HN2.out]
          exact ⟨rfl, HB2.out.trans (b3.mono HB2.out.size)⟩
        · have hq : ((thS V).toList == s.toList) = false := sEq_f.2 he
          have HN2 : Hid (rdTh s = none) := by rw [Hid, HV.out, if_neg he]
          clear he
          go_wp2_with fail
          refine (spec_ThousandthsText_any V _).mono ?_
          rintro e w3 ⟨rfl, b3⟩
          go_wp2_with fail
          go_ret2
          rw [HN2.out]
          exact ⟨rfl, HB2.out.trans (b3.mono HB2.out.size)⟩

theorem spec_ReadThousandths_any (s : ByteArray) (w : World) (hs : s.size ≤ 1000000000) :
    Calls Tryd.prog 35 #[.string s] w fun e w' => e = .returned (.tuple #[.int .i64 ((rdTh s).getD 0), .bool (rdTh s).isSome]) ∧ Below w.heap.size w w' := by
  by_cases h0 : 0 < s.size
  · by_cases h45 : s[0] = 45
    · exact readTh_neg s w hs h0 h45
    · exact readTh_pos s w hs h0 (fun _ => h45)
  · exact readTh_nil s w h0

end Go.Proofs.YtdbgncinaacheaaDoor
