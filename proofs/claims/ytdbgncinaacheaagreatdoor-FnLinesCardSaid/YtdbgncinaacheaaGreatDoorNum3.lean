/- Numbers in words: l03Words, l01Value of the reference. -/
import Derived.Test.YtdbgncinaacheaaGreatDoorLay
import Derived.Test.YtdbgncinaacheaaGreatDoorThou
namespace Go.Proofs.YtdbgncinaacheaaGreatDoor
open Go.RowKit
open Go.Lib hiding intOf

theorem decS_tb (m : Nat) : decS m = tb (itoa (m : Int)) := by rw [decS_eq, itoa_nonneg]; rfl
theorem decI_tb (z : Int) : decI z = tb (itoa z) := rfl
def wordsT (zs : List Int) : Txt := zs.flatMap (fun z => 32 :: itoa z)
theorem wordsT_succ (zs : List Int) (k : Nat) (h : k < zs.length) : wordsT (zs.take (k + 1)) = wordsT (zs.take k) ++ 32 :: itoa zs[k] := by
  unfold wordsT
  rw [List.take_succ_eq_append_getElem h, List.flatMap_append]
  simp only [List.flatMap_cons, List.flatMap_nil, List.append_nil]
def In64 (zs : List Int) : Prop := ∀ z ∈ zs, 0 ≤ z ∧ z ≤ 9223372036854775807
theorem wordsT_len {zs : List Int} (h : In64 zs) (k : Nat) : (wordsT (zs.take k)).length ≤ 22 * k := by
  induction k with
  | zero => simp [wordsT]
  | succ k ih =>
    by_cases hk : k < zs.length
    · rw [wordsT_succ zs k hk]
      have := h zs[k] (List.getElem_mem hk)
      have := itoa_length_le zs[k] (by omega) (by omega)
      simp only [List.length_append, List.length_cons]; omega
    · rw [List.take_of_length_le (by omega)]
      rw [List.take_of_length_le (by omega)] at ih; omega
def WdRel (zs : List Int) (w : World) (o i : Value) (wr : World) : Prop := ∃ k : Nat, i = .int .i64 k ∧ k ≤ zs.length ∧ o = .string (tb (wordsT (zs.take k))) ∧ Below w.heap.size w wr

set_option maxHeartbeats 1000000 in
set_option maxRecDepth 100000 in
theorem l03Words_any (v : Value) (zs : List Int) (w : World) (h : Ints .i64 w v zs) (h0 : In64 zs) (hl : zs.length ≤ 10) :
    Calls Tryz.prog 20 #[v] w fun e w' => e = .returned (.string (tb (wordsT zs))) ∧ Below w.heap.size w w' := by
  obtain ⟨_, a, cap, rfl, hc⟩ := h
  have HC := hid hc
  have H0 := hid h0
  clear hc h0
  go_enter Tryz.func20, Tryz.ntmps20
  go_wp2_with fail
  go_loopw [3, 4] (fun o i wr => WdRel zs w o i wr) (fun _ i _ => zs.length - (intOf i).toNat)
  case atStart => exact ⟨0, rfl, by omega, rfl, Below.refl _ _⟩
  case round =>
    obtain ⟨k, rfl, hk, rfl, hbel⟩ := hrel
    have HB := hid hbel
    clear hbel
    have hsz : (tb (wordsT (zs.take k))).size ≤ 220 := by rw [tb_size]; have := wordsT_len H0.out k; omega
    by_cases hlt : k < zs.length
    · obtain ⟨b, off, rfl, hcc⟩ := HC.out.resolve_left (fun e => by rw [e] at hlt; simp at hlt)
      have c0 := hcc k hlt
      have c0 := (HB.out.cell (p := ⟨b, off + k, none⟩) (World.block_lt_of_cell? _ _ c0)).trans c0
      have hz := H0.out zs[k] (List.getElem_mem hlt)
      obtain ⟨m, hm⟩ : ∃ m : Nat, zs[k] = m := ⟨zs[k].toNat, by omega⟩
      have HS : Hid (wordsT (zs.take (k + 1)) = wordsT (zs.take k) ++ 32 :: itoa (m : Int)) := by rw [Hid, wordsT_succ zs k hlt, hm]
      rw [hm] at c0
      have hm1 : m ≤ 9223372036854775807 := by omega
      have z1 := decS_sz19 m hm1
      clear hcc hz hm
      go_wp2_with fail
      refine (l01Dec_any m _ hm1).mono ?_
      rintro e w1 ⟨rfl, b1⟩
      have HB1 := hid (HB.out.trans (b1.mono HB.out.size))
      clear b1
      go_wp2_with fail
      go_roundw
      case rel =>
        refine ⟨k + 1, by go_num, by omega, ?_, HB1.out⟩
        rw [HS.out, decS_tb]
        simp only [← tb_app]
        congr 1
        show tb _ ++ tb [32] ++ _ = tb _ ++ tb ([32] ++ itoa (m : Int))
        rw [← tb_app]
        exact ByteArray.append_assoc
      case measure => simp [intOf]; omega
    · obtain rfl : k = zs.length := by omega
      rw [List.take_length]
      go_wp2_with fail
      go_ret
      exact ⟨rfl, HB.out⟩

theorem decFrom_bad {l : Txt} (k : Nat) (hk : k < l.length) (h : l[k].toNat < 48 ∨ 57 < l[k].toNat) : decFrom 0 l = none := by
  cases hd : decFrom 0 l with
  | none => rfl
  | some n =>
    obtain ⟨d, hd⟩ := digit_of_decFrom _ _ _ hd k l[k] (List.getElem?_eq_getElem hk)
    have := digitVal_eq hd
    omega
def VaRel (l : Txt) (n i : Value) : Prop := ∃ k m : Nat, i = .int .i64 k ∧ n = .int .i64 m ∧ k ≤ l.length ∧ decFrom 0 (l.take k) = some m ∧ m < 10 ^ k

theorem isSome_ite {c : Prop} [Decidable c] {n : Int} : (if c then some n else none : Option Int).isSome = decide c := by
  by_cases h : c <;> simp [h]
set_option maxHeartbeats 1000000 in
set_option maxRecDepth 100000 in
theorem l01Value_any (s : ByteArray) (w : World) (hs : s.size ≤ 9223372036854775807) :
    Calls Tryz.prog 46 #[.string s] w fun e w' => (∃ v : Int, e = .returned (.tuple #[.int .i64 v, .bool (numS s.data.toList).isSome]) ∧ ∀ z, numS s.data.toList = some z → v = z) ∧ Below w.heap.size w w' := by
  have hsl : s.data.toList.length = s.size := Array.length_toList ..
  have HL := hid hsl
  clear hsl
  by_cases h1 : s.size < 1
  · have hr : Hid (numS s.data.toList = none) := numS_long (by rw [HL.out]; omega)
    go_enter Tryz.func46, Tryz.ntmps46
    go_wp2_with fail
    go_ret2
    exact ⟨⟨0, by rw [hr.out]; rfl, fun z hz => by rw [hr.out] at hz; cases hz⟩, Below.refl _ _⟩
  by_cases h2 : 18 < s.size
  · have hr : Hid (numS s.data.toList = none) := numS_long (by rw [HL.out]; omega)
    go_enter Tryz.func46, Tryz.ntmps46
    go_wp2_with fail
    go_ret2
    exact ⟨⟨0, by rw [hr.out]; rfl, fun z hz => by rw [hr.out] at hz; cases hz⟩, Below.refl _ _⟩
  go_enter Tryz.func46, Tryz.ntmps46
  go_wp2_with fail
  go_loop [4, 5] (fun n i => VaRel s.data.toList n i) (fun _ i => s.size - (intOf i).toNat)
  case atStart => exact ⟨0, 0, rfl, rfl, by omega, rfl, by decide⟩
  case round =>
    obtain ⟨k, m, rfl, rfl, hk, hd, hm⟩ := hrel
    rw [HL.out] at hk
    have HD := hid hd
    have hm18 : m < 1000000000000000000 := Nat.lt_of_lt_of_le hm (Nat.pow_le_pow_right (by omega) (by omega : k ≤ 18))
    have HM := hid hm
    have hm17 : k < s.size → m < 100000000000000000 := fun hlt => Nat.lt_of_lt_of_le hm (Nat.pow_le_pow_right (by omega) (by omega : k ≤ 17))
    clear hd hm
    by_cases hlt : k < s.size
    · have HBK : Hid (s[k] = s.data.toList[k]'(by rw [HL.out]; exact hlt)) := by rw [Hid, Array.getElem_toList]; rfl
      by_cases g1 : s[k].toNat < 48 ∨ 57 < s[k].toNat
      · have hr : Hid (numS s.data.toList = none) := numS_bad (decFrom_bad k (by rw [HL.out]; exact hlt) (by rw [← HBK.out]; exact g1))
        rcases g1 with g1 | g1
        · go_wp2_with fail
          go_ret2
          exact ⟨⟨0, by rw [hr.out]; rfl, fun z hz => by rw [hr.out] at hz; cases hz⟩, Below.refl _ _⟩
        · go_wp2_with fail
          all_goals go_ret2
          all_goals exact ⟨⟨0, by rw [hr.out]; rfl, fun z hz => by rw [hr.out] at hz; cases hz⟩, Below.refl _ _⟩
      · obtain ⟨d, hd⟩ : ∃ d : Nat, s[k].toNat = 48 + d := ⟨s[k].toNat - 48, by omega⟩
        have hd9 : d ≤ 9 := by omega
        have hm16 := hm17 hlt
        have HD2 : Hid (decFrom 0 (s.data.toList.take (k + 1)) = some (m * 10 + d)) := by
          rw [Hid, List.take_succ_eq_append_getElem (by rw [HL.out]; exact hlt), decFrom_snoc, HD.out, ← HBK.out]
          have : digitVal s[k] = some d := by
            unfold digitVal
            rw [if_pos (by omega), hd]; congr 1; omega
          simp [this]
        have HM2 : Hid (m * 10 + d < 10 ^ (k + 1)) := by rw [Hid, Nat.pow_succ]; have := HM.out; omega
        have s1 : IntKind.u8.wrap ((s[k].toNat : Int) - 48) = d := by rw [IntWalk.u8_in _ (by omega)]; omega
        have s2 : IntKind.i64.wrap (10 * (m : Int)) = 10 * m := IntWalk.i64_in _ (by omega)
        have s3 : IntKind.i64.wrap (10 * (m : Int) + d) = 10 * m + d := IntWalk.i64_in _ (by omega)
        have s4 : IntKind.i64.wrap (d : Int) = d := IntWalk.i64_in _ (by omega)
        go_wp2_with fail
        go_round
        case rel => exact ⟨k + 1, m * 10 + d, by go_num, by go_num, by rw [HL.out]; omega, HD2.out, HM2.out⟩
        case measure => simp [intOf]; omega
    · obtain rfl : k = s.size := by omega
      have HR : Hid (numS s.data.toList = if decDigits m = s.data.toList then some (m : Int) else none) := by
        have := HD.out
        rw [List.take_of_length_le (by rw [HL.out]; omega)] at this
        exact numS_ok (by rw [HL.out]; omega) (by rw [HL.out]; omega) this
      have HE : Hid (((decS m).toList == s.toList) = decide (decDigits m = s.data.toList)) := by
        show sEq (decS m) s = _
        have e : decS m = s ↔ decDigits m = s.data.toList := by
          rw [decS_eq]
          exact ⟨fun e => by rw [← e], fun e => by rw [e]⟩
        by_cases h : decS m = s
        · rw [sEq_iff.2 h, decide_eq_true (e.1 h)]
        · rw [sEq_f.2 h, decide_eq_false (fun h' => h (e.2 h'))]
      go_wp2_with fail
      refine (l01Dec_any m _ (by omega)).mono ?_
      rintro e w1 ⟨rfl, b1⟩
      go_wp2_with fail
      go_ret2
      refine ⟨⟨m, ?_, fun z hz => ?_⟩, b1⟩
      · rw [HR.out, isSome_ite]
        rw [HE.out]; rfl
      · rw [HR.out] at hz
        split at hz
        · simpa using hz
        · cases hz

end Go.Proofs.YtdbgncinaacheaaGreatDoor
