/- l01Split of the reference: the pieces of a text. -/
import Derived.Test.YtdbgncinaacheaaGreatDoorLay
namespace Go.Proofs.YtdbgncinaacheaaGreatDoor
open Go.RowKit
open Go.Lib hiding intOf

def SplRel (l : Txt) (c : UInt8) (w : World) (o f i : Value) (wr : World) : Prop :=
  ∃ (k fr : Nat) (ini : List Txt), i = .int .i64 k ∧ f = .int .i64 fr ∧ OwnR encS 1 9 w.heap.size wr o (ini.map tb) ∧ Below w.heap.size w wr ∧ ini.length ≤ k ∧
    ((k ≤ l.length ∧ fr ≤ k ∧ pieces c (l.take k) = ini ++ [(l.take k).drop fr]) ∨ (k = l.length + 1 ∧ ini = pieces c l))
theorem ext_tb (s : ByteArray) (a b : Nat) : s.extract a b = tb ((s.data.toList.take b).drop a) := by
  apply data_inj
  rw [tb_data, ByteArray.data_extract, Array.toList_extract]
  rw [List.extract_eq_take_drop, List.drop_take]
theorem take_all {l : Txt} {k : Nat} (h : k = l.length) : l.take k = l := by rw [h, List.take_length]

set_option maxHeartbeats 1000000 in
set_option maxRecDepth 100000 in
theorem l01Split_any (s : ByteArray) (c : UInt8) (w : World) (hs : s.size ≤ 100000000000) :
    Calls Tryz.prog 31 #[.string s, .int .u8 (c.toNat : Int)] w fun e w' => ∃ v, e = .returned v ∧ OwnR encS 1 9 w.heap.size w' v ((pieces c s.data.toList).map tb) ∧ Below w.heap.size w w' := by
  have HL : Hid (s.data.toList.length = s.size) := Array.length_toList ..
  go_enter Tryz.func31, Tryz.ntmps31
  go_wp2_with fail
  go_loopw [5, 6, 7] (fun o f i wr => SplRel s.data.toList c w o f i wr) (fun _ _ i _ => s.size + 2 - (intOf i).toNat)
  case atStart => exact ⟨0, 0, [], rfl, rfl, OwnR.made _ _ _ _ _ (Nat.le_refl _), below_new _ _, by simp, Or.inl ⟨by omega, by omega, by simp [pieces]⟩⟩
  case round =>
    obtain ⟨k, fr, ini, rfl, rfl, ho, hbel, hik, hrel⟩ := hrel
    have HO := hid ho
    have HB := hid hbel
    clear ho hbel
    rcases hrel with ⟨hk, hfr, hp⟩ | ⟨hk, hp⟩
    · have HP := hid hp
      clear hp
      rw [HL.out] at hk
      have hi10 : ini.length ≤ 100000000001 := by omega
      -- what is appended, and the round behind it
      by_cases hlt : k < s.size
      · have HBK : Hid (s[k] = s.data.toList[k]'(by rw [HL.out]; exact hlt)) := by rw [Hid, Array.getElem_toList]; rfl
        by_cases hc : s[k] = c
        · have hcI : (s[k].toNat : Int) = (c.toNat : Int) := by rw [hc]
          have HN : Hid (pieces c (s.data.toList.take (k + 1)) = (ini ++ [(s.data.toList.take k).drop fr]) ++ [(s.data.toList.take (k + 1)).drop (k + 1)]) := by
            rw [Hid, List.take_succ_eq_append_getElem (by rw [HL.out]; exact hlt), pieces_snoc c _ _ _ _ HP.out, ← HBK.out, if_pos hc]
            have e2 : (s.data.toList.take k ++ [s[k]]).drop (k + 1) = [] := List.drop_eq_nil_of_le (by simp; omega)
            rw [e2]
            exact (List.append_assoc ini [(s.data.toList.take k).drop fr] [[]]).symm
          clear hc
          go_wp2_with (at_builtin; refine wpList_appS rfl (.tmp 26) (.tmp 31) rfl w.heap.size _ _ _ [s.extract fr k] rfl rfl ((show OwnR _ _ _ _ _ _ _ from HO.out).kept ((Kept.refl (fun _ => False) _).alloc _) (fun _ _ e => e)) (strs_one _ _ _) ?c2 ?c3 ?_)
          case c2 => simp; omega
          case c3 => have := HB.out.size; simp; omega
          intro v1 w5 hv1 hk1 hb1
          have hlo := HO.out.lt
          have kk : Kept (fun c => w.heap.size ≤ c) wr w5 := ((Kept.refl (fun c => w.heap.size ≤ c) wr).alloc (.cells #[.string (s.extract fr k)] 9)).trans (hk1.mono (fun c _ h => (hlo c h).1))
          have HB5 := hid (HB.out.trans (kk.below HB.out.size (fun c h => by omega)))
          have HV : Hid (OwnR encS 1 9 w.heap.size w5 v1 ((ini ++ [(s.data.toList.take k).drop fr]).map tb)) := by
            rw [Hid, List.map_append]; rw [ext_tb] at hv1; exact hv1
          clear hv1 hk1 hb1 kk hlo
          go_wp2_with fail
          go_roundw
          case rel => exact ⟨k + 1, k + 1, _, by go_num, by go_num, HV.out, HB5.out, by simp; omega, Or.inl ⟨by rw [HL.out]; omega, by omega, HN.out⟩⟩
          case measure => simp [intOf]; omega
        · have hcI : ¬ ((s[k].toNat : Int) = (c.toNat : Int)) := fun e => hc (UInt8.toNat_inj.1 (by omega))
          have HN : Hid (pieces c (s.data.toList.take (k + 1)) = ini ++ [(s.data.toList.take (k + 1)).drop fr]) := by
            rw [Hid, List.take_succ_eq_append_getElem (by rw [HL.out]; exact hlt), pieces_snoc c _ _ _ _ HP.out, ← HBK.out, if_neg hc]
            rw [List.drop_append_of_le_length (by simp; omega)]
          have d1 : ((s[k].toNat : Int) == (c.toNat : Int)) = false := beq_false_of_ne hcI
          have d2 : ((k : Int) == (s.size : Int)) = false := beq_false_of_ne (by omega)
          clear hc
          go_wp2_with fail
          go_roundw
          case rel => exact ⟨k + 1, fr, ini, by go_num, rfl, HO.out, HB.out, by omega, Or.inl ⟨by rw [HL.out]; omega, by omega, HN.out⟩⟩
          case measure => simp [intOf]; omega
      · obtain rfl : k = s.size := by omega
        have HN : Hid (ini ++ [(s.data.toList.take s.size).drop fr] = pieces c s.data.toList) := by
          have := HP.out
          rw [take_all HL.out.symm] at this ⊢
          exact this.symm
        go_wp2_with (at_builtin; refine wpList_appS rfl (.tmp 26) (.tmp 31) rfl w.heap.size _ _ _ [s.extract fr s.size] rfl rfl ((show OwnR _ _ _ _ _ _ _ from HO.out).kept ((Kept.refl (fun _ => False) _).alloc _) (fun _ _ e => e)) (strs_one _ _ _) ?c2 ?c3 ?_)
        case c2 => simp; omega
        case c3 => have := HB.out.size; simp; omega
        intro v1 w5 hv1 hk1 hb1
        have hlo := HO.out.lt
        have kk : Kept (fun c => w.heap.size ≤ c) wr w5 := ((Kept.refl (fun c => w.heap.size ≤ c) wr).alloc (.cells #[.string (s.extract fr s.size)] 9)).trans (hk1.mono (fun c _ h => (hlo c h).1))
        have HB5 := hid (HB.out.trans (kk.below HB.out.size (fun c h => by omega)))
        have HV : Hid (OwnR encS 1 9 w.heap.size w5 v1 ((pieces c s.data.toList).map tb)) := by
          rw [Hid, ← HN.out, List.map_append]; rw [ext_tb] at hv1; exact hv1
        have HNL : Hid ((pieces c s.data.toList).length ≤ s.size + 1) := by rw [Hid, ← HN.out]; simp; omega
        clear hv1 hk1 hb1 kk hlo
        go_wp2_with fail
        go_roundw
        case rel => exact ⟨s.size + 1, s.size + 1, _, by go_num, by go_num, HV.out, HB5.out, HNL.out, Or.inr ⟨by rw [HL.out], rfl⟩⟩
        case measure => simp [intOf]
    · rw [HL.out] at hk
      subst hk hp
      go_wp2_with fail
      go_ret
      exact ⟨_, rfl, HO.out, HB.out⟩

end Go.Proofs.YtdbgncinaacheaaGreatDoor
