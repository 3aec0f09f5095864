/- FirstWrongLine of both sides. -/
import Derived.Test.YtdbgncinaacheaaDoorRnI
import Derived.Test.YtdbgncinaacheaaDoorRnS
namespace Go.Proofs.YtdbgncinaacheaaDoor
open Go.RowKit
open Go.Lib hiding intOf

theorem join_lns : ∀ {xs : List Txt}, xs ≠ [] → join xs [10] ++ [10] = lns xs
  | [x], _ => by simp [join, List.intercalate, lns]
  | x :: y :: r, _ => by
    have h := join_lns (xs := y :: r) (by simp)
    have e : join (x :: y :: r) [10] = x ++ [10] ++ join (y :: r) [10] := by simp [join, List.intercalate]
    rw [e, List.append_assoc, h]
    simp [lns]
theorem pre_succ (s : Txt) (k : Nat) (h : k < (lnL s).length) : pre s (k + 1) = pre s k ++ (lnL s)[k] ++ [10] := by
  have := lns_succ (fun l : Txt => l) (lnL s) k h
  simp only [List.map_id'] at this
  rw [pre, pre, this, List.append_assoc]
theorem fwA_L {s : Txt} (h1 : ¬ 4000 < s.length) (h2 : s ≠ []) : fwA s = fwL s ∧ fwB s = 0 := ⟨by rw [fwA, if_neg h1, if_neg h2], by rw [fwB, if_neg h1]⟩
/-- A reader's answer: its flag. -/
theorem outR_ok {f : Nat} {args : Array Value} {w : World} {r : Option Net} {b : Bool} (h : Calls Tryd.prog f args w (OutR w r)) (hb : r.isSome = b) :
    Calls Tryd.prog f args w fun e w' => ∃ (a0 a1 : Option Addr) (n0 k0 n1 k1 : Nat), e = .returned (.tuple #[.agg #[.slice a0 n0 k0, .slice a1 n1 k1], .bool b]) ∧ Below w.heap.size w w' :=
  h.mono fun e w' ⟨nv, pv, he, ha, _, _, hB⟩ => by
    obtain ⟨a0, k0, rfl⟩ := ha.at.1.shape
    obtain ⟨a1, k1, rfl⟩ := ha.at.2.2.shape
    exact ⟨_, _, _, _, _, _, by rw [he, hb], hB⟩
def FwRel (s : Txt) (w1 : World) (i : Value) (wr : World) : Prop :=
  ∃ k : Nat, i = .int .i64 k ∧ k ≤ (lnL s).length ∧ (∀ j, j < k → okB (pre s (j + 1)) = true) ∧ Below w1.heap.size w1 wr

set_option maxHeartbeats 2000000 in
set_option maxRecDepth 100000 in
theorem impl_FirstWrongLine_any (s : ByteArray) (w : World) (hs : s.size ≤ 2000000) (hy : Lay w) :
    Calls Tryd.prog 27 #[.string s] w fun e w' => e = .returned (.tuple #[.int .i64 (fwA s.data.toList), .int .i64 (fwB s.data.toList)]) ∧ Below w.heap.size w w' := by
  have HY := hid hy
  have hdl := data_len s
  by_cases h1 : 4000 < s.size
  · have hr : Hid (fwA s.data.toList = 0 ∧ fwB s.data.toList = 3) := by rw [Hid, fwA, fwB, hdl, if_pos h1, if_pos h1]; exact ⟨rfl, rfl⟩
    clear hdl
    go_enter Tryd.func27, Tryd.ntmps27
    go_wp2_with fail
    go_ret2
    exact ⟨ret_two hr.out, Below.refl _ _⟩
  by_cases h2 : s.data.toList = []
  · have hr : Hid (fwA s.data.toList = 0 ∧ fwB s.data.toList = 0) := by rw [Hid, h2]; exact ⟨rfl, rfl⟩
    have dE : (s.toList == ([] : List UInt8)) = true := by rw [ByteArray.toList_eq, h2]; rfl
    clear hdl h2
    go_enter Tryd.func27, Tryd.ntmps27
    go_wp2_with fail
    go_ret2
    exact ⟨ret_two hr.out, Below.refl _ _⟩
  have hL0 := fwA_L (s := s.data.toList) (by rw [hdl]; exact h1) h2
  have dE : (s.toList == ([] : List UInt8)) = false := by rw [ByteArray.toList_eq]; exact beq_false_of_ne h2
  have HFA := hid hL0
  obtain ⟨T, hT⟩ : ∃ T, s.data.toList = T := ⟨_, rfl⟩
  have C := linesOf_any s w (by omega) hy.maxl
  rw [hT] at C HFA hdl ⊢
  obtain ⟨L, hL⟩ : ∃ L, lnL T = L := ⟨_, rfl⟩
  obtain ⟨R, hR⟩ : ∃ R, lnR T = R := ⟨_, rfl⟩
  have hLl := pieces_len 10 T
  rw [ln_eq, hL] at hLl
  simp at hLl
  have hLl : L.length ≤ 4000 := by omega
  rw [hL, hR] at C
  have HTL : Hid (T.length ≤ 4000) := by rw [Hid]; omega
  clear hL0 hT h2 hy hdl
  go_enter Tryd.func27, Tryd.ntmps27
  go_wp2_with fail
  refine C.mono ?_
  rintro e w1 ⟨lv, rfl, hrow, hcap, b1⟩
  obtain ⟨la, lc, rfl⟩ := hrow.shape
  rw [List.length_map] at hrow hcap ⊢
  have HR1 := hid hrow
  have HB1 := hid b1
  have hcap := hcap.le
  clear C hrow b1
  go_wp2_with fail
  go_loopw [21] (fun i wr => FwRel T w1 i wr) (fun i _ => L.length - (intOf i).toNat)
  case atStart => exact ⟨0, rfl, by omega, fun j hj => by omega, Below.refl _ _⟩
  case round =>
    obtain ⟨k, rfl, hk, hall, hbel⟩ := hrel
    rw [hL] at hk
    have HA := hid hall
    have HBL := hid hbel
    clear hall hbel
    by_cases hlt : k < L.length
    · have hltN : k < (lnL T).length := by rw [hL]; exact hlt
      have R2 := (HR1.out.below HBL.out).take (k + 1) (by simp; omega) lc
      rw [← List.map_take] at R2
      have hne : L.take (k + 1) ≠ [] := fun e => by
        have := congrArg List.length e
        rw [List.length_take, List.length_nil] at this
        omega
      have hjn := join_lns hne
      have hpre : lns (L.take (k + 1)) = pre T (k + 1) := by rw [pre, hL]
      have hpl := pre_len T (k + 1)
      have HTL2 := HTL.out
      have hjl : (join (L.take (k + 1)) [10]).length ≤ 4000 := by
        have := congrArg List.length hjn
        rw [hpre] at this
        simp at this; omega
      have CJ := join_any _ (L.take (k + 1)) ⟨#[10]⟩ wr R2 (CapOk.mk (by omega)) (by show (join (L.take (k + 1)) [10]).length ≤ _; omega) (by simp; omega)
      obtain ⟨J, hJ⟩ : ∃ J, join (L.take (k + 1)) [10] = J := ⟨_, rfl⟩
      have hj2 : (⟨#[10]⟩ : ByteArray).data.toList = [10] := rfl
      rw [hj2, hJ] at CJ
      rw [hJ, hpre] at hjn
      rw [hJ] at hjl
      have HE : Hid (tb J ++ ⟨#[10]⟩ = tb (pre T (k + 1))) := by rw [Hid, tb_nl, hjn]
      have hsz : ¬ (9223372036854775807 < (tb J).size + 1) := by rw [tb_size]; omega
      obtain ⟨bo, hbo⟩ : ∃ bo, okB (pre T (k + 1)) = bo := ⟨_, rfl⟩
      have CR : Hid (∀ W, Below w.heap.size w W → _) := fun W hW => outR_ok (b := bo) (impl_ReadNetwork_any (tb (pre T (k + 1))) W (by rw [tb_size]; omega) (HY.out.below hW)) (by rw [tb_data]; exact hbo)
      have HBO := hid hbo
      clear R2 hne hjn hpre hpl HTL2 hjl hJ hj2 hbo
      go_wp2_with fail
      refine CJ.mono ?_
      rintro e w2 ⟨rfl, b2⟩
      have HBL2 := hid (HBL.out.trans (b2.mono HBL.out.size))
      clear b2 CJ
      go_wp2_with fail
      rw [HE.out]
      refine (CR.out _ (HB1.out.trans (HBL2.out.mono HB1.out.size))).mono ?_
      rintro e w3 ⟨a0, a1, n0, k0, n1, k1, rfl, b3⟩
      have HBL3 := hid (HBL2.out.trans ((b3.trans ((below_new w3 (.cells #[.slice a0 n0 k0, .slice a1 n1 k1] 25)).mono b3.size)).mono HBL2.out.size))
      clear b3 CR
      cases bo
      · have hr : Hid (fwA T = k ∧ fwB T = 0) := ⟨by rw [HFA.out.1]; exact fwL_hit k hltN HBO.out HA.out, HFA.out.2⟩
        go_wp2_with fail
        go_ret2
        exact ⟨ret_two hr.out, HB1.out.trans (HBL3.out.mono HB1.out.size)⟩
      · go_wp2_with fail
        go_roundw
        case rel =>
          refine ⟨k + 1, by go_num, by omega, fun j hj => ?_, HBL3.out⟩
          rcases (by omega : j < k ∨ j = k) with hj | rfl
          · exact HA.out j hj
          · exact HBO.out
        case measure => simp [intOf]; omega
    · obtain rfl : k = L.length := by omega
      have HE := hid (fwL_end (s := T) (fun j hj => HA.out j (by rw [hL] at hj; exact hj)))
      by_cases hR0 : R = []
      · have hr : Hid (fwA T = -1 ∧ fwB T = 0) := ⟨by rw [HFA.out.1, HE.out, if_pos (by rw [hR]; exact hR0)], HFA.out.2⟩
        have dR : ((tb R).toList == ([] : List UInt8)) = true := tb_beq_t hR0
        clear hR0
        go_wp2_with fail
        go_ret2
        exact ⟨ret_two hr.out, HB1.out.trans (HBL.out.mono HB1.out.size)⟩
      · have hr : Hid (fwA T = L.length ∧ fwB T = 0) := ⟨by rw [HFA.out.1, HE.out, if_neg (by rw [hR]; exact hR0), hL], HFA.out.2⟩
        have dR : ((tb R).toList == ([] : List UInt8)) = false := tb_beq hR0
        clear hR0
        go_wp2_with fail
        go_ret2
        exact ⟨ret_two hr.out, HB1.out.trans (HBL.out.mono HB1.out.size)⟩

def FwsRel (s : Txt) (w1 : World) (h i : Value) (wr : World) : Prop :=
  ∃ k : Nat, i = .int .i64 k ∧ h = .string (tb (pre s k)) ∧ k ≤ (lnL s).length ∧ (∀ j, j < k → okB (pre s (j + 1)) = true) ∧ Below w1.heap.size w1 wr

set_option maxHeartbeats 2000000 in
set_option maxRecDepth 100000 in
theorem spec_FirstWrongLine_any (s : ByteArray) (w : World) (hs : s.size ≤ 2000000) :
    Calls Tryd.prog 28 #[.string s] w fun e w' => e = .returned (.tuple #[.int .i64 (fwA s.data.toList), .int .i64 (fwB s.data.toList)]) ∧ Below w.heap.size w w' := by
  have hdl := data_len s
  by_cases h1 : 4000 < s.size
  · have hr : Hid (fwA s.data.toList = 0 ∧ fwB s.data.toList = 3) := by rw [Hid, fwA, fwB, hdl, if_pos h1, if_pos h1]; exact ⟨rfl, rfl⟩
    clear hdl
    go_enter Tryd.func28, Tryd.ntmps28
    go_wp2_with fail
    go_ret2
    exact ⟨ret_two hr.out, Below.refl _ _⟩
  by_cases h2 : s.data.toList = []
  · have hr : Hid (fwA s.data.toList = 0 ∧ fwB s.data.toList = 0) := by rw [Hid, h2]; exact ⟨rfl, rfl⟩
    have dE : (s.toList == ([] : List UInt8)) = true := by rw [ByteArray.toList_eq, h2]; rfl
    clear hdl h2
    go_enter Tryd.func28, Tryd.ntmps28
    go_wp2_with fail
    go_ret2
    exact ⟨ret_two hr.out, Below.refl _ _⟩
  have hL0 := fwA_L (s := s.data.toList) (by rw [hdl]; exact h1) h2
  have dE : (s.toList == ([] : List UInt8)) = false := by rw [ByteArray.toList_eq]; exact beq_false_of_ne h2
  have HFA := hid hL0
  obtain ⟨T, hT⟩ : ∃ T, s.data.toList = T := ⟨_, rfl⟩
  have C := l01Split_any s 10 w (by omega)
  rw [hT] at C HFA hdl ⊢
  obtain ⟨L, hL⟩ : ∃ L, lnL T = L := ⟨_, rfl⟩
  obtain ⟨R, hR⟩ : ∃ R, lnR T = R := ⟨_, rfl⟩
  have hLl := pieces_len 10 T
  rw [ln_eq, hL] at hLl
  simp at hLl
  have hLl : L.length ≤ 4000 := by omega
  rw [ln_eq, hL, hR] at C
  have HTL : Hid (T.length ≤ 4000) := by rw [Hid]; omega
  clear hL0 hT h2 hdl
  go_enter Tryd.func28, Tryd.ntmps28
  go_wp2_with fail
  refine C.mono ?_
  rintro e w1 ⟨lv, rfl, hown, b1⟩
  obtain ⟨hrow, hcap⟩ := hown.rows lenS (by simp; omega)
  obtain ⟨la, lc, rfl⟩ := hrow.at.shape
  have hlen : ((L ++ [R]).map tb).length = L.length + 1 := by simp
  have hrow := hrow.at
  rw [hlen] at hrow ⊢
  have HR1 := hid hrow
  have HB1 := hid b1
  clear C hrow b1 hown hcap hlen
  go_wp2_with fail
  go_loopw [5, 6] (fun h i wr => FwsRel T w1 h i wr) (fun _ i _ => L.length - (intOf i).toNat)
  case atStart => exact ⟨0, rfl, rfl, by omega, fun j hj => by omega, Below.refl _ _⟩
  case round =>
    obtain ⟨k, rfl, rfl, hk, hall, hbel⟩ := hrel
    rw [hL] at hk
    have HA := hid hall
    have HBL := hid hbel
    clear hall hbel
    obtain ⟨lb, lo, rfl, hlb, hcc⟩ := (HR1.out.below HBL.out).strs (by simp)
    by_cases hlt : k < L.length
    · have hltN : k < (lnL T).length := by rw [hL]; exact hlt
      have hltI : (k : Int) + 1 < (L.length : Int) + 1 := by omega
      have c0 := hcc k (by simp; omega)
      have e0 : ((L ++ [R]).map tb)[k]'(by simp; omega) = tb L[k] := by rw [List.getElem_map, List.getElem_append_left hlt]
      rw [e0] at c0
      have hps := pre_succ T k hltN
      simp only [hL] at hps
      have hpl := pre_len T (k + 1)
      have HTL2 := HTL.out
      have hl2 := congrArg List.length hps
      simp at hl2
      have HE : Hid (tb (pre T k) ++ tb L[k] ++ ⟨#[10]⟩ = tb (pre T (k + 1))) := by rw [Hid, tb_app, tb_nl, hps]
      have z1 : ¬ (9223372036854775807 < (tb (pre T k)).size + (tb L[k]).size) := by rw [tb_size, tb_size]; omega
      have z2 : ¬ (9223372036854775807 < (tb (pre T k)).size + (tb L[k]).size + 1) := by rw [tb_size, tb_size]; omega
      obtain ⟨bo, hbo⟩ : ∃ bo, okB (pre T (k + 1)) = bo := ⟨_, rfl⟩
      have CR : Hid (∀ W : World, _) := fun W => outR_ok (b := bo) (spec_ReadNetwork_any (tb (pre T (k + 1))) W (by rw [tb_size]; omega)) (by rw [tb_data]; exact hbo)
      have HBO := hid hbo
      clear hcc e0 hps hpl HTL2 hl2 hbo
      go_wp2_with fail
      rw [HE.out]
      refine (CR.out _).mono ?_
      rintro e w3 ⟨a0, a1, n0, k0, n1, k1, rfl, b3⟩
      have HBL3 := hid (HBL.out.trans ((b3.trans ((below_new w3 (.cells #[.slice a0 n0 k0, .slice a1 n1 k1] 25)).mono b3.size)).mono HBL.out.size))
      clear b3 CR
      cases bo
      · have hr : Hid (fwA T = k ∧ fwB T = 0) := ⟨by rw [HFA.out.1]; exact fwL_hit k hltN HBO.out HA.out, HFA.out.2⟩
        go_wp2_with fail
        go_ret2
        exact ⟨ret_two hr.out, HB1.out.trans (HBL3.out.mono HB1.out.size)⟩
      · go_wp2_with fail
        go_roundw
        case rel =>
          refine ⟨k + 1, by go_num, by first | rfl | rw [HE.out], by omega, fun j hj => ?_, HBL3.out⟩
          rcases (by omega : j < k ∨ j = k) with hj | rfl
          · exact HA.out j hj
          · exact HBO.out
        case measure => simp [intOf]; omega
    · obtain rfl : k = L.length := by omega
      have HE := hid (fwL_end (s := T) (fun j hj => HA.out j (by rw [hL] at hj; exact hj)))
      have c0 := hcc L.length (by simp)
      have e0 : ((L ++ [R]).map tb)[L.length]'(by simp) = tb R := by simp
      rw [e0] at c0
      clear hcc e0
      by_cases hR0 : R = []
      · have hr : Hid (fwA T = -1 ∧ fwB T = 0) := ⟨by rw [HFA.out.1, HE.out, if_pos (by rw [hR]; exact hR0)], HFA.out.2⟩
        have dR : ((tb R).toList == ([] : List UInt8)) = true := tb_beq_t hR0
        clear hR0
        go_wp2_with fail
        go_ret2
        exact ⟨ret_two hr.out, HB1.out.trans (HBL.out.mono HB1.out.size)⟩
      · have hr : Hid (fwA T = L.length ∧ fwB T = 0) := ⟨by rw [HFA.out.1, HE.out, if_neg (by rw [hR]; exact hR0), hL], HFA.out.2⟩
        have dR : ((tb R).toList == ([] : List UInt8)) = false := tb_beq hR0
        clear hR0
        go_wp2_with fail
        go_ret2
        exact ⟨ret_two hr.out, HB1.out.trans (HBL.out.mono HB1.out.size)⟩

end Go.Proofs.YtdbgncinaacheaaDoor
