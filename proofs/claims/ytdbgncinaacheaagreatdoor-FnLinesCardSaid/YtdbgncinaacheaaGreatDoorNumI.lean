/- readNumber, readNumbers, joinNumbers, linesOf of the program. -/
import Derived.Test.YtdbgncinaacheaaGreatDoorLay
import Derived.Test.YtdbgncinaacheaaGreatDoorNum3
import Derived.Test.YtdbgncinaacheaaGreatDoorEx
namespace Go.Proofs.YtdbgncinaacheaaGreatDoor
open Go.RowKit
open Go.Lib hiding intOf

theorem sNe {a b : ByteArray} : (!(a.toList == b.toList)) = !sEq a b := rfl
set_option maxHeartbeats 1000000 in
set_option maxRecDepth 100000 in
theorem readNumber_any (s : ByteArray) (w : World) (hs : s.size ≤ 281474976710656) (hy : Lay w) :
    Calls Tryz.prog 36 #[.string s] w fun e w' => e = .returned (.tuple #[.int .i64 ((numI s.data.toList).getD 0), .bool (numI s.data.toList).isSome]) ∧ Below w.heap.size w w' := by
  have HY := hid hy
  clear hy
  go_enter Tryz.func36, Tryz.ntmps36
  go_wp2_with fail
  refine (parseInt_any s _ hs HY.out.errs).mono ?_
  rintro e w1 ⟨hE, b1⟩
  have HB1 := hid b1
  have HY1 := hid (HY.out.below b1)
  clear b1
  rcases hE with ⟨v, hp, rfl⟩ | ⟨v, t, p, hp, rfl⟩
  · have hb := parseIntB_bounds hp
    have hv0 : -9223372036854775808 ≤ v := by simp at hb; omega
    have hv1 : v ≤ 9223372036854775807 := by simp at hb; omega
    by_cases he : itoa v = s.data.toList
    · have HN := hid (numI_ok hp he)
      have hq : ((decI v).toList == s.toList) = true := sEq_iff.2 (data_inj (by rw [decI_tb, tb_data, he]))
      clear hp hb
      go_wp2_with fail
      refine (decimal_any v _ hv0 hv1 HY1.out.tab).mono ?_
      rintro e w2 ⟨rfl, b2⟩
      go_wp2_with fail
      go_ret2
      rw [HN.out]
      exact ⟨rfl, HB1.out.trans (b2.mono HB1.out.size)⟩
    · have HN := hid (numI_ne hp he)
      have hq : ((decI v).toList == s.toList) = false := sEq_f.2 (fun e => he (by rw [← e, decI_tb, tb_data]))
      clear hp hb
      go_wp2_with fail
      refine (decimal_any v _ hv0 hv1 HY1.out.tab).mono ?_
      rintro e w2 ⟨rfl, b2⟩
      go_wp2_with fail
      go_ret2
      rw [HN.out]
      exact ⟨rfl, HB1.out.trans (b2.mono HB1.out.size)⟩
  · have HN : Hid (numI s.data.toList = none) := numI_bad hp
    clear hp
    go_wp2_with fail
    go_ret2
    rw [HN.out]
    exact ⟨rfl, HB1.out⟩

def RnRel (W : List Txt) (w : World) (i : Value) (wr : World) : Prop :=
  ∃ (k : Nat) (zs : List Int), i = .int .i64 k ∧ k ≤ W.length ∧ zs.length = k ∧ (∀ j (h1 : j < W.length) (h2 : j < zs.length), numI W[j] = some zs[j]) ∧ IntBlk 2 wr w.heap.size (zs ++ List.replicate (W.length - k) 0) ∧ Below w.heap.size w wr
theorem set_snoc (zs : List Int) (m : Nat) (x : Int) : (zs ++ List.replicate (m + 1) 0).set zs.length x = (zs ++ [x]) ++ List.replicate m 0 := by
  rw [List.set_append_right _ _ (Nat.le_refl _), Nat.sub_self, List.replicate_succ]; simp

set_option maxHeartbeats 1000000 in
set_option maxRecDepth 100000 in
theorem readNumbers_any (v : Value) (W : List Txt) (w : World) (h : RowsAt encS 1 w v (W.map tb)) (hW : ∀ l ∈ W, l.length ≤ 281474976710656) (hl : W.length ≤ 1000000) (hy : Lay w) :
    Calls Tryz.prog 18 #[v] w fun e w' => ∃ r, e = .returned (.tuple #[r, .bool (numsBy numI W).isSome]) ∧ Ints .i64 w' r ((numsBy numI W).getD []) ∧ Below w.heap.size w w' := by
  have HR := hid h
  have HY := hid hy
  have HW := hid hW
  obtain ⟨a, cap, rfl⟩ := h.shape
  rw [List.length_map] at HR ⊢
  have hmk := run_make_row' (P := Tryz.prog) 43 2 (.int .i64 0) 8 Tryz.underlying43 info64 rfl .i64 .i64 W.length (by omega) (by omega)
  clear h hy hW
  go_enter Tryz.func18, Tryz.ntmps18
  go_wp2_with fail
  clear hmk
  go_loopw [14] (fun i wr => RnRel W w i wr) (fun i _ => W.length - (intOf i).toNat)
  case atStart => exact ⟨0, [], rfl, by omega, rfl, fun j _ h2 => by simp at h2, by simpa using IntBlk.made 2 w W.length, below_new _ _⟩
  case round =>
    obtain ⟨k, zs, rfl, hk, hzl, hall, hblk, hbel⟩ := hrel
    have HA := hid hall
    have HZ := hid hzl
    have HK := hid hblk
    have HB := hid hbel
    clear hall hblk hbel hzl
    by_cases hlt : k < W.length
    · obtain ⟨b, off, rfl, hb, hcc⟩ := (HR.out.below HB.out).strs (by simpa using (by omega : 0 < W.length))
      have c0 := hcc k (by simpa using hlt)
      rw [List.getElem_map] at c0
      have C := fun w1 hw1 => readNumber_any (tb W[k]) w1 (by rw [tb_size]; exact HW.out _ (List.getElem_mem hlt)) hw1
      simp only [tb_data] at C
      have HC := hid C
      clear hcc C
      cases hn : numI W[k] with
      | none =>
        have HN := hid (numsBy_no k hlt hn)
        have HC2 : Hid (∀ w1, Lay w1 → Calls Tryz.prog 36 #[.string (tb W[k])] w1 fun e w' => e = .returned (.tuple #[.int .i64 0, .bool false]) ∧ Below w1.heap.size w1 w') := fun w1 hw1 => by
          have := HC.out w1 hw1; rw [hn] at this; exact this
        clear HC hn
        go_wp2_with fail
        refine (HC2.out _ (HY.out.below HB.out)).mono ?_
        rintro e w1 ⟨rfl, b1⟩
        go_wp2_with fail
        go_ret2
        rw [HN.out]
        exact ⟨_, rfl, Ints.nil _ _, HB.out.trans (b1.mono HB.out.size)⟩
      | some x =>
        have HC2 : Hid (∀ w1, Lay w1 → Calls Tryz.prog 36 #[.string (tb W[k])] w1 fun e w' => e = .returned (.tuple #[.int .i64 x, .bool true]) ∧ Below w1.heap.size w1 w') := fun w1 hw1 => by
          have := HC.out w1 hw1; rw [hn] at this; exact this
        have HA2 : Hid (∀ j (h1 : j < W.length) (h2 : j < (zs ++ [x]).length), numI W[j] = some (zs ++ [x])[j]) := fun j h1 h2 => by
          by_cases hj : j < zs.length
          · rw [List.getElem_append_left hj]; exact HA.out j h1 hj
          · obtain rfl : j = zs.length := by simp at h2; omega
            have : zs.length = k := HZ.out
            subst this
            simpa using hn
        clear HC hn
        go_wp2_with fail
        refine (HC2.out _ (HY.out.below HB.out)).mono ?_
        rintro e w1 ⟨rfl, b1⟩
        have hblk1 := HK.out.kept (Kept.of_below (X := fun _ => False) b1) (fun e => e)
        have hf := hblk1.frozen k
        have hold := hblk1.cell k (by have := HZ.out; simp; omega)
        have HSET : Hid (IntBlk 2 (w1.setCell ⟨w.heap.size, k, none⟩ (.int .i64 x)) w.heap.size ((zs ++ [x]) ++ List.replicate (W.length - (k + 1)) 0)) := by
          have h1 := hblk1.set k x
          have h2 : W.length - k = (W.length - (k + 1)) + 1 := by omega
          have h3 : zs.length = k := HZ.out
          rw [h2] at h1
          subst h3
          rw [set_snoc] at h1; exact h1
        have HB2 := hid ((HB.out.trans (b1.mono HB.out.size)).setCell (p := ⟨w.heap.size, k, none⟩) (Nat.le_refl _) (.int .i64 x))
        clear hblk1 b1
        go_wp2_with fail
        go_roundw
        case rel => exact ⟨k + 1, zs ++ [x], by go_num, by omega, by have := HZ.out; simp; omega, HA2.out, HSET.out, HB2.out⟩
        case measure => simp [intOf]; omega
    · have e : k = W.length := by omega
      subst e
      have HN : Hid (numsBy numI W = some zs) := numsBy_mk HZ.out HA.out
      have HK2 : Hid (IntBlk 2 wr w.heap.size zs) := by have := HK.out; simp only [Nat.sub_self, List.replicate_zero, List.append_nil] at this; exact this
      have hsz := HK.out.lt
      go_wp2_with fail
      go_ret2
      rw [HN.out]
      refine ⟨_, rfl, ?_, HB.out⟩
      have := (IntBlk.slc (cap := W.length) (P := fun _ => True) HK2.out trivial (by have := HZ.out; omega)).ints
      rw [show zs.length = W.length from HZ.out] at this
      exact this

/-! ### joinNumbers -/
theorem fill_gen {α : Type} (zs : List α) (z : α) (k : Nat) (h : k < zs.length) : (zs.take k ++ List.replicate (zs.length - k) z).set k zs[k] = zs.take (k + 1) ++ List.replicate (zs.length - (k + 1)) z := by
  apply List.ext_getElem
  · simp; omega
  · intro i h1 h2
    simp only [List.getElem_set, List.getElem_append, List.length_take, List.getElem_take, List.getElem_replicate]
    by_cases e : k = i
    · subst e; rw [if_pos rfl, dif_pos (by omega)]
    · rw [if_neg e]
      by_cases e2 : i < k
      · rw [dif_pos (by omega), dif_pos (by omega)]
      · rw [dif_neg (by omega), dif_neg (by omega)]
theorem RowsOwn.setS {X : Nat → Prop} {w : World} {b off n cap : Nat} {xs : List ByteArray} (h : RowsOwn encS 1 X w (.slice (some ⟨b, off, none⟩) n cap) xs) (i : Nat) (hi : i < xs.length) (x : ByteArray) :
    RowsOwn encS 1 X (w.setCell ⟨b, off + i, none⟩ (.string x)) (.slice (some ⟨b, off, none⟩) n cap) (xs.set i x) := by
  obtain ⟨b', off', ha, hl, hx, hfr, hcc⟩ := h.at' (by omega)
  simp only [Option.some.injEq, Addr.mk.injEq, and_true] at ha
  obtain ⟨rfl, rfl⟩ := ha
  have c0 := hcc i hi 0 (by simp [encS])
  rw [Nat.mul_one, Nat.add_zero] at c0
  refine h.set_of (fun _ => rfl) i hi x (cellsS ?_) (fun o ho => ?_) (fun o => by simp) (by simp)
  · rw [Nat.mul_one]; exact cell_set_same c0
  · exact cell_set_ne (by omega)
def strsOf (zs : List Int) : List ByteArray := zs.map (fun z => tb (itoa z))
def JnRel (zs : List Int) (w : World) (i : Value) (wr : World) : Prop :=
  ∃ k : Nat, i = .int .i64 k ∧ k ≤ zs.length ∧ RowsOwn encS 1 (fun b => b = w.heap.size) wr (.slice (some ⟨w.heap.size, 0, none⟩) zs.length zs.length) ((strsOf zs).take k ++ List.replicate ((strsOf zs).length - k) ByteArray.empty) ∧ Below w.heap.size w wr
def In64' (zs : List Int) : Prop := ∀ z ∈ zs, -9223372036854775808 ≤ z ∧ z ≤ 9223372036854775807
theorem lens_le {zs : List Int} (h : In64' zs) : lens (zs.map itoa) ≤ 21 * zs.length := by
  induction zs with
  | nil => simp [lens]
  | cons z r ih =>
    have h1 := h z (by simp)
    have h2 := itoa_length_le z h1.1 h1.2
    have h3 := ih (fun x hx => h x (List.mem_cons_of_mem _ hx))
    simp only [lens, List.map_cons, List.sum_cons, List.length_cons] at h3 ⊢
    omega

set_option maxHeartbeats 1000000 in
set_option maxRecDepth 100000 in
theorem joinNumbers_any (v : Value) (zs : List Int) (w : World) (h : Ints .i64 w v zs) (h0 : In64' zs) (hl : zs.length ≤ 10) (ht : Tab w) :
    Calls Tryz.prog 43 #[v, .string ⟨#[32]⟩] w fun e w' => e = .returned (.string (tb (join (zs.map itoa) [32]))) ∧ Below w.heap.size w w' := by
  obtain ⟨_, a, cap, rfl, hc⟩ := h
  have HC := hid hc
  have H0 := hid h0
  have HT := hid ht
  have hmk := run_make_agg (P := Tryz.prog) 41 9 (.string ByteArray.empty) 1 16 Tryz.underlying41 infoS zs.length (by omega) (by omega)
  have hmade := made_rows encS 1 ByteArray.empty rfl (fun b => b = w.heap.size) w 9 zs.length (by omega) rfl
  rw [Nat.mul_one] at hmade
  have HM := hid hmade
  clear hmade hc h0 ht
  go_enter Tryz.func43, Tryz.ntmps43
  go_wp2_with fail
  clear hmk
  have HSL : Hid ((strsOf zs).length = zs.length) := by simp [Hid, strsOf]
  go_loopw [13] (fun i wr => JnRel zs w i wr) (fun i _ => zs.length - (intOf i).toNat)
  case atStart => exact ⟨0, rfl, by omega, by rw [List.take_zero, List.nil_append, Nat.sub_zero, HSL.out]; exact HM.out, below_new _ _⟩
  case round =>
    obtain ⟨k, rfl, hk, hown, hbel⟩ := hrel
    have HB := hid hbel
    have HO := hid hown
    clear hown hbel
    by_cases hlt : k < zs.length
    · obtain ⟨b, off, rfl, hcc⟩ := HC.out.resolve_left (fun e => by rw [e] at hlt; simp at hlt)
      have c0 := hcc k hlt
      have c0 := (HB.out.cell (p := ⟨b, off + k, none⟩) (World.block_lt_of_cell? _ _ c0)).trans c0
      have hz := H0.out zs[k] (List.getElem_mem hlt)
      have hlk : k < (strsOf zs).length := by rw [HSL.out]; exact hlt
      have HE : Hid ((strsOf zs)[k] = decI zs[k]) := by simp [Hid, strsOf, decI_tb]
      have HF : Hid (∀ w1, RowsOwn encS 1 (fun b => b = w.heap.size) w1 (.slice (some ⟨w.heap.size, 0, none⟩) zs.length zs.length) ((strsOf zs).take k ++ List.replicate ((strsOf zs).length - k) ByteArray.empty) →
          (∃ u, w1.cell? ⟨w.heap.size, k, none⟩ = some u) ∧ w1.frozen? ⟨w.heap.size, k, none⟩ = false ∧
          RowsOwn encS 1 (fun b => b = w.heap.size) (w1.setCell ⟨w.heap.size, k, none⟩ (.string (decI zs[k]))) (.slice (some ⟨w.heap.size, 0, none⟩) zs.length zs.length) ((strsOf zs).take (k + 1) ++ List.replicate ((strsOf zs).length - (k + 1)) ByteArray.empty)) := fun w1 h1 => by
        have hll : k < ((strsOf zs).take k ++ List.replicate ((strsOf zs).length - k) ByteArray.empty).length := by simp; omega
        obtain ⟨g, goff, hg, _, _, hfr, hgc⟩ := h1.at' (by omega)
        simp only [Option.some.injEq, Addr.mk.injEq, and_true] at hg
        obtain ⟨rfl, rfl⟩ := hg
        have q := hgc k hll 0 (by simp [encS])
        rw [Nat.mul_one, Nat.add_zero, Nat.zero_add] at q
        refine ⟨⟨_, q⟩, hfr k, ?_⟩
        have := h1.setS k hll (decI zs[k])
        rw [Nat.zero_add, ← HE.out, fill_gen _ _ k hlk] at this
        rw [← HE.out]; exact this
      clear hcc HE
      go_wp2_with fail
      refine (decimal_any zs[k] _ hz.1 hz.2 (HT.out.below HB.out)).mono ?_
      rintro e w1 ⟨rfl, b1⟩
      obtain ⟨⟨u, hu⟩, hf, hset⟩ := HF.out w1 (HO.out.below b1)
      have HS := hid hset
      have HB2 := hid ((HB.out.trans (b1.mono HB.out.size)).setCell (p := ⟨w.heap.size, k, none⟩) (Nat.le_refl _) (.string (decI zs[k])))
      clear hset b1
      go_wp2_with fail
      go_roundw
      case rel => exact ⟨k + 1, by go_num, by omega, HS.out, HB2.out⟩
      case measure => simp [intOf]; omega
    · have e : k = zs.length := by omega
      subst e
      have HO2 : Hid (RowsAt encS 1 wr (.slice (some ⟨w.heap.size, 0, none⟩) zs.length zs.length) ((zs.map itoa).map tb)) := by
        have := HO.out.at
        rw [HSL.out, Nat.sub_self, List.replicate_zero, List.append_nil, List.take_of_length_le (by rw [HSL.out]; omega)] at this
        rw [Hid, List.map_map]; exact this
      have hjl : (join (zs.map itoa) [32]).length ≤ 140737488355328 := by
        cases hz : zs with
        | nil => simp [join, List.intercalate]
        | cons z r =>
          have h1 := lens_le H0.out
          rw [hz] at h1 hl
          simp only [List.map_cons, List.length_cons] at h1 hl ⊢
          rw [join_length]
          simp only [List.length_map, List.length_cons, List.length_nil]
          omega
      go_wp2_with fail
      refine (join_any _ (zs.map itoa) ⟨#[32]⟩ wr HO2.out (CapOk.mk (by omega)) hjl (by simp; omega)).mono ?_
      rintro e w1 ⟨rfl, b1⟩
      go_wp2_with fail
      go_ret
      exact ⟨rfl, HB.out.trans (b1.mono HB.out.size)⟩

end Go.Proofs.YtdbgncinaacheaaGreatDoor
