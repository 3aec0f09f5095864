/- ReadNodeLine of both sides, l03Numbers of the reference. -/
import Derived.Test.YtdbgncinaacheaaDoorSpl
import Derived.Test.YtdbgncinaacheaaDoorNumI
import Derived.Test.YtdbgncinaacheaaDoorLine
import Derived.Test.YtdbgncinaacheaaDoorOwn
namespace Go.Proofs.YtdbgncinaacheaaDoor
open Go.RowKit
open Go.Lib hiding intOf

def SnRel (W : List Txt) (w : World) (o i : Value) (wr : World) : Prop :=
  ∃ (k : Nat) (zs : List Int), i = .int .i64 k ∧ k ≤ W.length ∧ zs.length = k ∧ (∀ j (h1 : j < W.length) (h2 : j < zs.length), numS W[j] = some zs[j]) ∧ OwnI 2 w.heap.size wr o zs ∧ Below w.heap.size w wr

set_option maxHeartbeats 1000000 in
set_option maxRecDepth 100000 in
theorem l03Numbers_any (v : Value) (W : List Txt) (w : World) (h : RowsAt encS 1 w v (W.map tb)) (hW : ∀ l ∈ W, l.length ≤ 281474976710656) (hl : W.length ≤ 1000000) :
    Calls Tryd.prog 84 #[v] w fun e w' => ∃ r, e = .returned (.tuple #[r, .bool (numsBy numS W).isSome]) ∧ Slc (fun b => w.heap.size ≤ b ∧ b < w'.heap.size) w' r ((numsBy numS W).getD []) ∧ Below w.heap.size w w' := by
  have HR := hid h
  have HW := hid hW
  obtain ⟨a, cap, rfl⟩ := h.shape
  rw [List.length_map] at HR ⊢
  clear h hW
  go_enter Tryd.func84, Tryd.ntmps84
  go_wp2_with fail
  go_loopw [4, 5] (fun o i wr => SnRel W w o i wr) (fun _ i _ => W.length - (intOf i).toNat)
  case atStart => exact ⟨0, [], rfl, by omega, rfl, fun j _ h2 => by simp at h2, OwnI.made _ _ _ (Nat.le_refl _), below_new _ _⟩
  case round =>
    obtain ⟨k, zs, rfl, hk, hzl, hall, hown, hbel⟩ := hrel
    have HA := hid hall
    have HZ := hid hzl
    have HO := hid hown
    have HB := hid hbel
    clear hall hown hbel hzl
    by_cases hlt : k < W.length
    · obtain ⟨b, off, rfl, hb, hcc⟩ := (HR.out.below HB.out).strs (by simpa using (by omega : 0 < W.length))
      have c0 := hcc k (by simpa using hlt)
      rw [List.getElem_map] at c0
      have C := fun w1 => l01Value_any (tb W[k]) w1 (by rw [tb_size]; have := HW.out _ (List.getElem_mem hlt); omega)
      simp only [tb_data] at C
      have HC := hid C
      clear hcc C
      cases hn : numS W[k] with
      | none =>
        have HN := hid (numsBy_no k hlt hn)
        have HC2 : Hid (∀ w1, Calls Tryd.prog 80 #[.string (tb W[k])] w1 fun e w' => (∃ x : Int, e = .returned (.tuple #[.int .i64 x, .bool false])) ∧ Below w1.heap.size w1 w') := fun w1 =>
          (HC.out w1).mono (fun e w' ⟨⟨x, he, _⟩, hb⟩ => ⟨⟨x, by rw [he, hn]; rfl⟩, hb⟩)
        clear HC hn
        go_wp2_with fail
        refine (HC2.out _).mono ?_
        rintro e w1 ⟨⟨x, rfl⟩, b1⟩
        go_wp2_with fail
        go_ret2
        rw [HN.out]
        exact ⟨_, rfl, Slc.nil _ _, HB.out.trans (b1.mono HB.out.size)⟩
      | some x =>
        have HC2 : Hid (∀ w1, Calls Tryd.prog 80 #[.string (tb W[k])] w1 fun e w' => e = .returned (.tuple #[.int .i64 x, .bool true]) ∧ Below w1.heap.size w1 w') := fun w1 =>
          (HC.out w1).mono (fun e w' ⟨⟨y, he, hy⟩, hb⟩ => ⟨by rw [he, hn, hy x hn]; rfl, hb⟩)
        have HA2 : Hid (∀ j (h1 : j < W.length) (h2 : j < (zs ++ [x]).length), numS W[j] = some (zs ++ [x])[j]) := fun j h1 h2 => by
          by_cases hj : j < zs.length
          · rw [List.getElem_append_left hj]; exact HA.out j h1 hj
          · obtain rfl : j = zs.length := by simp at h2; omega
            have : zs.length = k := HZ.out
            subst this
            simpa using hn
        clear HC hn
        go_wp2_with fail
        refine (HC2.out _).mono ?_
        rintro e w1 ⟨rfl, b1⟩
        have HO1 := hid (HO.out.below b1)
        have HB1 := hid (HB.out.trans (b1.mono HB.out.size))
        have hsz := HB1.out.size
        clear b1
        have hzk : zs.length ≤ 1000000 := by have := HZ.out; omega
        go_wp2_with (at_builtin; refine wpList_app1 rfl (.tmp 25) (.tmp 27) rfl w.heap.size u4 zs rfl (HO1.out.alloc _) w1.heap.size x rfl ?c1 ?c2 ?c3 ?_)
        case c1 => simp
        case c2 => omega
        case c3 => simp; omega
        intro v1 w2 hv1 hk1 hb1
        have HV1 := hid hv1
        have HB2 := hid ((HB1.out.alloc hsz _).trans (hk1.below (by simp; omega) (fun b h => (HO1.out.lt b h).1)))
        clear hv1 hk1 hb1
        go_wp2_with fail
        go_roundw
        case rel => exact ⟨k + 1, zs ++ [x], by go_num, by omega, by have := HZ.out; simp; omega, HA2.out, HV1.out, HB2.out⟩
        case measure => simp [intOf]; omega
    · have e : k = W.length := by omega
      subst e
      have HN : Hid (numsBy numS W = some zs) := numsBy_mk HZ.out HA.out
      have hzk : zs.length ≤ 1000000 := by have := HZ.out; omega
      obtain ⟨_, ra, rc, rfl, _⟩ := HO.out.slc (by omega)
      go_wp2_with fail
      go_ret2
      rw [HN.out]
      exact ⟨_, rfl, HO.out.slc (by omega), HB.out⟩

/-- What ReadNodeLine returns of the line s. -/
def rnV (r : Option Nd) : Ending := .returned (.tuple #[.agg #[.string (r.getD zN).name, .int .i64 (r.getD zN).low, .int .i64 (r.getD zN).high], .bool r.isSome])
theorem tb_bytes (l : Txt) : (tb l).toList = l := by rw [ByteArray.toList_eq]; simp [tb]
theorem tb_beq {l m : Txt} (h : l ≠ m) : ((tb l).toList == m) = false := by rw [tb_bytes]; exact beq_false_of_ne h
theorem tb_beq_t {l m : Txt} (h : l = m) : ((tb l).toList == m) = true := by rw [tb_bytes, h]; simp
theorem data_len (s : ByteArray) : s.data.toList.length = s.size := Array.length_toList ..
theorem len_glue_le {c : UInt8} : ∀ (ps : List Txt), ∀ p ∈ ps, p.length ≤ (glue c ps).length
  | [p], q, hq => by simp at hq; subst hq; simp [glue]
  | p :: r :: t, q, hq => by
    have e : glue c (p :: r :: t) = p ++ c :: glue c (r :: t) := rfl
    rcases List.mem_cons.1 hq with rfl | hq
    · rw [e]; simp
    · have := len_glue_le (c := c) (r :: t) q hq
      rw [e]; simp; omega
theorem piece_le (c : UInt8) (l : Txt) : ∀ p ∈ pieces c l, p.length ≤ l.length := fun p hp => by
  have := len_glue_le (c := c) (pieces c l) p hp
  rwa [glue_pieces] at this
theorem glue_len_ge {c : UInt8} : ∀ (ps : List Txt), ps.length ≤ (glue c ps).length + 1
  | [] => by simp
  | [p] => by simp
  | p :: r :: t => by
    have e : glue c (p :: r :: t) = p ++ c :: glue c (r :: t) := rfl
    have := glue_len_ge (c := c) (r :: t)
    rw [e]; simp at this ⊢; omega
theorem pieces_len (c : UInt8) (l : Txt) : (pieces c l).length ≤ l.length + 1 := by
  have := glue_len_ge (c := c) (pieces c l)
  rwa [glue_pieces] at this

/-- A block of three cells that may be written. -/
def Blk3 (w : World) (b : Nat) (x y z : Value) (_T : TypeId) : Prop :=
  w.cell? ⟨b, 0, none⟩ = some x ∧ w.cell? ⟨b, 1, none⟩ = some y ∧ w.cell? ⟨b, 2, none⟩ = some z ∧ w.frozen? ⟨b, 0, none⟩ = false ∧ w.frozen? ⟨b, 1, none⟩ = false ∧ w.frozen? ⟨b, 2, none⟩ = false
theorem Blk3.new (w : World) (x y z : Value) (T : TypeId) : Blk3 (w.alloc (.cells #[x, y, z] T)) w.heap.size x y z T := by
  obtain ⟨a, b, c, d⟩ := three_cells (heap_alloc_new w (.cells #[x, y, z] T))
  exact ⟨a, b, c, d 0, d 1, d 2⟩
theorem Blk3.below {w w' : World} {b : Nat} {x y z : Value} {T : TypeId} (h : Blk3 w b x y z T) (hb : Below w.heap.size w w') : Blk3 w' b x y z T := by
  obtain ⟨h0, h1, h2, f0, f1, f2⟩ := h
  have hlt := World.block_lt_of_cell? (a := ⟨b, 0, none⟩) w h0
  exact ⟨(hb.cell (p := ⟨b, 0, none⟩) hlt).trans h0, (hb.cell (p := ⟨b, 1, none⟩) hlt).trans h1, (hb.cell (p := ⟨b, 2, none⟩) hlt).trans h2, (hb.frozen (p := ⟨b, 0, none⟩) hlt).trans f0, (hb.frozen (p := ⟨b, 1, none⟩) hlt).trans f1, (hb.frozen (p := ⟨b, 2, none⟩) hlt).trans f2⟩
theorem node_end {w wr : World} {a b c : Value} {T : TypeId} (hb : Blk3 wr w.heap.size a b c T) (hB : Below w.heap.size w wr) (s : ByteArray) (l h : Int) :
    ∃ W, (((wr.setCell ⟨w.heap.size, 0, none⟩ (.string s)).setCell ⟨w.heap.size, 1, none⟩ (.int .i64 l)).setCell ⟨w.heap.size, 2, none⟩ (.int .i64 h)) = W ∧
      (W.cell? ⟨w.heap.size, 0, none⟩ = some (.string s) ∧ W.cell? ⟨w.heap.size, 1, none⟩ = some (.int .i64 l) ∧ W.cell? ⟨w.heap.size, 2, none⟩ = some (.int .i64 h)) ∧ Below w.heap.size w W := by
  refine ⟨_, rfl, ⟨?_, ?_, ?_⟩, ((hB.setCell (p := ⟨w.heap.size, 0, none⟩) (Nat.le_refl _) _).setCell (p := ⟨w.heap.size, 1, none⟩) (Nat.le_refl _) _).setCell (p := ⟨w.heap.size, 2, none⟩) (Nat.le_refl _) _⟩
  · rw [cell_set_ne (by omega), cell_set_ne (by omega), cell_set_same hb.1]
  · rw [cell_set_ne (by omega), cell_set_same (by rw [cell_set_ne (by omega)]; exact hb.2.1)]
  · rw [cell_set_same (by rw [cell_set_ne (by omega), cell_set_ne (by omega)]; exact hb.2.2.1)]

set_option maxHeartbeats 2000000 in
set_option maxRecDepth 100000 in
theorem impl_ReadNodeLine_any (s : ByteArray) (w : World) (hs : s.size ≤ 1000000000) (hy : Lay w) :
    Calls Tryd.prog 40 #[.string s] w fun e w' => e = rnV (rdNode s.data.toList) ∧ Below w.heap.size w w' := by
  obtain ⟨W, hW⟩ : ∃ W, pieces 32 s.data.toList = W := ⟨_, rfl⟩
  obtain ⟨m, hm⟩ : ∃ m, W.length = m := ⟨_, rfl⟩
  obtain ⟨W0, hW0⟩ : ∃ W0, W0 = w.alloc (.cells #[.string ⟨#[]⟩, .int .i64 0, .int .i64 0] 37) := ⟨_, rfl⟩
  have hB0 : Below w.heap.size w W0 := by rw [hW0]; exact below_new w _
  have hX0 : Blk3 W0 w.heap.size (.string ⟨#[]⟩) (.int .i64 0) (.int .i64 0) 37 := by rw [hW0]; exact Blk3.new w _ _ _ _
  have hsz : w.heap.size < W0.heap.size := by rw [hW0]; simp
  have HY := hid (hy.below hB0)
  have C := split_any s 32 W0 (by omega) HY.out.maxl
  rw [hW, hm] at C
  have HWL : Hid (∀ p ∈ W, p.length ≤ 1000000000) := fun p hp => by have := piece_le 32 s.data.toList p (by rw [hW]; exact hp); rw [data_len] at this; omega
  clear hy
  go_enter Tryd.func40, Tryd.ntmps40
  go_wp2_with fail
  rw [← hW0]
  clear hW0
  refine C.mono ?_
  rintro e w1 ⟨rfl, h1, b1⟩
  have HX1 := hid (hX0.below b1)
  have HB1 := hid (hB0.trans (b1.mono hB0.size))
  have HY1 := hid (HY.out.below b1)
  have HR1 := hid h1
  clear C h1 b1 hX0 hB0 HY
  obtain ⟨x0, x1, x2, f0, f1, f2⟩ := HX1.out
  by_cases h4 : m = 4
  case neg =>
    have HN : Hid (rdNode s.data.toList = none) := rdNode_words (by rw [hW, hm]; exact h4)
    have d4 : ((m : Int) != 4) = true := by rw [bne_iff_ne]; omega
    clear hm hW
    go_wp2_with fail
    obtain ⟨W, hW, ⟨e0, e1, e2⟩, hb⟩ := node_end HX1.out HB1.out ⟨#[]⟩ 0 0
    rw [hW]
    exact bodyPost_ret (v := .tuple #[.agg #[.string ⟨#[]⟩, .int .i64 0, .int .i64 0], .bool false]) (by simp [results, Tryd.results40, go_sem, e0, e1, e2]) rfl ⟨by rw [HN.out]; rfl, hb⟩
  subst h4
  obtain ⟨a, b, c, d, hw⟩ : ∃ a b c d, W = [a, b, c, d] := by
    match W, hm with
    | [a, b, c, d], _ => exact ⟨a, b, c, d, rfl⟩
  subst hw
  obtain ⟨blk, off, ha, hl, hc⟩ := HR1.out.strs (by simp)
  simp only [Option.some.injEq, Addr.mk.injEq, and_true] at ha
  obtain ⟨rfl, rfl⟩ := ha
  have q0 : w1.cell? ⟨W0.heap.size, 0, none⟩ = some (.string (tb a)) := hc 0 (by simp)
  have q1 : w1.cell? ⟨W0.heap.size, 1, none⟩ = some (.string (tb b)) := hc 1 (by simp)
  have q2 : w1.cell? ⟨W0.heap.size, 2, none⟩ = some (.string (tb c)) := hc 2 (by simp)
  have q3 : w1.cell? ⟨W0.heap.size, 3, none⟩ = some (.string (tb d)) := hc 3 (by simp)
  have HL := hid hl
  clear hc hl
  by_cases hn : a = wNode
  case neg =>
    have HN : Hid (rdNode s.data.toList = none) := rdNode_word (by rw [hW]; simpa using hn)
    have dn : ((tb a).toList == ([110, 111, 100, 101] : List UInt8)) = false := tb_beq hn
    clear hm hW
    go_wp2_with fail
    obtain ⟨W, hW, ⟨e0, e1, e2⟩, hb⟩ := node_end HX1.out HB1.out ⟨#[]⟩ 0 0
    rw [hW]
    exact bodyPost_ret (v := .tuple #[.agg #[.string ⟨#[]⟩, .int .i64 0, .int .i64 0], .bool false]) (by simp [results, Tryd.results40, go_sem, e0, e1, e2]) rfl ⟨by rw [HN.out]; rfl, hb⟩
  have dn : ((tb a).toList == ([110, 111, 100, 101] : List UInt8)) = true := tb_beq_t hn
  replace hn := hid hn
  have R2 : RowsAt encS 1 w1 (.slice (some ⟨W0.heap.size, 2, none⟩) 2 2) ([c, d].map tb) := strs_mk (off := 2) HL.out (by simp) (fun i hi => by
    match i, hi with
    | 0, _ => exact q2
    | 1, _ => exact q3
    | i + 2, h => simp at h; omega)
  have C := readNumbers_any _ [c, d] w1 R2 (fun l hl => by have := HWL.out l (by simp at hl ⊢; rcases hl with rfl | rfl <;> simp); omega) (by simp) HY1.out
  have HPC : Hid (pieces 32 s.data.toList = [a, b, c, d]) := hW
  clear hm hW R2
  go_wp2_with fail
  refine C.mono ?_
  clear C
  cases hnum : numsBy numI [c, d] with
  | none =>
    have HN : Hid (rdNode s.data.toList = none) := rdNode_numsI (by rw [HPC.out]; exact hnum)
    rintro e w2 ⟨r, rfl, _, b2⟩
    have HX2 := hid (HX1.out.below b2)
    have HB2 := hid (HB1.out.trans (b2.mono HB1.out.size))
    clear b2 hnum x0 x1 x2 f0 f1 f2
    obtain ⟨x0, x1, x2, f0, f1, f2⟩ := HX2.out
    go_wp2_with fail
    obtain ⟨W, hW, ⟨e0, e1, e2⟩, hb⟩ := node_end HX2.out HB2.out ⟨#[]⟩ 0 0
    rw [hW]
    exact bodyPost_ret (v := .tuple #[.agg #[.string ⟨#[]⟩, .int .i64 0, .int .i64 0], .bool false]) (by simp [results, Tryd.results40, go_sem, e0, e1, e2]) rfl ⟨by rw [HN.out]; rfl, hb⟩
  | some zs =>
    obtain ⟨p, q, hz⟩ : ∃ p q, zs = [p, q] := by
      have := numsBy_len hnum
      match zs, this with
      | [p, q], _ => exact ⟨p, q, rfl⟩
    subst hz
    have HN : Hid (rdNode s.data.toList = if nodeB ⟨tb b, p, q⟩ = true then some ⟨tb b, p, q⟩ else none) := by
      have := rdNode_I (l := s.data.toList) (a := p) (b := q) (by rw [HPC.out]; rfl) (by rw [HPC.out, hn.out]; rfl) (by rw [HPC.out]; exact hnum)
      rw [HPC.out] at this; exact this
    rintro e w2 ⟨r, rfl, hr, b2⟩
    have HX2 := hid (HX1.out.below b2)
    have HB2 := hid (HB1.out.trans (b2.mono HB1.out.size))
    have q1 := (b2.cell (p := ⟨W0.heap.size, 1, none⟩) HL.out).trans q1
    have hl2 := Nat.lt_of_lt_of_le HL.out b2.size
    have hbs : (tb b).size ≤ 1000000000 := by rw [tb_size]; exact HWL.out b (by simp)
    obtain ⟨_, ra, rc, rfl, hrc⟩ := hr
    simp only [Option.getD_some] at hrc
    obtain ⟨rb, ro, rfl, hrc2⟩ := hrc.resolve_left (by simp)
    have r0 : w2.cell? ⟨rb, ro, none⟩ = some (.int .i64 p) := hrc2 0 (by simp)
    have r1 : w2.cell? ⟨rb, ro + 1, none⟩ = some (.int .i64 q) := hrc2 1 (by simp)
    have hrb : rb < w2.heap.size := World.block_lt_of_cell? (a := ⟨rb, ro, none⟩) w2 r0
    clear b2 hnum x0 x1 x2 f0 f1 f2 hrc hrc2
    go_wp2_with fail
    go_region
    obtain ⟨W3, hW3⟩ : ∃ W3, W3 = (w2.alloc (.cells #[.string (tb b), .int .i64 p, .int .i64 q] 37)).drew := ⟨_, rfl⟩
    rw [← hW3]
    have b3 : Below w2.heap.size w2 W3 := by rw [hW3]; exact below_drew (below_new w2 _)
    have hN3 : Blk3 W3 w2.heap.size (.string (tb b)) (.int .i64 p) (.int .i64 q) 37 := by rw [hW3]; exact Blk3.new w2 _ _ _ _
    have hn3 : w2.heap.size < W3.heap.size := by rw [hW3]; simp [World.drew]
    have HX3 := hid (HX2.out.below b3)
    have HB3 := hid (HB2.out.trans (b3.mono HB2.out.size))
    obtain ⟨n0, n1, n2, _, _, _⟩ := hN3
    clear hW3 b3 HX2 HB2 q1 hl2 r0 r1 hrb
    go_wp2_with fail
    refine (impl_IsNode_any ⟨tb b, p, q⟩ _ (by simp only; omega)).mono ?_
    rintro e w4 ⟨rfl, b4⟩
    have HX4 := hid (HX3.out.below b4)
    have HB4 := hid (HB3.out.trans (b4.mono HB3.out.size))
    have n0 := (b4.cell (p := ⟨w2.heap.size, 0, none⟩) hn3).trans n0
    have n1 := (b4.cell (p := ⟨w2.heap.size, 1, none⟩) hn3).trans n1
    have n2 := (b4.cell (p := ⟨w2.heap.size, 2, none⟩) hn3).trans n2
    clear b4
    obtain ⟨x0, x1, x2, f0, f1, f2⟩ := HX4.out
    cases hnb : nodeB ⟨tb b, p, q⟩
    · have HN2 : Hid (rdNode s.data.toList = none) := by rw [Hid, HN.out, hnb]; rfl
      clear HN
      go_wp2_with fail
      obtain ⟨W, hW, ⟨e0, e1, e2⟩, hb⟩ := node_end HX4.out HB4.out ⟨#[]⟩ 0 0
      rw [hW]
      exact bodyPost_ret (v := .tuple #[.agg #[.string ⟨#[]⟩, .int .i64 0, .int .i64 0], .bool false]) (by simp [results, Tryd.results40, go_sem, e0, e1, e2]) rfl ⟨by rw [HN2.out]; rfl, hb⟩
    · have HN2 : Hid (rdNode s.data.toList = some ⟨tb b, p, q⟩) := by rw [Hid, HN.out, hnb]; rfl
      clear HN
      go_wp2_with fail
      obtain ⟨W, hW, ⟨e0, e1, e2⟩, hb⟩ := node_end HX4.out HB4.out (tb b) p q
      rw [hW]
      exact bodyPost_ret (v := .tuple #[.agg #[.string (tb b), .int .i64 p, .int .i64 q], .bool true]) (by simp [results, Tryd.results40, go_sem, e0, e1, e2]) rfl ⟨by rw [HN2.out]; rfl, hb⟩

theorem ndS_eq {x : Nd} {s : ByteArray} (hs : s.data.toList ≠ []) : ndS x = s ↔ nodeB x = true ∧ ndL x = s.data.toList := by
  unfold ndS
  by_cases h : nodeB x = true
  · rw [if_pos h]
    exact ⟨fun e => ⟨h, by rw [← e, tb_data]⟩, fun e => by rw [e.2, tb_of]⟩
  · rw [if_neg h]
    exact ⟨fun e => absurd (by rw [← e]) hs, fun e => absurd e.1 h⟩

set_option maxHeartbeats 2000000 in
set_option maxRecDepth 100000 in
theorem spec_ReadNodeLine_any (s : ByteArray) (w : World) (hs : s.size ≤ 1000000000) :
    Calls Tryd.prog 39 #[.string s] w fun e w' => e = rnV (rdNode s.data.toList) ∧ Below w.heap.size w w' := by
  obtain ⟨W, hW⟩ : ∃ W, pieces 32 s.data.toList = W := ⟨_, rfl⟩
  obtain ⟨m, hm⟩ : ∃ m, W.length = m := ⟨_, rfl⟩
  obtain ⟨W0, hW0⟩ : ∃ W0, W0 = w.alloc (.cells #[.string ⟨#[]⟩, .int .i64 0, .int .i64 0] 37) := ⟨_, rfl⟩
  have hB0 : Below w.heap.size w W0 := by rw [hW0]; exact below_new w _
  have hX0 : Blk3 W0 w.heap.size (.string ⟨#[]⟩) (.int .i64 0) (.int .i64 0) 37 := by rw [hW0]; exact Blk3.new w _ _ _ _
  have C := l01Split_any s 32 W0 (by omega)
  rw [hW] at C
  have HWL : Hid (∀ p ∈ W, p.length ≤ 1000000000) := fun p hp => by have := piece_le 32 s.data.toList p (by rw [hW]; exact hp); rw [data_len] at this; omega
  go_enter Tryd.func39, Tryd.ntmps39
  go_wp2_with fail
  rw [← hW0]
  clear hW0
  refine C.mono ?_
  rintro e w1 ⟨v, rfl, h1, b1⟩
  have hpl := pieces_len 32 s.data.toList
  rw [hW, data_len] at hpl
  obtain ⟨h1, hcap⟩ := h1.rows lenS (by simp; omega)
  obtain ⟨va, vc, rfl⟩ := h1.at.shape
  rw [List.length_map, hm] at h1 hcap ⊢
  have HX1 := hid (hX0.below b1)
  have HB1 := hid (hB0.trans (b1.mono hB0.size))
  have HR1 := hid h1.at
  have hcap := hcap.le
  have hm1 : m ≤ 1000000001 := by omega
  clear C h1 b1 hX0 hB0 hpl
  obtain ⟨x0, x1, x2, f0, f1, f2⟩ := HX1.out
  by_cases h4 : m = 4
  case neg =>
    have HN : Hid (rdNode s.data.toList = none) := rdNode_words (by rw [hW, hm]; exact h4)
    have d4 : ((m : Int) != 4) = true := by rw [bne_iff_ne]; omega
    clear hm hW
    go_wp2_with fail
    obtain ⟨W, hW, ⟨e0, e1, e2⟩, hb⟩ := node_end HX1.out HB1.out ⟨#[]⟩ 0 0
    rw [hW]
    exact bodyPost_ret (v := .tuple #[.agg #[.string ⟨#[]⟩, .int .i64 0, .int .i64 0], .bool false]) (by simp [results, Tryd.results39, go_sem, e0, e1, e2]) rfl ⟨by rw [HN.out]; rfl, hb⟩
  subst h4
  obtain ⟨a, b, c, d, hw⟩ : ∃ a b c d, W = [a, b, c, d] := by
    match W, hm with
    | [a, b, c, d], _ => exact ⟨a, b, c, d, rfl⟩
  subst hw
  obtain ⟨blk, off, rfl, hl, hc⟩ := HR1.out.strs (by simp)
  have q1 : w1.cell? ⟨blk, off + 1, none⟩ = some (.string (tb b)) := hc 1 (by simp)
  have q2 : w1.cell? ⟨blk, off + 2, none⟩ = some (.string (tb c)) := hc 2 (by simp)
  have q3 : w1.cell? ⟨blk, off + 3, none⟩ = some (.string (tb d)) := hc 3 (by simp)
  have HL := hid hl
  clear hc hl
  have R2 : RowsAt encS 1 w1 (.slice (some ⟨blk, off + 2, none⟩) 2 (vc - 2)) ([c, d].map tb) := strs_mk (off := off + 2) HL.out (by simp) (fun i hi => by
    match i, hi with
    | 0, _ => exact q2
    | 1, _ => exact q3
    | i + 2, h => simp at h; omega)
  have C := l03Numbers_any _ [c, d] w1 R2 (fun l hl => by have := HWL.out l (by simp at hl ⊢; rcases hl with rfl | rfl <;> simp); omega) (by simp)
  have HPC : Hid (pieces 32 s.data.toList = [a, b, c, d]) := hW
  clear hm hW R2
  go_wp2_with fail
  refine C.mono ?_
  clear C
  cases hnum : numsBy numS [c, d] with
  | none =>
    have HN : Hid (rdNode s.data.toList = none) := rdNode_numsS (by rw [HPC.out]; exact hnum)
    rintro e w2 ⟨r, rfl, _, b2⟩
    have HX2 := hid (HX1.out.below b2)
    have HB2 := hid (HB1.out.trans (b2.mono HB1.out.size))
    clear b2 hnum x0 x1 x2 f0 f1 f2
    obtain ⟨x0, x1, x2, f0, f1, f2⟩ := HX2.out
    go_wp2_with fail
    obtain ⟨W, hW, ⟨e0, e1, e2⟩, hb⟩ := node_end HX2.out HB2.out ⟨#[]⟩ 0 0
    rw [hW]
    exact bodyPost_ret (v := .tuple #[.agg #[.string ⟨#[]⟩, .int .i64 0, .int .i64 0], .bool false]) (by simp [results, Tryd.results39, go_sem, e0, e1, e2]) rfl ⟨by rw [HN.out]; rfl, hb⟩
  | some zs =>
    obtain ⟨p, q, hz⟩ : ∃ p q, zs = [p, q] := by
      have := numsBy_len hnum
      match zs, this with
      | [p, q], _ => exact ⟨p, q, rfl⟩
    subst hz
    have HN : Hid (rdNode s.data.toList = if nodeB ⟨tb b, p, q⟩ = true ∧ ndL ⟨tb b, p, q⟩ = s.data.toList then some ⟨tb b, p, q⟩ else none) := by
      have := rdNode_S (l := s.data.toList) (a := p) (b := q) (by rw [HPC.out]; rfl) (by rw [HPC.out]; exact hnum)
      rw [HPC.out] at this; exact this
    have hsne : s.data.toList ≠ [] := fun e => by
      have := HPC.out
      rw [e] at this; simp [pieces] at this
    have dE : (s.toList == ([] : List UInt8)) = false := by rw [ByteArray.toList_eq]; exact beq_false_of_ne hsne
    rintro e w2 ⟨r, rfl, hr, b2⟩
    have HX2 := hid (HX1.out.below b2)
    have HB2 := hid (HB1.out.trans (b2.mono HB1.out.size))
    have q1 := (b2.cell (p := ⟨blk, off + 1, none⟩) HL.out).trans q1
    have hl2 := Nat.lt_of_lt_of_le HL.out b2.size
    have hbs : (tb b).size ≤ 1000000000 := by rw [tb_size]; exact HWL.out b (by simp)
    obtain ⟨_, ra, rc, rfl, hrc⟩ := hr.ints
    simp only [Option.getD_some] at hrc
    obtain ⟨rb, ro, rfl, hrc2⟩ := hrc.resolve_left (by simp)
    have r0 : w2.cell? ⟨rb, ro, none⟩ = some (.int .i64 p) := hrc2 0 (by simp)
    have r1 : w2.cell? ⟨rb, ro + 1, none⟩ = some (.int .i64 q) := hrc2 1 (by simp)
    have hrb : rb < w2.heap.size := World.block_lt_of_cell? (a := ⟨rb, ro, none⟩) w2 r0
    clear b2 hnum x0 x1 x2 f0 f1 f2 hrc hrc2
    go_wp2_with fail
    go_region
    obtain ⟨W3, hW3⟩ : ∃ W3, W3 = (w2.alloc (.cells #[.string (tb b), .int .i64 p, .int .i64 q] 37)).drew := ⟨_, rfl⟩
    rw [← hW3]
    have b3 : Below w2.heap.size w2 W3 := by rw [hW3]; exact below_drew (below_new w2 _)
    have hN3 : Blk3 W3 w2.heap.size (.string (tb b)) (.int .i64 p) (.int .i64 q) 37 := by rw [hW3]; exact Blk3.new w2 _ _ _ _
    have hn3 : w2.heap.size < W3.heap.size := by rw [hW3]; simp [World.drew]
    have HX3 := hid (HX2.out.below b3)
    have HB3 := hid (HB2.out.trans (b3.mono HB2.out.size))
    obtain ⟨n0, n1, n2, _, _, _⟩ := hN3
    clear hW3 b3 HX2 HB2 q1 hl2 r0 r1 hrb
    go_wp2_with fail
    refine (spec_NodeLine_any ⟨tb b, p, q⟩ _ (by simp only; omega)).mono ?_
    rintro e w4 ⟨rfl, b4⟩
    have HX4 := hid (HX3.out.below b4)
    have HB4 := hid (HB3.out.trans (b4.mono HB3.out.size))
    have n0 := (b4.cell (p := ⟨w2.heap.size, 0, none⟩) hn3).trans n0
    have n1 := (b4.cell (p := ⟨w2.heap.size, 1, none⟩) hn3).trans n1
    have n2 := (b4.cell (p := ⟨w2.heap.size, 2, none⟩) hn3).trans n2
    clear b4
    obtain ⟨x0, x1, x2, f0, f1, f2⟩ := HX4.out
    by_cases hnb : ndS ⟨tb b, p, q⟩ = s
    case neg =>
      have HN2 : Hid (rdNode s.data.toList = none) := by rw [Hid, HN.out, if_neg (fun h => hnb ((ndS_eq hsne).2 h))]
      have dq : ((ndS ⟨tb b, p, q⟩).toList == s.toList) = false := sEq_f.2 hnb
      clear HN hnb hsne
      go_wp2_with fail
      obtain ⟨W, hW, ⟨e0, e1, e2⟩, hb⟩ := node_end HX4.out HB4.out ⟨#[]⟩ 0 0
      rw [hW]
      exact bodyPost_ret (v := .tuple #[.agg #[.string ⟨#[]⟩, .int .i64 0, .int .i64 0], .bool false]) (by simp [results, Tryd.results39, go_sem, e0, e1, e2]) rfl ⟨by rw [HN2.out]; rfl, hb⟩
    · have HN2 : Hid (rdNode s.data.toList = some ⟨tb b, p, q⟩) := by rw [Hid, HN.out, if_pos ((ndS_eq hsne).1 hnb)]
      have dq : ((ndS ⟨tb b, p, q⟩).toList == s.toList) = true := sEq_iff.2 hnb
      clear HN hnb hsne
      go_wp2_with fail
      obtain ⟨W, hW, ⟨e0, e1, e2⟩, hb⟩ := node_end HX4.out HB4.out (tb b) p q
      rw [hW]
      exact bodyPost_ret (v := .tuple #[.agg #[.string (tb b), .int .i64 p, .int .i64 q], .bool true]) (by simp [results, Tryd.results39, go_sem, e0, e1, e2]) rfl ⟨by rw [HN2.out]; rfl, hb⟩

end Go.Proofs.YtdbgncinaacheaaDoor
