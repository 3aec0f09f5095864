/- Slices of slices of integers that the call itself makes. The laws' loops over slices of slices of integers. CycleBasis of both sides. -/
import Derived.Test.YtdapdaadglaoiaaRows2
import Derived.Test.YtdapdaadglaoiaaEx
import Derived.Test.YtdapdaadglaoiaaCycOf
import Derived.StillTailTactics
namespace Go.Proofs.Ytdapdaadglaoiaa
open Go.RowKit

/-- A slice's three words. -/
abbrev Sh := Option Addr × Nat × Nat
abbrev shV (x : Sh) : Value := .slice x.1 x.2.1 x.2.2
def encS (x : Sh) : List Value := [shV x]
theorem lenS : ∀ x, (encS x).length = 1 := fun _ => rfl
theorem oneS : ∀ x, ∀ u ∈ encS x, u.oneCell' = true := fun x u hu => by
  simp only [encS, List.mem_cons, List.not_mem_nil, or_false] at hu
  subst hu; rfl
theorem infoS : (Try.prog.info? 33).map (fun i => (i.zero, i.size, i.bytes)) = some (some (.slice none 0 0), 1, 24) := by kernel_rfl

/-- v is the call's own (blocks from B on); its cells are the slices vs; slice i lies in block bs[i] and holds xss[i]. -/
structure Mat (B lo hi : Nat) (w : World) (v : Value) (xss : List (List Int)) (vs : List Sh) (bs : List Nat) : Prop where
  row : OwnR encS 1 33 B w v vs
  lv : vs.length = xss.length
  lb : bs.length = xss.length
  nd : bs.Nodup
  rg : ∀ b ∈ bs, lo ≤ b ∧ b < hi
  nv : ∀ b ∈ bs, ¬ v.ownBlock = some b
  el : ∀ i (h : i < xss.length), Slc (fun b => b = bs[i]) w (shV vs[i]) xss[i]
theorem Mat.nil (B lo hi : Nat) (w : World) : Mat B lo hi w (.slice none 0 0) [] [] [] := ⟨OwnR.nil _ _ _ _ _, rfl, rfl, List.nodup_nil, fun _ h => (by cases h), fun _ h => (by cases h), fun _ h => (by cases h)⟩
theorem Mat.made (B lo hi : Nat) (w : World) (hB : B ≤ w.heap.size) : Mat B lo hi (w.alloc (.cells #[] 33)) (.slice (some ⟨w.heap.size, 0, none⟩) 0 0) [] [] [] := ⟨OwnR.made _ _ _ _ _ hB, rfl, rfl, List.nodup_nil, fun _ h => (by cases h), fun _ h => (by cases h), fun _ h => (by cases h)⟩
theorem Mat.kept {B lo hi : Nat} {X : Nat → Prop} {w w' : World} {v : Value} {xss : List (List Int)} {vs : List Sh} {bs : List Nat} (h : Mat B lo hi w v xss vs bs) (hk : Kept X w w') (hv : ∀ b, v.ownBlock = some b → ¬ X b) (hb : ∀ b ∈ bs, ¬ X b) : Mat B lo hi w' v xss vs bs :=
  ⟨h.row.kept hk hv, h.lv, h.lb, h.nd, h.rg, h.nv, fun i hi => (h.el i hi).kept hk (fun _ _ e => e ▸ hb _ (List.getElem_mem _))⟩
theorem Mat.below {B lo hi : Nat} {w w' : World} {v : Value} {xss : List (List Int)} {vs : List Sh} {bs : List Nat} (h : Mat B lo hi w v xss vs bs) (hb : Below w.heap.size w w') : Mat B lo hi w' v xss vs bs :=
  h.kept (X := fun _ => False) (Kept.of_below hb) (fun _ _ e => e) (fun _ _ e => e)
theorem Mat.wide {B lo hi lo' hi' : Nat} {w : World} {v : Value} {xss : List (List Int)} {vs : List Sh} {bs : List Nat} (h : Mat B lo hi w v xss vs bs) (h1 : lo' ≤ lo) (h2 : hi ≤ hi') : Mat B lo' hi' w v xss vs bs :=
  ⟨h.row, h.lv, h.lb, h.nd, fun b hb => ⟨by have := (h.rg b hb).1; omega, by have := (h.rg b hb).2; omega⟩, h.nv, h.el⟩
/-- One slice more. -/
theorem Mat.snoc {B lo hi hi' m : Nat} {w w' : World} {v v' : Value} {xss : List (List Int)} {vs : List Sh} {bs : List Nat} {x : Sh} {r : List Int} (h : Mat B lo hi w v xss vs bs) (hr : Slc (fun b => m ≤ b ∧ b < hi') w (shV x) r) (hr0 : 0 < r.length)
    (hm : hi ≤ m) (hhi : m ≤ hi') (hlo : lo ≤ m) (hvm : ∀ b, v.ownBlock = some b → ¬ (m ≤ b ∧ b < hi')) (hnew : hi' ≤ w.heap.size)
    (hrow : OwnR encS 1 33 B w' v' (vs ++ [x])) (hk : Kept (fun b => v.ownBlock = some b) w w') (hob : v'.ownBlock = v.ownBlock ∨ v'.ownBlock = some w.heap.size) :
    ∃ b, Mat B lo hi' w' v' (xss ++ [r]) (vs ++ [x]) (bs ++ [b]) := by
  obtain ⟨b, off, hx, hbX, hbl, hf, hcells⟩ := hr.at hr0
  have hrange : ∀ c, (c ∈ bs ∨ c = b) → c < w.heap.size ∧ ¬ v.ownBlock = some c := by
    rintro c (hc | rfl)
    · exact ⟨by have := (h.rg c hc).2; omega, h.nv c hc⟩
    · exact ⟨hbl, fun e => hvm _ e hbX⟩
  refine ⟨b, hrow, by simp [h.lv], by simp [h.lb], ?_, ?_, ?_, ?_⟩
  · refine List.nodup_append.2 ⟨h.nd, by simp, ?_⟩
    intro c hc d hd e
    obtain rfl : d = b := by simpa using hd
    have := (h.rg c hc).2
    omega
  · intro c hc
    rcases List.mem_append.1 hc with hc | hc
    · have := h.rg c hc
      exact ⟨this.1, by omega⟩
    · obtain rfl : c = b := by simpa using hc
      exact ⟨by omega, hbX.2⟩
  · intro c hc e
    have h1 := hrange c (by rcases List.mem_append.1 hc with hc | hc; exact .inl hc; exact .inr (by simpa using hc))
    rcases hob with h2 | h2
    · rw [h2] at e; exact h1.2 e
    · rw [h2] at e; simp only [Option.some.injEq] at e; omega
  · intro i hi'
    by_cases hi : i < xss.length
    · have hv : i < vs.length := by rw [h.lv]; exact hi
      have hb : i < bs.length := by rw [h.lb]; exact hi
      have e1 := (h.el i hi).kept hk (fun c _ e => e ▸ (h.nv _ (List.getElem_mem hb)))
      simp only [List.getElem_append_left hi, List.getElem_append_left hv, List.getElem_append_left hb]
      exact e1
    · obtain rfl : i = xss.length := by simp at hi'; omega
      have hs : Slc (fun c => c = b) w (shV x) r := by
        refine ⟨hr.1, x.1, x.2.2, by show Value.slice x.1 x.2.1 x.2.2 = _; rw [show x.2.1 = r.length from Slc.len hr], .inr ⟨b, off, hx, rfl, hf, hcells⟩⟩
      have e1 := hs.kept hk (fun c _ e => e ▸ (hrange b (.inr rfl)).2)
      have k1 : (vs ++ [x])[xss.length]'(by simp [h.lv]) = x := by
        rw [List.getElem_append_right (by rw [h.lv]; exact Nat.le_refl _)]; simp
      have k2 : (bs ++ [b])[xss.length]'(by simp [h.lb]) = b := by
        rw [List.getElem_append_right (by rw [h.lb]; exact Nat.le_refl _)]; simp
      have k3 : (xss ++ [r])[xss.length]'(by simp) = r := by
        rw [List.getElem_append_right (Nat.le_refl _)]; simp
      rw [k1, k2, k3]
      exact e1
/-- What it reads as. -/
def MatR (w : World) (v : Value) (xss : List (List Int)) : Prop :=
  ∃ a cap, v = .slice a xss.length cap ∧ (xss = [] ∨ ∃ b off, a = some ⟨b, off, none⟩ ∧ b < w.heap.size ∧ ∀ i (h : i < xss.length), ∃ x : Sh, w.cell? ⟨b, off + i, none⟩ = some (shV x) ∧ Ints .i64 w (shV x) xss[i])
theorem MatR.below {w w' : World} {v : Value} {xss : List (List Int)} (h : MatR w v xss) (hb : Below w.heap.size w w') : MatR w' v xss := by
  obtain ⟨a, cap, hv, h⟩ := h
  refine ⟨a, cap, hv, ?_⟩
  rcases h with h | ⟨b, off, ha, hl, h⟩
  · exact .inl h
  · refine .inr ⟨b, off, ha, Nat.lt_of_lt_of_le hl hb.size, fun i hi => ?_⟩
    obtain ⟨x, h1, h2⟩ := h i hi
    exact ⟨x, (hb.cell (p := ⟨b, off + i, none⟩) hl).trans h1, h2.below hb⟩
theorem MatR.nil (w : World) : MatR w (.slice none 0 0) [] := ⟨none, 0, rfl, .inl rfl⟩
theorem MatR.at {w : World} {a : Option Addr} {n cap : Nat} {xss : List (List Int)} (h : MatR w (.slice a n cap) xss) (h0 : 0 < xss.length) :
    ∃ b off, a = some ⟨b, off, none⟩ ∧ b < w.heap.size ∧ ∀ i (h : i < xss.length), ∃ x : Sh, w.cell? ⟨b, off + i, none⟩ = some (shV x) ∧ Ints .i64 w (shV x) xss[i] := by
  obtain ⟨a', cap', hv, h⟩ := h
  simp only [Value.slice.injEq] at hv
  obtain ⟨rfl, _, rfl⟩ := hv
  rcases h with h | h
  · simp [h] at h0
  · exact h
theorem Mat.reads {B lo hi : Nat} {w : World} {v : Value} {xss : List (List Int)} {vs : List Sh} {bs : List Nat} (h : Mat B lo hi w v xss vs bs) : MatR w v xss := by
  obtain ⟨a, cap, rfl, _, hc⟩ := h.row.shape lenS
  refine ⟨a, cap, by rw [h.lv], ?_⟩
  rcases hc with hc | ⟨g, rfl, _, _, hl, _, hcc⟩
  · left
    rw [hc] at h
    exact List.eq_nil_of_length_eq_zero h.lv.symm
  · refine .inr ⟨g, 0, rfl, hl, fun i hi => ⟨vs[i]'(by rw [h.lv]; exact hi), ?_, (h.el i hi).ints⟩⟩
    have := hcc i (by rw [h.lv]; exact hi) 0 (by simp [encS])
    simpa [encS] using this
/-- The append of one slice. -/
theorem wp_app_sh {w : World} {o : Oper} {a : Act} {K : Act → World → Prop} {Q : Exit → Act → World → Prop} (s x : Operand)
    (ho : o.op = .call { callee := .builtin .append, args := #[s, x], argTypes := #[57, 57] }) (B : Nat) (v : Value) (vs : List Sh) (y : Sh) (blk : Nat) (hs : a.eval s = v) (hx : a.eval x = .slice (some ⟨blk, 0, none⟩) 1 1)
    (hown : OwnR encS 1 33 B w v vs) (hc : w.cell? ⟨blk, 0, none⟩ = some (shV y)) (hlen : vs.length ≤ 1000000) (hB : B ≤ w.heap.size)
    (h : ∀ v' w', OwnR encS 1 33 B w' v' (vs ++ [y]) → Kept (fun b => v.ownBlock = some b) w w' → (v'.ownBlock = v.ownBlock ∨ v'.ownBlock = some w.heap.size) → K (a.put o.dst v') w') : o.wp Try.prog a w K Q := by
  have hsrc : RowsAt encS 1 w (.slice (some ⟨blk, 0, none⟩) 1 1) [y] := by
    refine ⟨by simp, _, _, rfl, .inr ⟨blk, 0, rfl, World.block_lt_of_cell? (a := ⟨blk, 0, none⟩) w hc, fun i hi => ?_⟩⟩
    obtain rfl : i = 0 := by simpa using hi
    intro j hj
    obtain rfl : j = 0 := by simpa [encS] using hj
    simpa [encS] using hc
  exact wp_app_rows lenS oneS s x 57 ho B 33 _ 24 Try.underlying57 infoS rfl (by decide) v _ vs [y] hs hx hown hsrc (by simp; omega) (by simp; omega) hB h
theorem wpList_appS {ops : Array Oper} {rest : List Oper} {o : Oper} {a : Act} {Q : Exit → Act → World → Prop} {w : World} (hgd : o.guard = none) (s x : Operand)
    (ho : o.op = .call { callee := .builtin .append, args := #[s, x], argTypes := #[57, 57] }) (B : Nat) (v : Value) (vs : List Sh) (y : Sh) (blk : Nat) (hs : a.eval s = v) (hx : a.eval x = .slice (some ⟨blk, 0, none⟩) 1 1)
    (hown : OwnR encS 1 33 B w v vs) (hc : w.cell? ⟨blk, 0, none⟩ = some (shV y)) (hlen : vs.length ≤ 1000000) (hB : B ≤ w.heap.size)
    (h : ∀ v' w', OwnR encS 1 33 B w' v' (vs ++ [y]) → Kept (fun b => v.ownBlock = some b) w w' → (v'.ownBlock = v.ownBlock ∨ v'.ownBlock = some w.heap.size) → wpList Try.prog ops Q rest (a.put o.dst v') w') : wpList Try.prog ops Q (o :: rest) a w :=
  wpList_plain hgd fun _ hK => wp_app_sh s x ho B v vs y blk hs hx hown hc hlen hB fun v' w' h1 h2 h3 => hK _ _ (h v' w' h1 h2 h3)

theorem step_appS {ops : Array Oper} {o : Oper} {a : Act} {Q : Exit → Act → World → Prop} {w : World} {K : Act → World → Prop} {E : Prop} (hgd : o.guard = none) (s x : Operand)
    (ho : o.op = .call { callee := .builtin .append, args := #[s, x], argTypes := #[57, 57] }) (B : Nat) (v : Value) (vs : List Sh) (y : Sh) (blk : Nat) (hs : a.eval s = v) (hx : a.eval x = .slice (some ⟨blk, 0, none⟩) 1 1)
    (hown : OwnR encS 1 33 B w v vs) (hc : w.cell? ⟨blk, 0, none⟩ = some (shV y)) (hlen : vs.length ≤ 1000000) (hB : B ≤ w.heap.size)
    (h : ∀ v' w', OwnR encS 1 33 B w' v' (vs ++ [y]) → Kept (fun b => v.ownBlock = some b) w w' → (v'.ownBlock = v.ownBlock ∨ v'.ownBlock = some w.heap.size) → K (a.put o.dst v') w') :
    if Region.wanted o (yielded ops a.tmps) = true then Oper.wp Try.prog o a w K Q else E := by
  have hw : Region.wanted o (yielded ops a.tmps) = true := by simp [Region.wanted, hgd]
  rw [if_pos hw]
  exact wp_app_sh s x ho B v vs y blk hs hx hown hc hlen hB h

end Go.Proofs.Ytdapdaadglaoiaa

namespace Go.Proofs.Ytdapdaadglaoiaa
open Go.RowKit

def tlen (xss : List (List Int)) : Nat := (xss.map List.length).sum
theorem tlen_snoc (xss : List (List Int)) (r : List Int) : tlen (xss ++ [r]) = tlen xss + r.length := by simp [tlen]
theorem tlen_take_succ {xss : List (List Int)} {k : Nat} (h : k < xss.length) : tlen (xss.take (k + 1)) = tlen (xss.take k) + (xss[k]).length := by
  rw [List.take_succ_eq_append_getElem h, tlen_snoc]
theorem tlen_append (a b : List (List Int)) : tlen (a ++ b) = tlen a + tlen b := by simp [tlen]
theorem tlen_take_le (xss : List (List Int)) (k : Nat) : tlen (xss.take k) ≤ tlen xss := by
  have e := congrArg tlen (List.take_append_drop k xss)
  rw [tlen_append] at e
  omega
def mkRows (k0 : Int) : List (List Int) → List (List Int)
  | [] => []
  | r :: t => iota k0 r.length :: mkRows (k0 + r.length) t
theorem mkRows_len (k0 : Int) (xss : List (List Int)) : (mkRows k0 xss).length = xss.length := by
  induction xss generalizing k0 with
  | nil => rfl
  | cons r t ih => simp [mkRows, ih]
theorem mkRows_snoc (k0 : Int) (xss : List (List Int)) (r : List Int) : mkRows k0 (xss ++ [r]) = mkRows k0 xss ++ [iota (k0 + tlen xss) r.length] := by
  induction xss generalizing k0 with
  | nil => simp [mkRows, tlen]
  | cons x t ih =>
    have e : k0 + (x.length : Int) + tlen t = k0 + tlen (x :: t) := by simp [tlen]; omega
    simp only [List.cons_append, mkRows, ih, e]
theorem mkRows_set (k0 : Int) (xss : List (List Int)) (k : Nat) (h : k < xss.length) : (mkRows k0 (xss.take k) ++ xss.drop k).set k (iota (k0 + tlen (xss.take k)) (xss[k]).length) = mkRows k0 (xss.take (k + 1)) ++ xss.drop (k + 1) := by
  have hl : (mkRows k0 (xss.take k)).length = k := by rw [mkRows_len]; simp; omega
  rw [List.take_succ_eq_append_getElem h, mkRows_snoc, List.set_append_right _ _ (by omega), hl, Nat.sub_self, List.append_assoc]
  congr 1
  rw [List.drop_eq_getElem_cons h, List.set_cons_zero]; rfl
theorem mkRows_get (k0 : Int) (xss : List (List Int)) (k : Nat) (h : k < xss.length) (h2 : k < (mkRows k0 xss).length) : (mkRows k0 xss)[k] = iota (k0 + tlen (xss.take k)) (xss[k]).length := by
  induction xss generalizing k0 k with
  | nil => cases h
  | cons x t ih =>
    cases k with
    | zero => simp [mkRows, tlen]
    | succ k =>
      simp only [mkRows, List.getElem_cons_succ, List.take_succ_cons]
      rw [ih (k0 + x.length) k (by simpa using h)]
      congr 1
      simp [tlen]; omega
/-- Row k is written. -/
theorem Mat.setRow {B lo hi : Nat} {w w' : World} {v : Value} {xss : List (List Int)} {vs : List Sh} {bs : List Nat} (h : Mat B lo hi w v xss vs bs) (k : Nat) (hkb : k < bs.length) (hkv : k < vs.length) {r : List Int}
    (hr : Slc (fun b => b = bs[k]) w' (shV vs[k]) r) (kp : Kept (fun b => b = bs[k]) w w') : Mat B lo hi w' v (xss.set k r) vs bs := by
  refine ⟨h.row.kept kp (fun b hb e => h.nv _ (List.getElem_mem hkb) (by rw [hb, e])), by simp [h.lv], by simp [h.lb], h.nd, h.rg, h.nv, fun i hi => ?_⟩
  have hi' : i < xss.length := by simpa using hi
  by_cases e : k = i
  · subst e
    rw [List.getElem_set_self]
    exact hr
  · rw [List.getElem_set_ne e]
    refine (h.el i hi').kept kp (fun b _ hb hx => ?_)
    have hnd := List.nodup_iff_pairwise_ne.1 h.nd
    rw [List.pairwise_iff_getElem] at hnd
    have hib : i < bs.length := by rw [h.lb]; exact hi'
    rw [hb] at hx
    rcases Nat.lt_or_gt_of_ne e with h1 | h1
    · exact hnd k i hkb hib h1 hx.symm
    · exact hnd i k hib hkb h1 hx

set_option maxHeartbeats 400000 in
set_option maxRecDepth 100000 in
theorem eqInt64SS_t (v u : Value) (xss : List (List Int)) (w : World) (h : MatR w v xss) (h' : MatR w u xss) (hl : xss.length ≤ 1000000) :
    Calls Try.prog 59 #[v, u] w fun e w' => e = .returned (.bool true) ∧ Below w.heap.size w w' := by
  obtain ⟨a0, k0, rfl, _⟩ := id h
  obtain ⟨a1, k1, rfl, _⟩ := id h'
  have H0 := hid h
  have H1 := hid h'
  clear h h'
  go_enter Try.func59, Try.ntmps59
  go_wp2_with fail
  go_loopw [5] (fun i wr => ∃ k : Nat, i = .int .i64 k ∧ k ≤ xss.length ∧ Below w.heap.size w wr) (fun i _ => xss.length - (intOf i).toNat)
  case atStart => exact ⟨0, rfl, by omega, Below.refl _ _⟩
  case round =>
    obtain ⟨k, rfl, hk, hb⟩ := hrel
    by_cases hlt : k < xss.length
    · obtain ⟨b0, o0, rfl, hl0, hc0⟩ := (H0.out.below hb).at (by omega)
      obtain ⟨b1, o1, rfl, hl1, hc1⟩ := (H1.out.below hb).at (by omega)
      obtain ⟨x0, q0, i0⟩ := hc0 k hlt
      obtain ⟨x1, q1, i1⟩ := hc1 k hlt
      have hkI : (k : Int) < xss.length := by omega
      have I0 := hid i0
      have I1 := hid i1
      have HB := hid hb
      clear hc0 hc1 i0 i1 hb
      go_wp2_with fail
      go_still_tail 8, (by kernel_rfl)
      change wpList _ _ _ _ _ (World.drew _)
      go_wp2_with fail
      refine (eqInt64S_t _ _ _ _ (I0.out.below (Below.refl _ _).drew) (I1.out.below (Below.refl _ _).drew)).mono ?_
      rintro e w2 ⟨rfl, b2⟩
      have HB2 := hid (HB.out.trans ((below_undrew b2).mono HB.out.size))
      clear b2 q0 q1
      go_wp2_with fail
      go_roundw
      case rel => exact ⟨k + 1, by go_num, by omega, HB2.out⟩
      case measure => simp [intOf]; omega
    · obtain rfl : k = xss.length := by omega
      have HB := hid hb
      clear hb
      go_wp2_with fail
      go_ret
      exact ⟨rfl, HB.out⟩

def MarkSRel (B lo hi : Nat) (v : Value) (xss : List (List Int)) (vs : List Sh) (bs : List Nat) (k0 : Int) (w : World) (t i : Value) (wr : World) : Prop :=
  ∃ k : Nat, i = .int .i64 k ∧ t = .int .i64 (k0 + tlen (xss.take k)) ∧ k ≤ xss.length ∧ Mat B lo hi wr v (mkRows k0 (xss.take k) ++ xss.drop k) vs bs ∧ Kept (fun b => b ∈ bs) w wr
set_option maxHeartbeats 400000 in
set_option maxRecDepth 100000 in
theorem markInt64SS_any (B lo hi : Nat) (v : Value) (xss : List (List Int)) (vs : List Sh) (bs : List Nat) (k0 : Int) (w : World) (h : Mat B lo hi w v xss vs bs) (h0 : 0 ≤ k0) (h1 : k0 + tlen xss ≤ 100000000000) (hl : xss.length ≤ 1000000) :
    Calls Try.prog 60 #[v, .int .i64 k0] w fun e w' => e = .returned (.int .i64 (k0 + tlen xss)) ∧ Mat B lo hi w' v (mkRows k0 xss) vs bs ∧ Kept (fun b => b ∈ bs) w w' := by
  obtain ⟨a0, c0, rfl, _⟩ := id h.reads
  have lv := h.lv
  have lb := h.lb
  have H := hid h
  clear h
  go_enter Try.func60, Try.ntmps60
  go_wp2_with fail
  go_loopw [1, 5] (fun t i wr => MarkSRel B lo hi (.slice a0 xss.length c0) xss vs bs k0 w t i wr) (fun _ i _ => xss.length - (intOf i).toNat)
  case atStart => exact ⟨0, rfl, by simp [tlen], by omega, by simpa [mkRows] using H.out, Kept.refl _ _⟩
  case round =>
    clear H
    obtain ⟨k, rfl, rfl, hk, hm, hkp⟩ := hrel
    by_cases hlt : k < xss.length
    · have hll : (mkRows k0 (xss.take k) ++ xss.drop k).length = xss.length := by simp [mkRows_len]; omega
      have hkb : k < bs.length := by omega
      have hkv : k < vs.length := by omega
      have hel0 := hm.el k (by omega)
      have he : (mkRows k0 (xss.take k) ++ xss.drop k)[k]'(by omega) = xss[k] := by
        have hml : (mkRows k0 (xss.take k)).length = k := by rw [mkRows_len]; simp; omega
        rw [List.getElem_append_right (by omega)]
        simp [hml]
      have hel : Slc (fun b => b = bs[k]'hkb) wr (shV (vs[k]'hkv)) xss[k] := by rw [he] at hel0; exact hel0
      clear hel0
      obtain ⟨g, cg, hge, _, hgc⟩ := hm.row.shape lenS
      rcases hgc with hgc | ⟨gb, hgb, _, _, hgl, _, hgcc⟩
      · rw [hgc] at lv; simp at lv; omega
      simp only [Value.slice.injEq] at hge
      obtain ⟨rfl, hxv, rfl⟩ := hge
      clear hxv
      subst hgb
      have q0 := hgcc k hkv 0 (by simp [encS])
      simp only [encS, List.getElem_cons_zero, Nat.mul_one, Nat.add_zero] at q0
      have hkI : (k : Int) < xss.length := by omega
      have htk := tlen_take_le xss k
      have hT := hid (tlen_take_succ hlt)
      have HM := hid hm
      have HK := hid hkp
      have HE := hid hel
      clear hm hkp hel he hgcc lv lb hll
      go_wp2_with fail
      refine (markInt64S_any _ _ _ _ _ HE.out (by omega) (by omega)).mono ?_
      rintro e w2 ⟨rfl, hs2, k2⟩
      have HM2 := hid (HM.out.setRow k hkb hkv hs2 k2)
      have HK2 := hid (HK.out.trans (k2.mono (fun b _ e => e ▸ List.getElem_mem _)))
      clear hs2 k2 q0
      go_wp2_with fail
      go_roundw
      case rel =>
        refine ⟨k + 1, by go_num, ?_, by omega, ?_, HK2.out⟩
        · rw [hT.out]; go_num
        · have := HM2.out
          rw [mkRows_set k0 xss k hlt] at this
          exact this
      case measure => simp [intOf]; omega
    · obtain rfl : k = xss.length := by omega
      have HM := hid hm
      have HK := hid hkp
      clear hm hkp
      rw [List.take_length] at *
      rw [List.drop_length, List.append_nil] at HM
      go_wp2_with fail
      go_ret
      exact ⟨rfl, HM.out, HK.out⟩

def HeldSRel (xss : List (List Int)) (k0 : Int) (w : World) (t i : Value) (wr : World) : Prop := ∃ k : Nat, i = .int .i64 k ∧ t = .int .i64 (k0 + tlen (xss.take k)) ∧ k ≤ xss.length ∧ wr = w
set_option maxHeartbeats 400000 in
set_option maxRecDepth 100000 in
theorem heldInt64SS_any (v : Value) (xss : List (List Int)) (k0 : Int) (w : World) (h : MatR w v (mkRows k0 xss)) (h0 : 0 ≤ k0) (h1 : k0 + tlen xss ≤ 100000000000) (hl : xss.length ≤ 1000000) :
    Calls Try.prog 61 #[v, .int .i64 k0] w fun e w' => e = .returned (.int .i64 (k0 + tlen xss)) ∧ w = w' := by
  obtain ⟨a0, c0, rfl, _⟩ := id h
  have hml := mkRows_len k0 xss
  rw [hml] at h ⊢
  have H := hid h
  have HML := hid hml
  clear hml
  clear h
  go_enter Try.func61, Try.ntmps61
  go_wp2_with fail
  go_loopw [1, 5] (fun t i wr => HeldSRel xss k0 w t i wr) (fun _ i _ => xss.length - (intOf i).toNat)
  case atStart => exact ⟨0, rfl, by simp [tlen], by omega, rfl⟩
  case round =>
    obtain ⟨k, rfl, rfl, hk, rfl⟩ := hrel
    by_cases hlt : k < xss.length
    · obtain ⟨b0, o0, rfl, hl0, hc0⟩ := H.out.at (by rw [HML.out]; omega)
      obtain ⟨x, q0, i0⟩ := hc0 k (by rw [HML.out]; exact hlt)
      rw [mkRows_get k0 xss k hlt] at i0
      have hkI : (k : Int) < xss.length := by omega
      have htk := tlen_take_le xss k
      have htk2 := tlen_take_le xss (k + 1)
      have hT2 := tlen_take_succ hlt
      have hT := hid (tlen_take_succ hlt)
      have hnn : ¬ (k0 + (tlen (xss.take k) : Int) + ((xss[k]).length : Int) < 0) := by omega
      have I0 := hid i0
      clear hc0 i0 hT2
      go_wp2_with fail
      refine (heldInt64S_any _ _ _ _ I0.out (by omega) (by omega)).mono ?_
      rintro e w2 ⟨rfl, rfl⟩
      clear q0
      go_wp2_with fail
      go_roundw
      case rel =>
        refine ⟨k + 1, by go_num, ?_, by omega, rfl⟩
        rw [hT.out]; go_num
      case measure => simp [intOf]; omega
    · obtain rfl : k = xss.length := by omega
      rw [List.take_length]
      go_wp2_with fail
      go_ret
      exact ⟨rfl, rfl⟩

end Go.Proofs.Ytdapdaadglaoiaa

namespace Go.Proofs.Ytdapdaadglaoiaa
open Go.RowKit

def csTo (n : Net) (k : Nat) : List (List Int) := ((chords n).take k).map (cyI n)
theorem csTo_succ (n : Net) (k : Nat) (h : k < (chords n).length) : csTo n (k + 1) = csTo n k ++ [cyI n (chords n)[k]] := by
  unfold csTo
  rw [List.take_succ_eq_append_getElem h, List.map_append]; rfl
theorem csTo_len (n : Net) (k : Nat) (h : k ≤ (chords n).length) : (csTo n k).length = k := by unfold csTo; simp; omega
def csM (n : Net) : List (List Int) := (chords n).map (cyI n)
theorem csTo_all (n : Net) : csTo n (chords n).length = csM n := by unfold csTo csM; rw [List.take_length]
theorem csM_len (n : Net) : (csM n).length = (chords n).length := by simp [csM]
def cbR (n : Net) : List (List Int) × Int := if netB n = true then (csM n, 0) else ([], 1)
theorem csM_row {n : Net} (hb : netB n = true) {r : List Int} (h : r ∈ csM n) : r.length = n.pipes.length := by
  obtain ⟨c, hc, rfl⟩ := List.mem_map.1 h
  obtain ⟨i, rfl, hi, hf⟩ := chords_mem.1 hc
  exact cyI_len hb hi hf
theorem chord_at' {n : Net} {k : Nat} (hk : k < (chords n).length) : ∃ c : Nat, (chords n)[k] = c ∧ c < n.pipes.length ∧ (c : Int) ∉ forest n := by
  obtain ⟨c, h1, h2, h3⟩ := chords_mem.1 (List.getElem_mem hk)
  exact ⟨c, h1, h2, h3⟩
/-- A result: slices of slices of the call's own, and a code. -/
def OutM (w : World) (p : List (List Int) × Int) (e : Ending) (w' : World) : Prop :=
  ∃ v, e = .returned (.tuple #[v, .int .i64 p.2]) ∧ (∃ vs bs, Mat w.heap.size w.heap.size w'.heap.size w' v p.1 vs bs) ∧ Below w.heap.size w w'
def CbRel (n : Net) (l : List Value) (w : World) (B : Nat) (cv : Value) (i s : Value) (wr : World) : Prop :=
  ∃ k : Nat, i = .int .i64 k ∧ k ≤ (chords n).length ∧ (∃ vs bs, Mat B B wr.heap.size wr s (csTo n k) vs bs) ∧ Box wr w.heap.size l ∧ Slc (fun c => w.heap.size + 1 ≤ c ∧ c < B) wr cv (chords n) ∧ Below w.heap.size w wr ∧ B ≤ wr.heap.size
theorem Mat.lower {B B' lo lo' hi : Nat} {w : World} {v : Value} {xss : List (List Int)} {vs : List Sh} {bs : List Nat} (h : Mat B lo hi w v xss vs bs) (h1 : B' ≤ B) (h2 : lo' ≤ lo) : Mat B' lo' hi w v xss vs bs :=
  ⟨h.row.lower h1, h.lv, h.lb, h.nd, fun b hb => ⟨by have := (h.rg b hb).1; omega, (h.rg b hb).2⟩, h.nv, h.el⟩

set_option maxHeartbeats 1000000 in
set_option maxRecDepth 100000 in
theorem impl_CycleBasis_any (nv pv : Value) (n : Net) (w : World) (h : NetAt w nv pv n) (hcap : CapOk nv) :
    Calls Try.prog 49 #[.agg #[nv, pv]] w (OutM w (cbR n)) := by
  obtain ⟨a0, k0, rfl⟩ := h.1.shape
  obtain ⟨a1, k1, rfl⟩ := h.2.2.shape
  have HP := hid h
  have hWb := below_new w (.cells #[.slice a0 n.nodes.length k0, .slice a1 n.pipes.length k1] 27)
  have hbx := Box.new w #[.slice a0 n.nodes.length k0, .slice a1 n.pipes.length k1] 27
  have h := h.below hWb
  obtain ⟨c0, c1⟩ := hbx.two
  go_enter Try.func49, Try.ntmps49
  go_wp2_with fail
  refine (impl_IsNetwork_any _ _ n _ h hcap).mono ?_
  cases hb : netB n
  · have hr : Hid (cbR n = ([], 1)) := by simp [Hid, cbR, hb]
    rintro e w1 ⟨rfl, b1⟩
    have HB := hid (hWb.trans (b1.mono hWb.size))
    clear b1 hWb hbx
    go_wp2_with fail
    go_ret2
    rw [hr.out]
    exact ⟨_, rfl, ⟨[], [], Mat.nil _ _ _ _⟩, HB.out⟩
  have hr : Hid (cbR n = (csM n, 0)) := by simp [Hid, cbR, hb]
  have hnl := netB_t hb
  have hfl := chords_le n
  rintro e w1 ⟨rfl, b1⟩
  have HB := hid (hWb.trans (b1.mono hWb.size))
  have HX := hid (hbx.below b1)
  obtain ⟨d0, d1⟩ := HX.out.two
  have h := h.below b1
  clear b1 hWb hbx c0 c1
  go_wp2_with fail
  refine (chordsOf_any _ _ n _ h hb).mono ?_
  rintro e w2 ⟨r, rfl, o2, b2⟩
  have zb := HB.out.size
  have z2 := b2.size
  have HB2 := hid (HB.out.trans (b2.mono HB.out.size))
  have HX2 := hid (HX.out.below b2)
  have SF := hid ((o2.slc (by omega)).mono (Q := fun c => w.heap.size + 1 ≤ c ∧ c < w2.heap.size) (fun c _ h => ⟨by have := h.1; omega, h.2⟩))
  obtain ⟨ra, rc, rfl, _⟩ := o2.shape
  clear b2 o2 d0 d1 HB HX h
  go_wp2_with fail
  go_loopw [13, 4] (fun i s wr => CbRel n [.slice a0 n.nodes.length k0, .slice a1 n.pipes.length k1] w w2.heap.size (.slice ra (chords n).length rc) i s wr) (fun i _ _ => (chords n).length - (intOf i).toNat)
  case atStart => exact ⟨0, rfl, by omega, ⟨[], [], Mat.nil _ _ _ _⟩, HX2.out, SF.out, HB2.out, Nat.le_refl _⟩
  case round =>
    clear HB2 HX2 SF
    obtain ⟨k, rfl, hk, ⟨vs, bs, hm⟩, bx, sc, hbel, hB1⟩ := hrel
    by_cases hlt : k < (chords n).length
    · obtain ⟨c, hcj, hcp, hcf⟩ := chord_at' hlt
      have hS := hid (csTo_succ n k hlt)
      rw [hcj] at hS
      have hkI : (k : Int) < (chords n).length := by omega
      obtain ⟨cb, co, rfl, hcX, hcbl, _, hcc⟩ := sc.at (by omega)
      have q0 := hcc k hlt
      rw [hcj] at q0
      obtain ⟨d0, d1⟩ := bx.two
      have HN := hid (HP.out.below hbel)
      have HM := hid hm
      have HX := hid bx
      have SC := hid sc
      have HB := hid hbel
      have hlv : vs.length ≤ 1000000 := by have h1 := hm.lv; rw [csTo_len n k (by omega)] at h1; omega
      have hown : Hid (∀ b, u4.ownBlock = some b → w2.heap.size ≤ b ∧ b < wr.heap.size) := fun b hb => hm.row.lt b hb
      have hlen := cyI_len hb hcp hcf
      have HL := hid hlen
      clear hm bx sc hbel hcc hcj hlen
      go_wp2_with fail
      refine (cycleOf_any _ _ n c _ HN.out hb hcp).mono ?_
      rintro e w3 ⟨r, rfl, hr3, b3⟩
      obtain ⟨_, xa, xc, hre, _⟩ := id hr3
      rw [HL.out] at hre
      subst hre
      have z3 := b3.size
      have HR3 := hid hr3
      have HM3 := hid (HM.out.below b3)
      have HX3 := hid (HX.out.below b3)
      have SC3 := hid (SC.out.below b3)
      have HB3 := hid (HB.out.trans (b3.mono HB.out.size))
      clear hr3 b3 d0 d1 q0
      go_wp2_with (at_builtin; refine wpList_appS rfl (.tmp 17) (.tmp 21) rfl w2.heap.size _ vs (xa, n.pipes.length, xc) w3.heap.size rfl rfl (HM3.out.row.below (below_new _ _)) ?c1 hlv ?c3 ?_)
      case c1 => simp
      case c3 => simp; omega
      intro v5 w5 hv5 hk5 hb5
      have bn := below_new w3 (.cells #[.slice xa n.pipes.length xc] 33)
      have kk : Kept (fun b => w2.heap.size ≤ b ∧ u4.ownBlock = some b) w3 w5 := (Kept.of_below bn).trans (hk5.mono (fun b _ hb => ⟨(hown.out b hb).1, hb⟩))
      have hmat := (HM3.out.below bn).snoc (m := wr.heap.size) (hi' := w3.heap.size) (HR3.out.below bn) (by rw [HL.out]; omega) (Nat.le_refl _) z3 hB1 (fun b hb h2 => by have := hown.out b hb; omega) (by simp) hv5 hk5 (by rw [World.size_alloc]; exact hb5)
      obtain ⟨nb, hmat⟩ := hmat
      rw [← hS.out] at hmat
      have HM5 := hid (hmat.wide (hi' := w5.heap.size) (Nat.le_refl _) kk.size)
      have HX5 := hid (HX3.out.kept kk (by omega))
      have SC5 := hid (SC3.out.kept kk (fun c _ h1 h2 => by omega))
      have HB5 := hid (HB3.out.trans (kk.below HB3.out.size (fun b h => by omega)))
      have z5 := kk.size
      clear hv5 hk5 hb5 kk bn hmat
      go_wp2_with fail
      go_roundw
      case rel => exact ⟨k + 1, by go_num, by omega, ⟨_, _, HM5.out⟩, HX5.out, SC5.out, HB5.out, by omega⟩
      case measure => simp [intOf]; omega
    · obtain rfl : k = (chords n).length := by omega
      rw [csTo_all] at hm
      have HM := hid hm
      have HB := hid hbel
      obtain ⟨pa, pc, hpe, _⟩ := hm.row.shape lenS
      subst hpe
      clear hm bx sc hbel
      go_wp2_with fail
      go_ret2
      rw [hr.out]
      exact ⟨_, rfl, ⟨_, _, HM.out.lower (by omega) (by omega)⟩, HB.out⟩

set_option maxHeartbeats 1000000 in
set_option maxRecDepth 100000 in
theorem l05Basis_any (nv pv : Value) (n : Net) (w : World) (h : NetAt w nv pv n) (hb : netB n = true) :
    Calls Try.prog 130 #[.agg #[nv, pv]] w fun e w' => ∃ v, e = .returned v ∧ (∃ vs bs, Mat (w.heap.size + 1) (w.heap.size + 1) w'.heap.size w' v (csM n) vs bs) ∧ Below w.heap.size w w' := by
  obtain ⟨a0, k0, rfl⟩ := h.1.shape
  obtain ⟨a1, k1, rfl⟩ := h.2.2.shape
  have HP := hid h
  have hWb := below_new w (.cells #[.slice a0 n.nodes.length k0, .slice a1 n.pipes.length k1] 27)
  have hbx := Box.new w #[.slice a0 n.nodes.length k0, .slice a1 n.pipes.length k1] 27
  have h := h.below hWb
  have hnl := netB_t hb
  have hfl := chords_le n
  obtain ⟨c0, c1⟩ := hbx.two
  have HB := hid hWb
  have HX := hid hbx
  clear hWb hbx
  go_enter Try.func130, Try.ntmps130
  go_wp2_with fail
  refine (l05Chords_any _ _ n _ h hb).mono ?_
  rintro e w2 ⟨r, rfl, o2, b2⟩
  have zb := HB.out.size
  have z2 := b2.size
  simp only [World.size_alloc] at z2
  have HB2 := hid (HB.out.trans (b2.mono HB.out.size))
  have HX2 := hid (HX.out.below b2)
  have SF := hid ((o2.slc (by omega)).mono (Q := fun c => w.heap.size + 1 ≤ c ∧ c < w2.heap.size) (fun c _ h => ⟨by have := h.1; simp only [World.size_alloc] at this; omega, h.2⟩))
  obtain ⟨ra, rc, rfl, _⟩ := o2.shape
  clear b2 o2 c0 c1 HB HX h zb
  go_wp2_with fail
  go_loopw [5, 4] (fun i s wr => CbRel n [.slice a0 n.nodes.length k0, .slice a1 n.pipes.length k1] w w2.heap.size (.slice ra (chords n).length rc) i s wr) (fun i _ _ => (chords n).length - (intOf i).toNat)
  case atStart => exact ⟨0, rfl, by omega, ⟨[], [], Mat.made _ _ _ _ (Nat.le_refl _)⟩, HX2.out.below (below_new _ _), SF.out.below (below_new _ _), HB2.out.alloc HB2.out.size _, by simp⟩
  case round =>
    clear HB2 HX2 SF
    obtain ⟨k, rfl, hk, ⟨vs, bs, hm⟩, bx, sc, hbel, hB1⟩ := hrel
    by_cases hlt : k < (chords n).length
    · obtain ⟨c, hcj, hcp, hcf⟩ := chord_at' hlt
      have hS := hid (csTo_succ n k hlt)
      rw [hcj] at hS
      have hkI : (k : Int) < (chords n).length := by omega
      obtain ⟨cb, co, rfl, hcX, hcbl, _, hcc⟩ := sc.at (by omega)
      have q0 := hcc k hlt
      rw [hcj] at q0
      obtain ⟨d0, d1⟩ := bx.two
      have zx := bx.1
      have HN := hid (HP.out.below hbel)
      have HM := hid hm
      have HX := hid bx
      have SC := hid sc
      have HB := hid hbel
      have hlv : vs.length ≤ 1000000 := by have h1 := hm.lv; rw [csTo_len n k (by omega)] at h1; omega
      have hown : Hid (∀ b, u4.ownBlock = some b → w2.heap.size ≤ b ∧ b < wr.heap.size) := fun b hb => hm.row.lt b hb
      have hlen := cyI_len hb hcp hcf
      have HL := hid hlen
      have HCE := hid (cyc_eq hb hcp hcf)
      clear hm bx sc hbel hcc hcj hlen
      have hD : Below wr.heap.size wr wr.drew := (Below.refl _ _).drew
      have kp3 : Hid (∀ W3, Below wr.heap.size wr W3 → ∀ W, Below W3.heap.size W3 W → W.cell? ⟨w.heap.size, 0, none⟩ = some (.slice a0 n.nodes.length k0) ∧ W.cell? ⟨w.heap.size, 1, none⟩ = some (.slice a1 n.pipes.length k1) ∧ W.cell? ⟨cb, co + k, none⟩ = some (.int .i64 c)) := fun W3 h3 W hW => by
        have hb := h3.trans (hW.mono h3.size)
        exact ⟨(hb.cell (p := ⟨w.heap.size, 0, none⟩) zx).trans d0, (hb.cell (p := ⟨w.heap.size, 1, none⟩) zx).trans d1, (hb.cell (p := ⟨cb, co + k, none⟩) hcbl).trans q0⟩
      have kp5 : Hid (∀ W3 y, Below wr.heap.size wr W3 → ∀ W5, Kept (fun b => u4.ownBlock = some b) (W3.alloc (.cells #[shV y] 33)) W5 → W5.cell? ⟨w.heap.size, 0, none⟩ = some (.slice a0 n.nodes.length k0) ∧ W5.cell? ⟨w.heap.size, 1, none⟩ = some (.slice a1 n.pipes.length k1) ∧ W5.cell? ⟨cb, co + k, none⟩ = some (.int .i64 c)) := fun W3 y h3 W5 hk => by
        obtain ⟨e0, e1, e2⟩ := kp3.out W3 h3 _ (below_new W3 (.cells #[shV y] 33))
        exact ⟨hk.cell e0 (fun e => by have := (hown.out _ e).1; simp only at this; omega), hk.cell e1 (fun e => by have := (hown.out _ e).1; simp only at this; omega), hk.cell e2 (fun e => by have := (hown.out _ e).1; simp only at this; omega)⟩
      go_wp2_with fail
      go_region_held3 (fun W => W.cell? ⟨w.heap.size, 0, none⟩ = some (.slice a0 n.nodes.length k0) ∧ W.cell? ⟨w.heap.size, 1, none⟩ = some (.slice a1 n.pipes.length k1) ∧ W.cell? ⟨cb, co + k, none⟩ = some (.int .i64 c))
        (first | exact ⟨d0, d1, q0⟩ | exact HS3.out _ (Below.refl _ _) | exact HS3.out _ (below_new _ _) | exact HS5.out)
        (first
          | (go_at_call 133; refine (l05Cycle_any _ _ n c _ (HN.out.below hD) hb hcp).mono ?_; rintro e w3 ⟨r, rfl, hr3, b3⟩; have b3' := hD.trans (b3.mono (Nat.le_refl _)); rw [← HCE.out] at hr3; obtain ⟨_, xa, xc, hre, _⟩ := id hr3; rw [HL.out] at hre; subst hre; have z3 := b3'.size; have HR3 := hid hr3; have HM3 := hid (HM.out.below b3'); have HX3 := hid (HX.out.below b3'); have SC3 := hid (SC.out.below b3'); have HB3 := hid (HB.out.trans (b3'.mono HB.out.size)); have HS3 := hid (kp3.out w3 b3'))
          | (refine step_appS rfl (.tmp 15) (.tmp 22) rfl w2.heap.size u4 vs (xa, n.pipes.length, xc) w3.heap.size rfl rfl (HM3.out.row.below (below_new _ _)) ?_ hlv ?_ ?_; (· simp); (· simp; omega); intro v5 w5 hv5 hk5 hb5; have HS5 := hid (kp5.out w3 (xa, n.pipes.length, xc) b3' w5 hk5)))
      have bn := below_new w3 (.cells #[.slice xa n.pipes.length xc] 33)
      have kk : Kept (fun b => w2.heap.size ≤ b ∧ u4.ownBlock = some b) w3 w5 := (Kept.of_below bn).trans (hk5.mono (fun b _ hb => ⟨(hown.out b hb).1, hb⟩))
      have hmat := (HM3.out.below bn).snoc (x := (xa, n.pipes.length, xc)) (m := wr.heap.size) (hi' := w3.heap.size) (HR3.out.below bn) (by rw [HL.out]; omega) (Nat.le_refl _) z3 hB1 (fun b hb h2 => by have := hown.out b hb; omega) (by simp) hv5 hk5 hb5
      obtain ⟨nb, hmat⟩ := hmat
      rw [← hS.out] at hmat
      have HM5 := hid (hmat.wide (hi' := w5.heap.size) (Nat.le_refl _) kk.size)
      have HX5 := hid (HX3.out.kept kk (by omega))
      have SC5 := hid (SC3.out.kept kk (fun c _ h1 h2 => by omega))
      have HB5 := hid (HB3.out.trans (kk.below HB3.out.size (fun b h => by omega)))
      have z5 := kk.size
      clear hv5 hk5 hb5 kk bn hmat
      go_wp2_with fail
      go_roundw
      case rel => exact ⟨k + 1, by go_num, by omega, ⟨_, _, HM5.out⟩, HX5.out, SC5.out, HB5.out, by omega⟩
      case measure => simp [intOf]; omega
    · obtain rfl : k = (chords n).length := by omega
      rw [csTo_all] at hm
      have HM := hid hm
      have HB := hid hbel
      obtain ⟨pa, pc, hpe, _⟩ := hm.row.shape lenS
      subst hpe
      clear hm bx sc hbel
      go_wp2_with fail
      go_ret
      exact ⟨_, rfl, ⟨_, _, HM.out.lower (by omega) (by omega)⟩, HB.out⟩

set_option maxHeartbeats 400000 in
set_option maxRecDepth 100000 in
theorem spec_CycleBasis_any (nv pv : Value) (n : Net) (w : World) (h : NetAt w nv pv n) :
    Calls Try.prog 50 #[.agg #[nv, pv]] w (OutM w (cbR n)) := by
  obtain ⟨a0, k0, rfl⟩ := h.1.shape
  obtain ⟨a1, k1, rfl⟩ := h.2.2.shape
  have hWb := below_new w (.cells #[.slice a0 n.nodes.length k0, .slice a1 n.pipes.length k1] 27)
  have hbx := Box.new w #[.slice a0 n.nodes.length k0, .slice a1 n.pipes.length k1] 27
  have h := h.below hWb
  obtain ⟨c0, c1⟩ := hbx.two
  go_enter Try.func50, Try.ntmps50
  go_wp2_with fail
  refine (spec_IsNetwork_any _ _ n _ h).mono ?_
  cases hb : netB n
  · have hr : Hid (cbR n = ([], 1)) := by simp [Hid, cbR, hb]
    rintro e w1 ⟨rfl, b1⟩
    have HB := hid (hWb.trans (b1.mono hWb.size))
    clear b1 hWb hbx
    go_wp2_with fail
    go_ret2
    rw [hr.out]
    exact ⟨_, rfl, ⟨[], [], Mat.nil _ _ _ _⟩, HB.out⟩
  have hr : Hid (cbR n = (csM n, 0)) := by simp [Hid, cbR, hb]
  rintro e w1 ⟨rfl, b1⟩
  have HB := hid (hWb.trans (b1.mono hWb.size))
  obtain ⟨d0, d1⟩ := (hbx.below b1).two
  have h := h.below b1
  clear b1 hWb hbx c0 c1
  go_wp2_with fail
  refine (l05Basis_any _ _ n _ h hb).mono ?_
  rintro e w2 ⟨v, rfl, ⟨vs, bs, hm⟩, b2⟩
  have zb := HB.out.size
  have HB2 := hid (HB.out.trans (b2.mono HB.out.size))
  have HM := hid (hm.lower (B' := w.heap.size) (lo' := w.heap.size) (by omega) (by omega))
  obtain ⟨pa, pc, hpe, _⟩ := hm.row.shape lenS
  subst hpe
  clear hm b2 d0 d1
  go_wp2_with fail
  go_ret2
  rw [hr.out]
  exact ⟨_, rfl, ⟨_, _, HM.out⟩, HB2.out⟩

end Go.Proofs.Ytdapdaadglaoiaa
