/- forestFlows, plain: what one round does, and that the numbers stay small. No program. -/
import Derived.Test.YtdapdaadglaoiaaFFlow
namespace Go.Proofs.Ytdapdaadglaoiaa
open Go.RowKit

def ffAt (n : Net) (S : List Int) (r m : Nat) : List Int × List Int := ((backOf (srch n r)).take m).foldl (ffStep n (srch n r)) (ffIter n S r)
theorem ffAt_zero (n : Net) (S : List Int) (r : Nat) : ffAt n S r 0 = ffIter n S r := rfl
theorem ffAt_end {n : Net} {S : List Int} {r : Nat} (h : isRoot n r = true) : ffAt n S r (backOf (srch n r)).length = ffIter n S (r + 1) := by
  unfold ffAt
  rw [List.take_length, ffIter, if_pos h]; rfl
theorem ffAt_succ {n : Net} {S : List Int} {r m : Nat} (h : m < (backOf (srch n r)).length) : ffAt n S r (m + 1) = ffStep n (srch n r) (ffAt n S r m) (backOf (srch n r))[m] := by
  unfold ffAt
  rw [List.take_succ_eq_append_getElem h, List.foldl_append]; rfl
theorem ffIter_no {n : Net} {S : List Int} {r : Nat} (h : ¬ isRoot n r = true) : ffIter n S (r + 1) = ffIter n S r := by rw [ffIter, if_neg h]
/-- The node of a round, its entry, its parent. -/
theorem ff_node {n : Net} (hb : netB n = true) {r : Nat} (hr : r < n.nodes.length) {m : Nat} (hm : m < (backOf (srch n r)).length) :
    ∃ x i y : Nat, (backOf (srch n r))[m] = x ∧ (x : Int) ∈ (srch n r).order ∧ x < n.nodes.length ∧ (srch n r).ent.getD x 0 = i ∧ ∃ hi : i < n.pipes.length, oth n.pipes[i] x = y ∧ (y : Int) ∈ (srch n r).order ∧ y < n.nodes.length ∧ y ≠ x := by
  have g := good_srch hb (v := (r : Int)) (by omega) (by omega)
  have hbl := back_len (srch n r)
  obtain ⟨h2, e2⟩ := back_get (srch n r) m hm
  have hj0 : 0 < (srch n r).order.length - 1 - m := by omega
  obtain ⟨i, e1, hi, a1, q, hq, hqj, hoq, hd⟩ := g.tree _ h2 hj0
  have hxm := List.getElem_mem h2
  have hxr := g.rng _ hxm
  have hqm := List.getElem_mem hq
  have hqr := g.rng _ hqm
  obtain ⟨x, hx⟩ : ∃ x : Nat, (srch n r).order[(srch n r).order.length - 1 - m] = x := ⟨_, (Int.toNat_of_nonneg hxr.1).symm⟩
  obtain ⟨y, hy⟩ : ∃ y : Nat, (srch n r).order[q] = y := ⟨_, (Int.toNat_of_nonneg hqr.1).symm⟩
  have hne := (oth_rng hb hi a1).2.2.2.2
  rw [hx] at hxm hxr e1 hoq hne
  rw [hy] at hqm hqr hoq
  rw [Int.toNat_natCast] at e1
  exact ⟨x, i, y, by rw [e2, hx], hxm, by omega, e1, hi, hoq, hqm, by omega, fun e => hne (by rw [hoq, e])⟩
theorem ff_step {n : Net} {s : Sr} {st : List Int × List Int} {x i y : Nat} (h1 : s.ent.getD x 0 = i) (hi : i < n.pipes.length) (h2 : oth n.pipes[i] x = y) :
    ffStep n s st x = (st.1.set i (if n.pipes[i].to = x then - st.2.getD x 0 else st.2.getD x 0), st.2.set y (st.2.getD y 0 + st.2.getD x 0)) := by
  unfold ffStep
  simp only [Int.toNat_natCast, h1, pAt_nat hi, h2]
theorem ff_len {n : Net} (S : List Int) (hl : S.length = n.nodes.length) (k : Nat) : (ffIter n S k).1.length = n.pipes.length ∧ (ffIter n S k).2.length = n.nodes.length := by
  have hf : ∀ (s : Sr) (xs : List Int) (st : List Int × List Int), (xs.foldl (ffStep n s) st).1.length = st.1.length ∧ (xs.foldl (ffStep n s) st).2.length = st.2.length := by
    intro s xs
    induction xs with
    | nil => intro st; exact ⟨rfl, rfl⟩
    | cons x xs ih =>
      intro st
      obtain ⟨h1, h2⟩ := ih (ffStep n s st x)
      exact ⟨h1.trans (by simp [ffStep]), h2.trans (by simp [ffStep])⟩
  induction k with
  | zero => exact ⟨by simp [ffIter], hl⟩
  | succ k ih =>
    rw [ffIter]
    split
    · obtain ⟨h1, h2⟩ := hf (srch n k) (backOf (srch n k)) (ffIter n S k)
      exact ⟨h1.trans ih.1, h2.trans ih.2⟩
    · exact ih
theorem ffAt_len {n : Net} (S : List Int) (hl : S.length = n.nodes.length) (r m : Nat) : (ffAt n S r m).1.length = n.pipes.length ∧ (ffAt n S r m).2.length = n.nodes.length := by
  obtain ⟨h1, h2⟩ := ff_len (n := n) S hl r
  unfold ffAt
  induction m with
  | zero => exact ⟨h1, h2⟩
  | succ m ih =>
    by_cases h : m < (backOf (srch n r)).length
    · rw [List.take_succ_eq_append_getElem h, List.foldl_append]
      exact ⟨by simp [ffStep]; exact ih.1, by simp [ffStep]; exact ih.2⟩
    · rw [List.take_of_length_le (by omega)] at ih ⊢
      exact ih
theorem ff_bnd {n : Net} (hb : netB n = true) {S : List Int} (hl : S.length = n.nodes.length) (heven : ∀ r, r < n.nodes.length → isRoot n r = true → sumL S (srch n r).order = 0)
    (hS : ∀ i, -1 ≤ S.getD i 0 ∧ S.getD i 0 ≤ 1) {r : Nat} (hr : r < n.nodes.length) (hroot : isRoot n r = true) (m : Nat) (hm : m ≤ (backOf (srch n r)).length) :
    ∀ z : Nat, (z : Int) ∈ (srch n r).order → -(2 ^ m : Int) ≤ (ffAt n S r m).2.getD z 0 ∧ (ffAt n S r m).2.getD z 0 ≤ (2 ^ m : Int) := by
  have g := good_srch hb (v := (r : Int)) (by omega) (by omega)
  induction m with
  | zero =>
    intro z hz
    have hzr := g.rng _ hz
    have hzn : z < n.nodes.length := by omega
    have hrz : rootN n z = r := root_unique hb hr hzn hroot ((srch_iff hb (by omega) (by omega) z).1 hz)
    rw [ffAt_zero, ((fj_iter hb hl heven r (by omega)).hi z hzn (by omega)).2.1]
    have := hS z
    simpa using this
  | succ m ih =>
    intro z hz
    have ih := ih (by omega)
    obtain ⟨x, i, y, e1, hxm, hxn, e2, hi, e3, hym, hyn, hne⟩ := ff_node hb hr (m := m) (by omega)
    rw [ffAt_succ (by omega), e1, ff_step e2 hi e3]
    have hx := ih x hxm
    have hy := ih y hym
    have hz' := ih z hz
    have hp : (2 ^ (m + 1) : Int) = 2 ^ m + 2 ^ m := by rw [Int.pow_succ]; omega
    have hpos : (0 : Int) ≤ 2 ^ m := Int.pow_nonneg (by omega)
    have hll := (ffAt_len S hl r m).2
    simp only
    by_cases e : y = z
    · subst e
      rw [getD_set_same' (by rw [hll]; omega), hp]
      omega
    · rw [getD_set_ne' e, hp]
      omega
/-- All that a round of forestFlows wants to know. -/
theorem ff_round {n : Net} (hb : netB n = true) {S : List Int} (hl : S.length = n.nodes.length) (heven : ∀ r, r < n.nodes.length → isRoot n r = true → sumL S (srch n r).order = 0)
    (hS : ∀ i, -1 ≤ S.getD i 0 ∧ S.getD i 0 ≤ 1) {r : Nat} (hr : r < n.nodes.length) (hroot : isRoot n r = true) {m : Nat} (hm : m < (backOf (srch n r)).length) :
    ∃ x i y : Nat, ∃ a b : Int, (backOf (srch n r))[m] = x ∧ x < n.nodes.length ∧ (srch n r).ent.getD x 0 = i ∧ ∃ hi : i < n.pipes.length, oth n.pipes[i] x = y ∧ y < n.nodes.length ∧
      (ffAt n S r m).2.getD x 0 = a ∧ (ffAt n S r m).2.getD y 0 = b ∧ -16777216 ≤ a ∧ a ≤ 16777216 ∧ -16777216 ≤ b ∧ b ≤ 16777216 ∧
      ffAt n S r (m + 1) = ((ffAt n S r m).1.set i (if n.pipes[i].to = x then -a else a), (ffAt n S r m).2.set y (b + a)) := by
  obtain ⟨x, i, y, e1, hxm, hxn, e2, hi, e3, hym, hyn, hne⟩ := ff_node hb hr hm
  have hbd := ff_bnd hb hl heven hS hr hroot m (by omega)
  have g := good_srch hb (v := (r : Int)) (by omega) (by omega)
  have hle := g.le_nodes
  have hbl := back_len (srch n r)
  have hnb := netB_t hb
  have hp : (2 ^ m : Int) ≤ 16777216 := by
    have h := Nat.pow_le_pow_right (n := 2) (by omega) (by omega : m ≤ 24)
    have h2 : ((2 ^ m : Nat) : Int) ≤ ((2 ^ 24 : Nat) : Int) := Int.ofNat_le.2 h
    simpa using h2
  have hx := hbd x hxm
  have hy := hbd y hym
  refine ⟨x, i, y, _, _, e1, hxn, e2, hi, e3, hyn, rfl, rfl, by omega, by omega, by omega, by omega, ?_⟩
  rw [ffAt_succ hm, e1, ff_step e2 hi e3]
end Go.Proofs.Ytdapdaadglaoiaa
