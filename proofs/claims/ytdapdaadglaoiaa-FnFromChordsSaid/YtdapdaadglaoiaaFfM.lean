/- slices.Backward: the iterator's contract for a body that keeps the slice's block and its box. slices.Clone of a row of ints that is not empty. forestFlows, plain: what one round does, and that the numbers stay small. No program. A region that draws its order, in a round of a range over a function: by the laws of the plain walk. forestFlows: what its loop keeps in memory; the marks of its ranges over a function. -/
import Derived.Test.YtdapdaadglaoiaaBase
import Derived.Test.YtdapdaadglaoiaaMem
import Derived.Test.YtdapdaadglaoiaaOwn
import Derived.Test.YtdapdaadglaoiaaMark
import Derived.Test.YtdapdaadglaoiaaCycP
import Derived.Test.YtdapdaadglaoiaaNet
import Derived.RangeFuncBox
import Derived.RangeFuncLeaves
import Derived.Shelf.Abstract
import Derived.WalkKit
import Derived.OwnWalkIn
import Derived.TacticsInMore
import Derived.LoopNIn
import Derived.LoopIn
import Derived.Lib.SliceRun
import Derived.OrdersIn
import Derived.OrdersHeld
import Derived.Deep.RegionHeld3
import Derived.RangeFuncCalls
import Derived.RangeFuncNested
namespace Go.Proofs.Ytdapdaadglaoiaa
open Go.RowKit Go.Shelf

attribute [local go_sem] Oper.semAt_some

/-- Blocks b and c lie as they lay. -/
def KeepB (b c : Nat) (W W' : World) : Prop := W'.heap[b]? = W.heap[b]? ∧ W'.heap[c]? = W.heap[c]?
theorem KeepB.refl (b c : Nat) (W : World) : KeepB b c W W := ⟨rfl, rfl⟩
theorem KeepB.trans {b c : Nat} {A B C : World} (h : KeepB b c A B) (k : KeepB b c B C) : KeepB b c A C := ⟨k.1.trans h.1, k.2.trans h.2⟩
theorem cell_of_heap {W W' : World} {p : Addr} (h : W'.heap[p.block]? = W.heap[p.block]?) : W'.cell? p = W.cell? p := by
  unfold World.cell?
  rw [h]
/-- What comes up, from behind. -/
def bk (zs : List Int) (k : Nat) : Nat × Int := (zs.length - 1 - k, zs.getD (zs.length - 1 - k) 0)
theorem bk_mem {zs : List Int} {k : Nat} (h : 0 < zs.length) : (bk zs k).2 ∈ zs := by
  have : zs.length - 1 - k < zs.length := by omega
  simp only [bk, List.getD, List.getElem?_eq_getElem this, Option.getD_some]
  exact List.getElem_mem this
theorem bk_all (zs : List Int) : (List.range zs.length).map (fun k => (bk zs k).2) = zs.reverse := by
  refine List.ext_getElem (by simp) (fun i h1 h2 => ?_)
  have h3 : i < zs.length := by simpa using h1
  have : zs.length - 1 - i < zs.length := by omega
  simp [bk, List.getD, this]

set_option maxRecDepth 100000 in
set_option maxHeartbeats 2000000 in
theorem back1_in (F : Fence) (n : Nat) (h7 : F.fn 196) (hro : F.round = none) (hn : 1 ≤ n) (l Bs b off cap : Nat) (zs : List Int) (hlen : zs.length ≤ 1000000) (J Jx : List Nat → World → Prop)
    (hY : ∀ pre x W, J pre W → pre.length < zs.length → YieldAt F (n - 1) Try.prog l #[.int .i64 ((bk zs x).1 : Nat), .int .i64 (bk zs x).2] W fun e W' =>
      (e = .returned (.bool true) ∧ J (pre ++ [x]) W' ∧ KeepB b Bs W W') ∨ (e = .returned (.bool false) ∧ Jx (pre ++ [x]) W'))
    (W : World) (hBs : W.cell? ⟨Bs, 0, none⟩ = some (.slice (some ⟨b, off, none⟩) zs.length cap)) (hc : ∀ j (hj : j < zs.length), W.cell? ⟨b, off + j, none⟩ = some (.int .i64 zs[j])) (h0 : J [] W) :
    CallsIn F n Try.prog 196 #[.func (.yield l) #[] #[], .pointer (some ⟨Bs, 0, none⟩)] W fun e W' => (∃ v, e = .returned v) ∧
      ((∃ ys, ys = List.range zs.length ∧ J ys W') ∨ (∃ pre, Jx pre W')) := by
  have HC := hid hc
  clear hc
  refine callsIn_of_wp Try.func196 rfl h7 ?_ hro
  simp only [Try.ntmps196, List.size_toArray, List.length_cons, List.length_nil, Nat.reduceAdd, Nat.reduceSub, Array.replicate_succ, Array.replicate_zero, List.push_toArray, List.append_toArray, List.nil_append, List.cons_append]
  gi_wp2
  gi_loopw [3] (fun i wr => ∃ k : Nat, k ≤ zs.length ∧ i = .int .i64 ((zs.length : Int) - 1 - k) ∧ J (List.range k) wr ∧ KeepB b Bs W wr)
    (fun i _ => (intOf i + 1).toNat)
  case atStart => exact ⟨0, Nat.zero_le _, by simp, h0, KeepB.refl _ _ _⟩
  case round =>
    obtain ⟨k, hk, rfl, hJs, hnx⟩ := hrel
    have hBx : wr.cell? ⟨Bs, 0, none⟩ = some (.slice (some ⟨b, off, none⟩) zs.length cap) := (cell_of_heap (p := ⟨Bs, 0, none⟩) hnx.2).trans hBs
    by_cases hlt : k < zs.length
    · obtain ⟨j, hj⟩ : ∃ j : Nat, zs.length - 1 - k = j := ⟨_, rfl⟩
      have hjl : j < zs.length := by omega
      have hji : (zs.length : Int) - 1 - k = j := by omega
      have hjI : (j : Int) < zs.length := by omega
      have hcx : wr.cell? ⟨b, off + j, none⟩ = some (.int .i64 zs[j]) := (cell_of_heap (p := ⟨b, off + j, none⟩) hnx.1).trans (HC.out j hjl)
      have hbk : Hid (bk zs k = (j, zs[j])) := by rw [Hid, bk, hj]; simp [List.getD, hjl]
      obtain ⟨fn, tmps, assign, body, hy, hR⟩ := hY _ k wr hJs (by rw [List.length_range]; exact hlt)
      rw [hbk.out] at hy
      dsimp only at hy
      rw [hji]
      have HK := hid hnx
      have HJ := hid hji
      have HJJ := hid hj
      clear hnx hji hj
      gi_wp2
      refine hR.mono ?_
      rintro e W3 (⟨rfl, hJ3, hk3⟩ | ⟨rfl, hJx3⟩)
      · gi_wp2
        go_roundw
        case rel => exact ⟨k + 1, by omega, by have := HJ.out; congr 1; omega, by rw [List.range_succ]; exact hJ3, HK.out.trans hk3⟩
        case measure => simp [intOf]
      · gi_wp2
        refine bodyPost_ret (results_none rfl _ _ _) rfl ?_
        exact ⟨⟨_, rfl⟩, .inr ⟨_, hJx3⟩⟩
    · obtain rfl : k = zs.length := by omega
      gi_wp2
      go_end0
      exact ⟨⟨_, rfl⟩, .inl ⟨_, rfl, hJs⟩⟩

set_option maxHeartbeats 1000000 in
/-- slices.Backward(s): the slice value is boxed; the function value captures the box. -/
theorem back_in (F : Fence) (n : Nat) (h5 : F.fn 188) (hro : F.round = none) (a : Option Addr) (len cap : Nat) (w : World) :
    CallsIn F n Try.prog 188 #[.slice a len cap] w fun e w' => e = .returned (.func (.func 196) #[] #[.pointer (some ⟨w.heap.size, 0, none⟩)]) ∧ w' = w.alloc (.cells #[.slice a len cap] 33) := by
  refine callsIn_of_wp Try.func188 rfl h5 ?_ hro
  simp only [Try.ntmps188, List.size_toArray, List.length_cons, List.length_nil, Nat.reduceAdd, Nat.reduceSub, Array.replicate_succ, Array.replicate_zero, List.push_toArray, List.append_toArray, List.nil_append, List.cons_append]
  gi_wp2
  go_ret
  exact ⟨rfl, rfl⟩

/-- What slices.Backward hands back, as an iterator that the caller's law takes. -/
theorem back_stops (F : Fence) (n : Nat) (h7 : F.fn 196) (hro : F.round = none) (hn : 1 ≤ n) (Bs b off cap : Nat) (zs : List Int) (hlen : zs.length ≤ 1000000) (w : World) (hBs : Bs < w.heap.size) (hb : b < w.heap.size)
    (hc : w.cell? ⟨Bs, 0, none⟩ = some (.slice (some ⟨b, off, none⟩) zs.length cap)) (hI : ∀ j (hj : j < zs.length), w.cell? ⟨b, off + j, none⟩ = some (.int .i64 zs[j])) :
    SeqStopsK F n Try.prog 196 #[.pointer (some ⟨Bs, 0, none⟩)] (fun x : Nat => #[Value.int .i64 ((bk zs x).1 : Nat), Value.int .i64 (bk zs x).2]) (KeepB b Bs) (fun ys => ys = List.range zs.length) (fun _ => True) zs.length w := fun l J Jx W hW _ _ hY h0 => by
  refine (back1_in F n h7 hro hn l Bs b off cap zs hlen J Jx hY W ((hW.cell (p := ⟨Bs, 0, none⟩) hBs).trans hc) (fun j hj => (hW.cell (p := ⟨b, off + j, none⟩) hb).trans (hI j hj)) h0).mono ?_
  rintro e W' ⟨he, ⟨ys, rfl, hj⟩ | ⟨pre, hj⟩⟩
  · exact ⟨he, .inl ⟨_, rfl, hj⟩⟩
  · exact ⟨he, .inr ⟨_, trivial, hj⟩⟩
theorem keepB_b {b c : Nat} {w : World} (hb : b < w.heap.size) (hc : c < w.heap.size) (W : World) (l : Nat) (o o' : Obj) (hl : w.heap.size ≤ l) (_ : W.heap[l]? = some o) (_ : o.isCells = false) (_ : o.isWalk = false) : KeepB b c W (W.putObj l o') :=
  ⟨World.putObj_heap_other (by omega), World.putObj_heap_other (by omega)⟩

end Go.Proofs.Ytdapdaadglaoiaa

namespace Go.Proofs.Ytdapdaadglaoiaa
open Go.RowKit

set_option maxHeartbeats 400000 in
set_option maxRecDepth 100000 in
theorem cloneI_any (P : Nat → Prop) (v : Value) (zs : List Int) (w : World) (h : Slc P w v zs) (hl : zs.length ≤ 1000000) (h0 : 0 < zs.length) :
    Calls Try.prog 187 #[v] w fun e w' => ∃ r, e = .returned r ∧ OwnI 2 w.heap.size w' r zs ∧ Below w.heap.size w w' := by
  obtain ⟨_, a, cap, rfl, h⟩ := h
  obtain ⟨b, off, rfl, hP, hf, hc⟩ := h.resolve_left (by intro e; simp [e] at h0)
  have hnil := fun W => Lib.run_eql_slice_nil (P := Try.prog) W 33 2 (some ⟨b, off, none⟩) zs.length cap 0 0 Try.underlying33
  simp only [Option.isNone_some] at hnil
  have HC := hid hc
  have hbl : b < w.heap.size := by
    have := hc 0 h0
    rcases Nat.lt_or_ge b w.heap.size with h1 | h1
    · exact h1
    · simp [World.cell?, Array.getElem?_eq_none h1] at this
  clear hc h
  obtain ⟨i0, hi, hz0, hz1, hz2⟩ := info_parts info64
  go_enter Try.func187, Try.ntmps187
  go_wp2_with (at_builtin; refine wpList_append2 rfl (.tmp 5) (.tmp 6) 33 rfl w.heap.size 2 i0 (.int .i64 0) 1 8 Try.underlying33 hi hz0 hz1 hz2 rfl (by decide) (.slice (some ⟨w.heap.size, 0, none⟩) 0 0) 0 [] rfl (OwnI.made _ _ _ (Nat.le_refl _)) ⟨b, off, none⟩ zs.length cap (zs.map (Value.int .i64)) rfl (by simp) ?c1 ?c2 h0 (by omega) (by omega) ?c3 ?_)
  case c1 =>
    intro j u hj
    obtain ⟨hj1, hj2⟩ := List.getElem?_eq_some_iff.1 hj
    rw [List.length_map] at hj1
    rw [List.getElem_map] at hj2
    rw [← hj2]
    have e : (Addr.add ⟨b, off, none⟩ j : Addr) = ⟨b, off + j, none⟩ := by simp [Addr.add]
    rw [e]
    exact ((below_new w _).cell (p := ⟨b, off + j, none⟩) hbl).trans (HC.out j hj1)
  case c2 =>
    intro u hu
    obtain ⟨z, _, rfl⟩ := List.mem_map.1 hu
    rfl
  case c3 => simp
  intro v1 w1 hv1 hk1 hb1
  have hk1 := grown_kept hk1
  have hkk : Below w.heap.size w w1 := (below_new w (.cells #[] 2)).trans (hk1.below (by simp) (fun b hb => by simp [Value.ownBlock] at hb; omega))
  have HV : Hid (OwnI 2 w.heap.size w1 v1 zs) := by
    rw [Hid, OwnI]
    simpa using hv1
  clear hv1 hk1 hb1
  go_wp2_with fail
  go_ret
  exact ⟨_, rfl, HV.out, hkk⟩

end Go.Proofs.Ytdapdaadglaoiaa

namespace Go.Proofs.Ytdapdaadglaoiaa
open Go.RowKit

def ffAt (n : Net) (S : List Int) (r m : Nat) : List Int × List Int := ((backOf (srch n r)).take m).foldl (ffStep n (srch n r)) (ffIter n S r)
theorem ffAt_zero (n : Net) (S : List Int) (r : Nat) : ffAt n S r 0 = ffIter n S r := rfl
theorem ffAt_end {n : Net} {S : List Int} {r : Nat} (h : isRoot n r = true) : ffAt n S r (backOf (srch n r)).length = ffIter n S (r + 1) := by
  unfold ffAt
  rw [List.take_length, ffIter, if_pos h]; rfl
theorem ffAt_succ {n : Net} {S : List Int} {r m : Nat} (h : m < (backOf (srch n r)).length) : ffAt n S r (m + 1) = ffStep n (srch n r) (ffAt n S r m) (backOf (srch n r))[m] := by
  unfold ffAt
  rw [List.take_succ_eq_append_getElem h, List.foldl_append]; rfl
theorem ffIter_no {n : Net} {S : List Int} {r : Nat} (h : ¬ isRoot n r = true) : ffIter n S (r + 1) = ffIter n S r := by rw [ffIter, if_neg h]
/-- The node of a round, its entry, its parent. -/
theorem ff_node {n : Net} (hb : netB n = true) {r : Nat} (hr : r < n.nodes.length) {m : Nat} (hm : m < (backOf (srch n r)).length) :
    ∃ x i y : Nat, (backOf (srch n r))[m] = x ∧ (x : Int) ∈ (srch n r).order ∧ x < n.nodes.length ∧ (srch n r).ent.getD x 0 = i ∧ ∃ hi : i < n.pipes.length, oth n.pipes[i] x = y ∧ (y : Int) ∈ (srch n r).order ∧ y < n.nodes.length ∧ y ≠ x := by
  have g := good_srch hb (v := (r : Int)) (by omega) (by omega)
  have hbl := back_len (srch n r)
  obtain ⟨h2, e2⟩ := back_get (srch n r) m hm
  have hj0 : 0 < (srch n r).order.length - 1 - m := by omega
  obtain ⟨i, e1, hi, a1, q, hq, hqj, hoq, hd⟩ := g.tree _ h2 hj0
  have hxm := List.getElem_mem h2
  have hxr := g.rng _ hxm
  have hqm := List.getElem_mem hq
  have hqr := g.rng _ hqm
  obtain ⟨x, hx⟩ : ∃ x : Nat, (srch n r).order[(srch n r).order.length - 1 - m] = x := ⟨_, (Int.toNat_of_nonneg hxr.1).symm⟩
  obtain ⟨y, hy⟩ : ∃ y : Nat, (srch n r).order[q] = y := ⟨_, (Int.toNat_of_nonneg hqr.1).symm⟩
  have hne := (oth_rng hb hi a1).2.2.2.2
  rw [hx] at hxm hxr e1 hoq hne
  rw [hy] at hqm hqr hoq
  rw [Int.toNat_natCast] at e1
  exact ⟨x, i, y, by rw [e2, hx], hxm, by omega, e1, hi, hoq, hqm, by omega, fun e => hne (by rw [hoq, e])⟩
theorem ff_step {n : Net} {s : Sr} {st : List Int × List Int} {x i y : Nat} (h1 : s.ent.getD x 0 = i) (hi : i < n.pipes.length) (h2 : oth n.pipes[i] x = y) :
    ffStep n s st x = (st.1.set i (if n.pipes[i].to = x then - st.2.getD x 0 else st.2.getD x 0), st.2.set y (st.2.getD y 0 + st.2.getD x 0)) := by
  unfold ffStep
  simp only [Int.toNat_natCast, h1, pAt_nat hi, h2]
theorem ff_len {n : Net} (S : List Int) (hl : S.length = n.nodes.length) (k : Nat) : (ffIter n S k).1.length = n.pipes.length ∧ (ffIter n S k).2.length = n.nodes.length := by
  have hf : ∀ (s : Sr) (xs : List Int) (st : List Int × List Int), (xs.foldl (ffStep n s) st).1.length = st.1.length ∧ (xs.foldl (ffStep n s) st).2.length = st.2.length := by
    intro s xs
    induction xs with
    | nil => intro st; exact ⟨rfl, rfl⟩
    | cons x xs ih =>
      intro st
      obtain ⟨h1, h2⟩ := ih (ffStep n s st x)
      exact ⟨h1.trans (by simp [ffStep]), h2.trans (by simp [ffStep])⟩
  induction k with
  | zero => exact ⟨by simp [ffIter], hl⟩
  | succ k ih =>
    rw [ffIter]
    split
    · obtain ⟨h1, h2⟩ := hf (srch n k) (backOf (srch n k)) (ffIter n S k)
      exact ⟨h1.trans ih.1, h2.trans ih.2⟩
    · exact ih
theorem ffAt_len {n : Net} (S : List Int) (hl : S.length = n.nodes.length) (r m : Nat) : (ffAt n S r m).1.length = n.pipes.length ∧ (ffAt n S r m).2.length = n.nodes.length := by
  obtain ⟨h1, h2⟩ := ff_len (n := n) S hl r
  unfold ffAt
  induction m with
  | zero => exact ⟨h1, h2⟩
  | succ m ih =>
    by_cases h : m < (backOf (srch n r)).length
    · rw [List.take_succ_eq_append_getElem h, List.foldl_append]
      exact ⟨by simp [ffStep]; exact ih.1, by simp [ffStep]; exact ih.2⟩
    · rw [List.take_of_length_le (by omega)] at ih ⊢
      exact ih
theorem ff_bnd {n : Net} (hb : netB n = true) {S : List Int} (hl : S.length = n.nodes.length) (heven : ∀ r, r < n.nodes.length → isRoot n r = true → sumL S (srch n r).order = 0)
    (hS : ∀ i, -1 ≤ S.getD i 0 ∧ S.getD i 0 ≤ 1) {r : Nat} (hr : r < n.nodes.length) (hroot : isRoot n r = true) (m : Nat) (hm : m ≤ (backOf (srch n r)).length) :
    ∀ z : Nat, (z : Int) ∈ (srch n r).order → -(2 ^ m : Int) ≤ (ffAt n S r m).2.getD z 0 ∧ (ffAt n S r m).2.getD z 0 ≤ (2 ^ m : Int) := by
  have g := good_srch hb (v := (r : Int)) (by omega) (by omega)
  induction m with
  | zero =>
    intro z hz
    have hzr := g.rng _ hz
    have hzn : z < n.nodes.length := by omega
    have hrz : rootN n z = r := root_unique hb hr hzn hroot ((srch_iff hb (by omega) (by omega) z).1 hz)
    rw [ffAt_zero, ((fj_iter hb hl heven r (by omega)).hi z hzn (by omega)).2.1]
    have := hS z
    simpa using this
  | succ m ih =>
    intro z hz
    have ih := ih (by omega)
    obtain ⟨x, i, y, e1, hxm, hxn, e2, hi, e3, hym, hyn, hne⟩ := ff_node hb hr (m := m) (by omega)
    rw [ffAt_succ (by omega), e1, ff_step e2 hi e3]
    have hx := ih x hxm
    have hy := ih y hym
    have hz' := ih z hz
    have hp : (2 ^ (m + 1) : Int) = 2 ^ m + 2 ^ m := by rw [Int.pow_succ]; omega
    have hpos : (0 : Int) ≤ 2 ^ m := Int.pow_nonneg (by omega)
    have hll := (ffAt_len S hl r m).2
    simp only
    by_cases e : y = z
    · subst e
      rw [getD_set_same' (by rw [hll]; omega), hp]
      omega
    · rw [getD_set_ne' e, hp]
      omega
/-- All that a round of forestFlows wants to know. -/
theorem ff_round {n : Net} (hb : netB n = true) {S : List Int} (hl : S.length = n.nodes.length) (heven : ∀ r, r < n.nodes.length → isRoot n r = true → sumL S (srch n r).order = 0)
    (hS : ∀ i, -1 ≤ S.getD i 0 ∧ S.getD i 0 ≤ 1) {r : Nat} (hr : r < n.nodes.length) (hroot : isRoot n r = true) {m : Nat} (hm : m < (backOf (srch n r)).length) :
    ∃ x i y : Nat, ∃ a b : Int, (backOf (srch n r))[m] = x ∧ x < n.nodes.length ∧ (srch n r).ent.getD x 0 = i ∧ ∃ hi : i < n.pipes.length, oth n.pipes[i] x = y ∧ y < n.nodes.length ∧
      (ffAt n S r m).2.getD x 0 = a ∧ (ffAt n S r m).2.getD y 0 = b ∧ -16777216 ≤ a ∧ a ≤ 16777216 ∧ -16777216 ≤ b ∧ b ≤ 16777216 ∧
      ffAt n S r (m + 1) = ((ffAt n S r m).1.set i (if n.pipes[i].to = x then -a else a), (ffAt n S r m).2.set y (b + a)) := by
  obtain ⟨x, i, y, e1, hxm, hxn, e2, hi, e3, hym, hyn, hne⟩ := ff_node hb hr hm
  have hbd := ff_bnd hb hl heven hS hr hroot m (by omega)
  have g := good_srch hb (v := (r : Int)) (by omega) (by omega)
  have hle := g.le_nodes
  have hbl := back_len (srch n r)
  have hnb := netB_t hb
  have hp : (2 ^ m : Int) ≤ 16777216 := by
    have h := Nat.pow_le_pow_right (n := 2) (by omega) (by omega : m ≤ 24)
    have h2 : ((2 ^ m : Nat) : Int) ≤ ((2 ^ 24 : Nat) : Int) := Int.ofNat_le.2 h
    simpa using h2
  have hx := hbd x hxm
  have hy := hbd y hym
  refine ⟨x, i, y, _, _, e1, hxn, e2, hi, e3, hyn, rfl, rfl, by omega, by omega, by omega, by omega, ?_⟩
  rw [ffAt_succ hm, e1, ff_step e2 hi e3]
end Go.Proofs.Ytdapdaadglaoiaa

namespace Go.Proofs.Ytdapdaadglaoiaa
open Go.RowKit

theorem rowsIn_of {n : Nat} {P : Program} {row : String} {args : Array Value} {w : World} {R : Value → World → Prop} (h : Rows P row args w R) : RowsIn Fence.wide n P row args w R :=
  fun c cs _ => let ⟨v, w', r, s⟩ := h c cs; ⟨v, w', r, stepsIn_wide.2 s⟩
theorem uponIn_of {l n : Nat} {P : Program} {o : Oper} {a : Act} {next : Act → World → Prop} {Q : Exit → Act → World → Prop} {r : Result Next} (h : o.upon P a next Q r) : o.uponIn (Fence.wide.inRound l) n P a next Q r := by
  cases r with
  | ok x w' =>
    cases x <;> simp only [Oper.upon, Oper.uponIn] at h ⊢ <;> first
      | exact h
      | exact ⟨fun hd => (by cases hd), CallsIn.inRound l (callsIn_wide.2 h)⟩
      | exact ⟨fun hd => (by cases hd), rowsIn_of h⟩
      | exact h.elim
  | halt x w' => cases x <;> simp only [Oper.upon, Oper.uponIn] at h ⊢ <;> exact h
theorem wpOpIn_of {l n : Nat} {P : Program} {ops : Array Oper} {Q : Exit → Act → World → Prop} (hnd : ∀ (i : Nat) (o : Oper) c, ops[i]? = some o → o.op ≠ .defer c) (hL : ¬ LetsOut Q) {i : Nat} {K K' : Act → World → Prop} {a : Act} {w : World}
    (hK : ∀ a w, K a w → K' a w) (h : wpOp P ops Q i K a w) : wpOpIn (Fence.wide.inRound l) n P ops Q i K' a w := by
  unfold wpOp at h
  unfold wpOpIn
  cases ho : ops[i]? with
  | none => rw [ho] at h; exact hK _ _ h
  | some o =>
    rw [ho] at h
    simp only at h ⊢
    split at h
    · rename_i hw
      rw [if_pos hw]
      have h1 := h.resolve_right (fun e => hL e.2)
      refine ⟨fun _ _ => trivial, ?_⟩
      rw [Oper.semAt_eq _ _ _ (fun c => hnd i o c ho)]
      exact uponIn_of (Oper.wp_mono hK h1)
    · rename_i hw
      rw [if_neg hw]
      exact ⟨fun _ _ => trivial, hK _ _ h⟩
theorem wpAnyIn_of {l n : Nat} {P : Program} {md : Region.Mode} {ops : Array Oper} {Q : Exit → Act → World → Prop} (hnd : ∀ (i : Nat) (o : Oper) c, ops[i]? = some o → o.op ≠ .defer c) (hL : ¬ LetsOut Q) :
    ∀ (fuel : Nat) (listed : Array Bool) (a : Act) (w : World), wpAny P md ops Q fuel listed a w → wpAnyIn (Fence.wide.inRound l) n P md ops Q fuel listed a w
  | 0, _, _, _, h => h
  | fuel + 1, _, _, _, h => ⟨h.1, fun i hi => wpOpIn_of hnd hL (fun a w h' => wpAnyIn_of hnd hL fuel _ a w h') (h.2 i hi)⟩
/-- A region that draws, in a round. -/
theorem wpIn_region_held_drew {l n : Nat} {P : Program} {id : Nat} {ops : Array Oper} {Q : Exit → Act → World → Prop} {S : World → Prop} {a : Act} {w : World} (hm : P.follows .mixedOrders = true)
    (hnd : ∀ (i : Nat) (o : Oper) c, ops[i]? = some o → o.op ≠ .defer c) (hL : ¬ LetsOut Q) (hS : S w.drew)
    (h : S w.drew → wpAnyH P .any ops Q S ops.size (Array.replicate ops.size false) a w.drew) : (Code.region id ops true).wpIn (Fence.wide.inRound l) n P Q a w :=
  wpIn_region_any hm (wpAnyIn_of hnd hL _ _ _ _ (wpAny_of_held _ _ _ _ (h hS)))
/-- No operation of the list is a defer. -/
def noDefer (l : List Oper) : Bool := l.all (fun o => match o.op with | .defer _ => false | _ => true)
theorem noDefer_at {l : List Oper} (h : noDefer l = true) (i : Nat) (o : Oper) (c : Call) (ho : l.toArray[i]? = some o) : o.op ≠ .defer c := by
  have hm : o ∈ l := List.mem_of_getElem? (by simpa using ho)
  have := List.all_eq_true.1 h o hm
  intro e
  rw [e] at this
  cases this
end Go.Proofs.Ytdapdaadglaoiaa

namespace Go.Proofs.Ytdapdaadglaoiaa
open Go.RowKit

theorem cell_far {w : World} {b o b' o' : Nat} {u : Value} (h : b ≠ b' ∨ o ≠ o') : (w.setCell ⟨b, o, none⟩ u).cell? ⟨b', o', none⟩ = w.cell? ⟨b', o', none⟩ :=
  World.cell?_setCell_other w ⟨b, o, none⟩ ⟨b', o', none⟩ u (fun e => h.elim (fun h => h (congrArg Addr.block e)) (fun h => h (congrArg Addr.off e)))
/-- Block b holds zs from its head on and may be written. -/
def FRow (W : World) (b : Nat) (zs : List Int) : Prop := ∀ i (h : i < zs.length), W.cell? ⟨b, i, none⟩ = some (.int .i64 zs[i]) ∧ ∀ o, W.frozen? ⟨b, o, none⟩ = false
theorem FRow.lt {W : World} {b : Nat} {zs : List Int} (h : FRow W b zs) (h0 : 0 < zs.length) : b < W.heap.size := World.block_lt_of_cell? (a := ⟨b, 0, none⟩) W (h 0 h0).1
theorem FRow.kept {X : Nat → Prop} {W W' : World} {b : Nat} {zs : List Int} (h : FRow W b zs) (hk : Kept X W W') (hx : ¬ X b) : FRow W' b zs := fun i hi =>
  ⟨hk.cell (h i hi).1 hx, fun o => by
    rw [World.frozen?_of_block (w := W) (a := ⟨b, o, none⟩) (hk.block b (h.lt (by omega)) hx)]
    exact (h i hi).2 o⟩
theorem FRow.slc {P : Nat → Prop} {W : World} {b cap : Nat} {zs : List Int} (h : FRow W b zs) (hp : 0 < zs.length → P b) (hm : zs.length ≤ 140737488351232) : Slc P W (.slice (some ⟨b, 0, none⟩) zs.length cap) zs := by
  refine ⟨hm, _, cap, rfl, ?_⟩
  rcases Nat.eq_zero_or_pos zs.length with h0 | h0
  · exact .inl (List.eq_nil_of_length_eq_zero h0)
  · exact .inr ⟨b, 0, rfl, hp h0, (h 0 h0).2, fun i hi => by rw [Nat.zero_add]; exact (h i hi).1⟩
theorem FRow.set {W : World} {b : Nat} {zs : List Int} (h : FRow W b zs) (i : Nat) (x : Int) : FRow (W.setCell ⟨b, i, none⟩ (.int .i64 x)) b (zs.set i x) := fun j hj => by
  have hj' : j < zs.length := by simpa using hj
  refine ⟨?_, fun o => by rw [World.frozen?_setCell]; exact (h j hj').2 o⟩
  by_cases e : i = j
  · subst e
    rw [cell_set_same (h i hj').1]; simp
  · rw [cell_set_ne e, (h j hj').1, List.getElem_set_ne e]

/-- The blocks of forestFlows: the boxes of flows and left, their rows. B: the world at the call. -/
structure FfAp (B bf bl bF g : Nat) : Prop where
  b1 : B < bf
  b2 : B < bl
  b3 : B < bF
  b4 : B < g
  n1 : bf ≠ bF
  n2 : bf ≠ g
  n3 : bl ≠ bF
  n4 : bl ≠ g
  n5 : bF ≠ g
/-- What the loop keeps. -/
structure FfMem (P N : Nat) (nv pv : Value) (w : World) (bf bl bF g cap : Nat) (W : World) (st : List Int × List Int) : Prop where
  x0 : W.cell? ⟨w.heap.size, 0, none⟩ = some nv
  x1 : W.cell? ⟨w.heap.size, 1, none⟩ = some pv
  fb : W.cell? ⟨bf, 0, none⟩ = some (.slice (some ⟨bF, 0, none⟩) P P)
  lb : W.cell? ⟨bl, 0, none⟩ = some (.slice (some ⟨g, 0, none⟩) N cap)
  fr : FRow W bF st.1
  lr : FRow W g st.2
  bel : Below w.heap.size w W
theorem FfMem.kept {P N : Nat} {nv pv : Value} {w : World} {bf bl bF g cap : Nat} {W W' : World} {st : List Int × List Int} (h : FfMem P N nv pv w bf bl bF g cap W st) {X : Nat → Prop} (hk : Kept X W W')
    (x0 : ¬ X w.heap.size) (x1 : ¬ X bf) (x2 : ¬ X bl) (x3 : ¬ X bF) (x4 : ¬ X g) (hX : ∀ k, X k → w.heap.size ≤ k) : FfMem P N nv pv w bf bl bF g cap W' st :=
  ⟨hk.cell h.x0 x0, hk.cell h.x1 x0, hk.cell h.fb x1, hk.cell h.lb x2, h.fr.kept hk x3, h.lr.kept hk x4, h.bel.trans (hk.below h.bel.size hX)⟩
theorem FfMem.below {P N : Nat} {nv pv : Value} {w : World} {bf bl bF g cap : Nat} {W W' : World} {st : List Int × List Int} (h : FfMem P N nv pv w bf bl bF g cap W st) (hb : Below W.heap.size W W') : FfMem P N nv pv w bf bl bF g cap W' st :=
  h.kept (X := fun _ => False) (Kept.of_below hb) (fun e => e) (fun e => e) (fun e => e) (fun e => e) (fun e => e) (fun _ e => e.elim)
theorem FfMem.setF {P N : Nat} {nv pv : Value} {w : World} {bf bl bF g cap : Nat} {W : World} {st : List Int × List Int} (h : FfMem P N nv pv w bf bl bF g cap W st) (ap : FfAp w.heap.size bf bl bF g) (i : Nat) (x : Int) :
    FfMem P N nv pv w bf bl bF g cap (W.setCell ⟨bF, i, none⟩ (.int .i64 x)) (st.1.set i x, st.2) := by
  obtain ⟨p1, p2, p3, p4, p5, p6, p7, p8, p9⟩ := ap
  have hk : Kept (fun b => b = bF) W (W.setCell ⟨bF, i, none⟩ (.int .i64 x)) := (Kept.refl (fun b => b = bF) _).setCell (p := ⟨bF, i, none⟩) rfl _
  exact ⟨hk.cell h.x0 (show ¬ w.heap.size = bF by omega), hk.cell h.x1 (show ¬ w.heap.size = bF by omega), hk.cell h.fb p5, hk.cell h.lb p7, h.fr.set i x, h.lr.kept hk (fun e => p9 e.symm), h.bel.trans (hk.below h.bel.size (fun k e => by omega))⟩
theorem FfMem.setL {P N : Nat} {nv pv : Value} {w : World} {bf bl bF g cap : Nat} {W : World} {st : List Int × List Int} (h : FfMem P N nv pv w bf bl bF g cap W st) (ap : FfAp w.heap.size bf bl bF g) (i : Nat) (x : Int) :
    FfMem P N nv pv w bf bl bF g cap (W.setCell ⟨g, i, none⟩ (.int .i64 x)) (st.1, st.2.set i x) := by
  obtain ⟨p1, p2, p3, p4, p5, p6, p7, p8, p9⟩ := ap
  have hk : Kept (fun b => b = g) W (W.setCell ⟨g, i, none⟩ (.int .i64 x)) := (Kept.refl (fun b => b = g) _).setCell (p := ⟨g, i, none⟩) rfl _
  exact ⟨hk.cell h.x0 (show ¬ w.heap.size = g by omega), hk.cell h.x1 (show ¬ w.heap.size = g by omega), hk.cell h.fb p6, hk.cell h.lb p8, h.fr.kept hk p9, h.lr.set i x, h.bel.trans (hk.below h.bel.size (fun k e => by omega))⟩
/-- The search's box and its entries. -/
structure FfS (b9 be eo : Nat) (ov dv : Value) (ec : Nat) (E : List Int) (W : World) : Prop where
  s0 : W.cell? ⟨b9, 0, none⟩ = some ov
  s2 : W.cell? ⟨b9, 2, none⟩ = some (.slice (some ⟨be, eo, none⟩) E.length ec)
  en : ∀ i (h : i < E.length), W.cell? ⟨be, eo + i, none⟩ = some (.int .i64 E[i])
theorem FfS.kept {b9 be eo : Nat} {ov dv : Value} {ec : Nat} {E : List Int} {W W' : World} (h : FfS b9 be eo ov dv ec E W) {X : Nat → Prop} (hk : Kept X W W') (x1 : ¬ X b9) (x2 : ¬ X be) : FfS b9 be eo ov dv ec E W' :=
  ⟨hk.cell h.s0 x1, hk.cell h.s2 x1, fun i hi => hk.cell (h.en i hi) x2⟩
/-- What else a round keeps: the search, the components, the marks. -/
structure FfRest (b9 be eo : Nat) (ov dv : Value) (ec : Nat) (E : List Int) (lo hi : Nat) (cv : Value) (C : List Int) (ds : List Nat) (B : Nat) (W : World) : Prop where
  s : FfS b9 be eo ov dv ec E W
  c : Slc (fun b => lo ≤ b ∧ b < hi) W cv C
  d : ∀ D ∈ ds, W.heap[D]? = some (.deferred (some []))
  z : B ≤ W.heap.size
theorem FfRest.kept {b9 be eo : Nat} {ov dv : Value} {ec : Nat} {E : List Int} {lo hi : Nat} {cv : Value} {C : List Int} {ds : List Nat} {B : Nat} {W W' : World} (h : FfRest b9 be eo ov dv ec E lo hi cv C ds B W) {X : Nat → Prop} (hk : Kept X W W')
    (x1 : ¬ X b9) (x2 : ¬ X be) (x3 : ∀ b, lo ≤ b → b < hi → ¬ X b) (x4 : ∀ D ∈ ds, ¬ X D) : FfRest b9 be eo ov dv ec E lo hi cv C ds B W' :=
  ⟨h.s.kept hk x1 x2, h.c.kept hk (fun b _ hp => x3 b hp.1 hp.2), fun D hD => by rw [hk.block D (Array.getElem?_eq_some_iff.1 (h.d D hD)).1 (x4 D hD)]; exact h.d D hD, Nat.le_trans h.z hk.size⟩
theorem Kept.of_grown {W W' : World} {row : Option Nat} (h : W.grownBy W' row) : Kept (fun b => row = some b) W W' := ⟨h.os, h.tape, h.output, h.size, fun k hk hx => h.block k hk (fun e => hx e.symm)⟩
/-- What is kept of all that is no cells and lies from B on, where nothing but cells below B and new blocks turned. -/
theorem KeepsFrom.of_kept {B : Nat} {X : Nat → Prop} {W W' : World} (h : Kept X W W') (hX : ∀ k, X k → k < B) : KeepsFrom B W W' :=
  ⟨h.size, fun k o hB hk _ => by rw [h.block k (Array.getElem?_eq_some_iff.1 hk).1 (fun hx => by have := hX k hx; omega)]; exact hk⟩

/-- One round, wrapping as the machine does. -/
def ffW (n : Net) (s : Sr) (st : List Int × List Int) (x : Int) : List Int × List Int :=
  (st.1.set (s.ent.getD x.toNat 0).toNat (if (pAt n (s.ent.getD x.toNat 0)).to = x then IntKind.i64.wrap (- st.2.getD x.toNat 0) else st.2.getD x.toNat 0),
   st.2.set (oth (pAt n (s.ent.getD x.toNat 0)) x).toNat (IntKind.i64.wrap (st.2.getD (oth (pAt n (s.ent.getD x.toNat 0)) x).toNat 0 + st.2.getD x.toNat 0)))
theorem ffW_len (n : Net) (s : Sr) (st : List Int × List Int) (x : Int) : (ffW n s st x).1.length = st.1.length ∧ (ffW n s st x).2.length = st.2.length := by simp [ffW]
theorem ffW_fold_len (n : Net) (s : Sr) (xs : List Int) (st : List Int × List Int) : (xs.foldl (ffW n s) st).1.length = st.1.length ∧ (xs.foldl (ffW n s) st).2.length = st.2.length := by
  induction xs generalizing st with
  | nil => exact ⟨rfl, rfl⟩
  | cons x xs ih =>
    obtain ⟨h1, h2⟩ := ih (ffW n s st x)
    have := ffW_len n s st x
    exact ⟨h1.trans this.1, h2.trans this.2⟩
theorem ffW_step {n : Net} {s : Sr} {st : List Int × List Int} {x i y : Nat} (h1 : s.ent.getD x 0 = i) (hi : i < n.pipes.length) (h2 : oth n.pipes[i] x = y) :
    ffW n s st x = (st.1.set i (if n.pipes[i].to = x then IntKind.i64.wrap (- st.2.getD x 0) else st.2.getD x 0), st.2.set y (IntKind.i64.wrap (st.2.getD y 0 + st.2.getD x 0))) := by
  unfold ffW
  simp only [Int.toNat_natCast, h1, pAt_nat hi, h2]
/-- In the search of an even root nothing wraps. -/
theorem ffW_all {n : Net} (hb : netB n = true) {S : List Int} (hl : S.length = n.nodes.length) (heven : ∀ r, r < n.nodes.length → isRoot n r = true → sumL S (srch n r).order = 0)
    (hS : ∀ i, -1 ≤ S.getD i 0 ∧ S.getD i 0 ≤ 1) {r : Nat} (hr : r < n.nodes.length) (hroot : isRoot n r = true) :
    (backOf (srch n r)).foldl (ffW n (srch n r)) (ffIter n S r) = ffIter n S (r + 1) := by
  have key : ∀ m, m ≤ (backOf (srch n r)).length → ((backOf (srch n r)).take m).foldl (ffW n (srch n r)) (ffIter n S r) = ffAt n S r m := by
    intro m
    induction m with
    | zero => intro _; rfl
    | succ m ih =>
      intro hm
      obtain ⟨x, i, y, a, b, e1, hx, e2, hi, e3, hy, e4, e5, l1, l2, l3, l4, e6⟩ := ff_round hb hl heven hS hr hroot (m := m) (by omega)
      rw [List.take_succ_eq_append_getElem (by omega), List.foldl_append, ih (by omega), e6]
      show ffW n (srch n r) (ffAt n S r m) (backOf (srch n r))[m] = _
      rw [e1, ffW_step e2 hi e3, e4, e5]
      have w1 : IntKind.i64.wrap (-a) = -a := IntWalk.i64_in _ (by omega)
      have w2 : IntKind.i64.wrap (b + a) = b + a := IntWalk.i64_in _ (by omega)
      rw [w1, w2]
  have h := key _ (Nat.le_refl _)
  rw [List.take_length] at h
  rw [h]
  exact ffAt_end hroot

/-- The marks of ranges over a function are taken one by one. -/
theorem leaves_marks {F : Fence} {m : Nat} {P : Program} {fn : Func} {tmps : Array Value} {R : Ending → World → Prop} : ∀ (ds : List Nat) (W : World), (∀ D ∈ ds, W.heap[D]? = some (.deferred (some []))) → ds.Nodup →
    (∀ W', Kept (fun b => b ∈ ds) W W' → LeavesInM F m P fn tmps R [] .returning W') →
    LeavesInM F m P fn tmps R (ds.map (fun D => { target := .collected D, args := #[] })) .returning W
  | [], W, _, _, h => h W (Kept.refl _ _)
  | D :: ds, W, h, hnd, hR => by
    have hD := h D (by simp)
    obtain ⟨hn1, hn2⟩ := List.nodup_cons.1 hnd
    have hlt : D < W.heap.size := (Array.getElem?_eq_some_iff.1 hD).1
    refine ⟨by simp, .inl ⟨D, _, rfl, run_takeDeferred hD, ?_⟩⟩
    refine leaves_marks ds _ (fun D' hD' => ?_) hn2 (fun W' hk => hR W' ?_)
    · rw [World.putObj_heap_other (fun e => hn1 (by rw [← e]; exact hD'))]
      exact h D' (List.mem_cons_of_mem _ hD')
    · have k1 : Kept (fun b => b ∈ D :: ds) W (W.putObj D (.deferred none)) := ⟨rfl, rfl, rfl, by simp [World.putObj], fun k _ hx => World.putObj_heap_other (fun e => hx (by rw [← e]; simp))⟩
      exact k1.trans (hk.mono (fun b _ hb => List.mem_cons_of_mem _ hb))

end Go.Proofs.Ytdapdaadglaoiaa
