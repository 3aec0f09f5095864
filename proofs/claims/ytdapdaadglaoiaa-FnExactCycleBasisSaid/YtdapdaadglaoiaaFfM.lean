/- forestFlows: what its loop keeps in memory; the marks of its ranges over a function. -/
import Derived.Test.YtdapdaadglaoiaaCloneI
import Derived.Test.YtdapdaadglaoiaaBack
import Derived.Test.YtdapdaadglaoiaaFfB
import Derived.Test.YtdapdaadglaoiaaNet
import Derived.RangeFuncNested
namespace Go.Proofs.Ytdapdaadglaoiaa
open Go.RowKit

theorem cell_far {w : World} {b o b' o' : Nat} {u : Value} (h : b ≠ b' ∨ o ≠ o') : (w.setCell ⟨b, o, none⟩ u).cell? ⟨b', o', none⟩ = w.cell? ⟨b', o', none⟩ :=
  World.cell?_setCell_other w ⟨b, o, none⟩ ⟨b', o', none⟩ u (fun e => h.elim (fun h => h (congrArg Addr.block e)) (fun h => h (congrArg Addr.off e)))
/-- Block b holds zs from its head on and may be written. -/
def FRow (W : World) (b : Nat) (zs : List Int) : Prop := ∀ i (h : i < zs.length), W.cell? ⟨b, i, none⟩ = some (.int .i64 zs[i]) ∧ ∀ o, W.frozen? ⟨b, o, none⟩ = false
theorem FRow.lt {W : World} {b : Nat} {zs : List Int} (h : FRow W b zs) (h0 : 0 < zs.length) : b < W.heap.size := World.block_lt_of_cell? (a := ⟨b, 0, none⟩) W (h 0 h0).1
theorem FRow.kept {X : Nat → Prop} {W W' : World} {b : Nat} {zs : List Int} (h : FRow W b zs) (hk : Kept X W W') (hx : ¬ X b) : FRow W' b zs := fun i hi =>
  ⟨hk.cell (h i hi).1 hx, fun o => by
    rw [World.frozen?_of_block (w := W) (a := ⟨b, o, none⟩) (hk.block b (h.lt (by omega)) hx)]
    exact (h i hi).2 o⟩
theorem FRow.slc {P : Nat → Prop} {W : World} {b cap : Nat} {zs : List Int} (h : FRow W b zs) (hp : 0 < zs.length → P b) (hm : zs.length ≤ 140737488351232) : Slc P W (.slice (some ⟨b, 0, none⟩) zs.length cap) zs := by
  refine ⟨hm, _, cap, rfl, ?_⟩
  rcases Nat.eq_zero_or_pos zs.length with h0 | h0
  · exact .inl (List.eq_nil_of_length_eq_zero h0)
  · exact .inr ⟨b, 0, rfl, hp h0, (h 0 h0).2, fun i hi => by rw [Nat.zero_add]; exact (h i hi).1⟩
theorem FRow.set {W : World} {b : Nat} {zs : List Int} (h : FRow W b zs) (i : Nat) (x : Int) : FRow (W.setCell ⟨b, i, none⟩ (.int .i64 x)) b (zs.set i x) := fun j hj => by
  have hj' : j < zs.length := by simpa using hj
  refine ⟨?_, fun o => by rw [World.frozen?_setCell]; exact (h j hj').2 o⟩
  by_cases e : i = j
  · subst e
    rw [cell_set_same (h i hj').1]; simp
  · rw [cell_set_ne e, (h j hj').1, List.getElem_set_ne e]

/-- The blocks of forestFlows: the boxes of flows and left, their rows. B: the world at the call. -/
structure FfAp (B bf bl bF g : Nat) : Prop where
  b1 : B < bf
  b2 : B < bl
  b3 : B < bF
  b4 : B < g
  n1 : bf ≠ bF
  n2 : bf ≠ g
  n3 : bl ≠ bF
  n4 : bl ≠ g
  n5 : bF ≠ g
/-- What the loop keeps. -/
structure FfMem (P N : Nat) (nv pv : Value) (w : World) (bf bl bF g cap : Nat) (W : World) (st : List Int × List Int) : Prop where
  x0 : W.cell? ⟨w.heap.size, 0, none⟩ = some nv
  x1 : W.cell? ⟨w.heap.size, 1, none⟩ = some pv
  fb : W.cell? ⟨bf, 0, none⟩ = some (.slice (some ⟨bF, 0, none⟩) P P)
  lb : W.cell? ⟨bl, 0, none⟩ = some (.slice (some ⟨g, 0, none⟩) N cap)
  fr : FRow W bF st.1
  lr : FRow W g st.2
  bel : Below w.heap.size w W
theorem FfMem.kept {P N : Nat} {nv pv : Value} {w : World} {bf bl bF g cap : Nat} {W W' : World} {st : List Int × List Int} (h : FfMem P N nv pv w bf bl bF g cap W st) {X : Nat → Prop} (hk : Kept X W W')
    (x0 : ¬ X w.heap.size) (x1 : ¬ X bf) (x2 : ¬ X bl) (x3 : ¬ X bF) (x4 : ¬ X g) (hX : ∀ k, X k → w.heap.size ≤ k) : FfMem P N nv pv w bf bl bF g cap W' st :=
  ⟨hk.cell h.x0 x0, hk.cell h.x1 x0, hk.cell h.fb x1, hk.cell h.lb x2, h.fr.kept hk x3, h.lr.kept hk x4, h.bel.trans (hk.below h.bel.size hX)⟩
theorem FfMem.below {P N : Nat} {nv pv : Value} {w : World} {bf bl bF g cap : Nat} {W W' : World} {st : List Int × List Int} (h : FfMem P N nv pv w bf bl bF g cap W st) (hb : Below W.heap.size W W') : FfMem P N nv pv w bf bl bF g cap W' st :=
  h.kept (X := fun _ => False) (Kept.of_below hb) (fun e => e) (fun e => e) (fun e => e) (fun e => e) (fun e => e) (fun _ e => e.elim)
theorem FfMem.setF {P N : Nat} {nv pv : Value} {w : World} {bf bl bF g cap : Nat} {W : World} {st : List Int × List Int} (h : FfMem P N nv pv w bf bl bF g cap W st) (ap : FfAp w.heap.size bf bl bF g) (i : Nat) (x : Int) :
    FfMem P N nv pv w bf bl bF g cap (W.setCell ⟨bF, i, none⟩ (.int .i64 x)) (st.1.set i x, st.2) := by
  obtain ⟨p1, p2, p3, p4, p5, p6, p7, p8, p9⟩ := ap
  have hk : Kept (fun b => b = bF) W (W.setCell ⟨bF, i, none⟩ (.int .i64 x)) := (Kept.refl (fun b => b = bF) _).setCell (p := ⟨bF, i, none⟩) rfl _
  exact ⟨hk.cell h.x0 (show ¬ w.heap.size = bF by omega), hk.cell h.x1 (show ¬ w.heap.size = bF by omega), hk.cell h.fb p5, hk.cell h.lb p7, h.fr.set i x, h.lr.kept hk (fun e => p9 e.symm), h.bel.trans (hk.below h.bel.size (fun k e => by omega))⟩
theorem FfMem.setL {P N : Nat} {nv pv : Value} {w : World} {bf bl bF g cap : Nat} {W : World} {st : List Int × List Int} (h : FfMem P N nv pv w bf bl bF g cap W st) (ap : FfAp w.heap.size bf bl bF g) (i : Nat) (x : Int) :
    FfMem P N nv pv w bf bl bF g cap (W.setCell ⟨g, i, none⟩ (.int .i64 x)) (st.1, st.2.set i x) := by
  obtain ⟨p1, p2, p3, p4, p5, p6, p7, p8, p9⟩ := ap
  have hk : Kept (fun b => b = g) W (W.setCell ⟨g, i, none⟩ (.int .i64 x)) := (Kept.refl (fun b => b = g) _).setCell (p := ⟨g, i, none⟩) rfl _
  exact ⟨hk.cell h.x0 (show ¬ w.heap.size = g by omega), hk.cell h.x1 (show ¬ w.heap.size = g by omega), hk.cell h.fb p6, hk.cell h.lb p8, h.fr.kept hk p9, h.lr.set i x, h.bel.trans (hk.below h.bel.size (fun k e => by omega))⟩
/-- The search's box and its entries. -/
structure FfS (b9 be eo : Nat) (ov dv : Value) (ec : Nat) (E : List Int) (W : World) : Prop where
  s0 : W.cell? ⟨b9, 0, none⟩ = some ov
  s2 : W.cell? ⟨b9, 2, none⟩ = some (.slice (some ⟨be, eo, none⟩) E.length ec)
  en : ∀ i (h : i < E.length), W.cell? ⟨be, eo + i, none⟩ = some (.int .i64 E[i])
theorem FfS.kept {b9 be eo : Nat} {ov dv : Value} {ec : Nat} {E : List Int} {W W' : World} (h : FfS b9 be eo ov dv ec E W) {X : Nat → Prop} (hk : Kept X W W') (x1 : ¬ X b9) (x2 : ¬ X be) : FfS b9 be eo ov dv ec E W' :=
  ⟨hk.cell h.s0 x1, hk.cell h.s2 x1, fun i hi => hk.cell (h.en i hi) x2⟩
/-- What else a round keeps: the search, the components, the marks. -/
structure FfRest (b9 be eo : Nat) (ov dv : Value) (ec : Nat) (E : List Int) (lo hi : Nat) (cv : Value) (C : List Int) (ds : List Nat) (B : Nat) (W : World) : Prop where
  s : FfS b9 be eo ov dv ec E W
  c : Slc (fun b => lo ≤ b ∧ b < hi) W cv C
  d : ∀ D ∈ ds, W.heap[D]? = some (.deferred (some []))
  z : B ≤ W.heap.size
theorem FfRest.kept {b9 be eo : Nat} {ov dv : Value} {ec : Nat} {E : List Int} {lo hi : Nat} {cv : Value} {C : List Int} {ds : List Nat} {B : Nat} {W W' : World} (h : FfRest b9 be eo ov dv ec E lo hi cv C ds B W) {X : Nat → Prop} (hk : Kept X W W')
    (x1 : ¬ X b9) (x2 : ¬ X be) (x3 : ∀ b, lo ≤ b → b < hi → ¬ X b) (x4 : ∀ D ∈ ds, ¬ X D) : FfRest b9 be eo ov dv ec E lo hi cv C ds B W' :=
  ⟨h.s.kept hk x1 x2, h.c.kept hk (fun b _ hp => x3 b hp.1 hp.2), fun D hD => by rw [hk.block D (Array.getElem?_eq_some_iff.1 (h.d D hD)).1 (x4 D hD)]; exact h.d D hD, Nat.le_trans h.z hk.size⟩
theorem Kept.of_grown {W W' : World} {row : Option Nat} (h : W.grownBy W' row) : Kept (fun b => row = some b) W W' := ⟨h.os, h.tape, h.output, h.size, fun k hk hx => h.block k hk (fun e => hx e.symm)⟩
/-- What is kept of all that is no cells and lies from B on, where nothing but cells below B and new blocks turned. -/
theorem KeepsFrom.of_kept {B : Nat} {X : Nat → Prop} {W W' : World} (h : Kept X W W') (hX : ∀ k, X k → k < B) : KeepsFrom B W W' :=
  ⟨h.size, fun k o hB hk _ => by rw [h.block k (Array.getElem?_eq_some_iff.1 hk).1 (fun hx => by have := hX k hx; omega)]; exact hk⟩

/-- One round, wrapping as the machine does. -/
def ffW (n : Net) (s : Sr) (st : List Int × List Int) (x : Int) : List Int × List Int :=
  (st.1.set (s.ent.getD x.toNat 0).toNat (if (pAt n (s.ent.getD x.toNat 0)).to = x then IntKind.i64.wrap (- st.2.getD x.toNat 0) else st.2.getD x.toNat 0),
   st.2.set (oth (pAt n (s.ent.getD x.toNat 0)) x).toNat (IntKind.i64.wrap (st.2.getD (oth (pAt n (s.ent.getD x.toNat 0)) x).toNat 0 + st.2.getD x.toNat 0)))
theorem ffW_len (n : Net) (s : Sr) (st : List Int × List Int) (x : Int) : (ffW n s st x).1.length = st.1.length ∧ (ffW n s st x).2.length = st.2.length := by simp [ffW]
theorem ffW_fold_len (n : Net) (s : Sr) (xs : List Int) (st : List Int × List Int) : (xs.foldl (ffW n s) st).1.length = st.1.length ∧ (xs.foldl (ffW n s) st).2.length = st.2.length := by
  induction xs generalizing st with
  | nil => exact ⟨rfl, rfl⟩
  | cons x xs ih =>
    obtain ⟨h1, h2⟩ := ih (ffW n s st x)
    have := ffW_len n s st x
    exact ⟨h1.trans this.1, h2.trans this.2⟩
theorem ffW_step {n : Net} {s : Sr} {st : List Int × List Int} {x i y : Nat} (h1 : s.ent.getD x 0 = i) (hi : i < n.pipes.length) (h2 : oth n.pipes[i] x = y) :
    ffW n s st x = (st.1.set i (if n.pipes[i].to = x then IntKind.i64.wrap (- st.2.getD x 0) else st.2.getD x 0), st.2.set y (IntKind.i64.wrap (st.2.getD y 0 + st.2.getD x 0))) := by
  unfold ffW
  simp only [Int.toNat_natCast, h1, pAt_nat hi, h2]
/-- In the search of an even root nothing wraps. -/
theorem ffW_all {n : Net} (hb : netB n = true) {S : List Int} (hl : S.length = n.nodes.length) (heven : ∀ r, r < n.nodes.length → isRoot n r = true → sumL S (srch n r).order = 0)
    (hS : ∀ i, -1 ≤ S.getD i 0 ∧ S.getD i 0 ≤ 1) {r : Nat} (hr : r < n.nodes.length) (hroot : isRoot n r = true) :
    (backOf (srch n r)).foldl (ffW n (srch n r)) (ffIter n S r) = ffIter n S (r + 1) := by
  have key : ∀ m, m ≤ (backOf (srch n r)).length → ((backOf (srch n r)).take m).foldl (ffW n (srch n r)) (ffIter n S r) = ffAt n S r m := by
    intro m
    induction m with
    | zero => intro _; rfl
    | succ m ih =>
      intro hm
      obtain ⟨x, i, y, a, b, e1, hx, e2, hi, e3, hy, e4, e5, l1, l2, l3, l4, e6⟩ := ff_round hb hl heven hS hr hroot (m := m) (by omega)
      rw [List.take_succ_eq_append_getElem (by omega), List.foldl_append, ih (by omega), e6]
      show ffW n (srch n r) (ffAt n S r m) (backOf (srch n r))[m] = _
      rw [e1, ffW_step e2 hi e3, e4, e5]
      have w1 : IntKind.i64.wrap (-a) = -a := IntWalk.i64_in _ (by omega)
      have w2 : IntKind.i64.wrap (b + a) = b + a := IntWalk.i64_in _ (by omega)
      rw [w1, w2]
  have h := key _ (Nat.le_refl _)
  rw [List.take_length] at h
  rw [h]
  exact ffAt_end hroot

/-- The marks of ranges over a function are taken one by one. -/
theorem leaves_marks {F : Fence} {m : Nat} {P : Program} {fn : Func} {tmps : Array Value} {R : Ending → World → Prop} : ∀ (ds : List Nat) (W : World), (∀ D ∈ ds, W.heap[D]? = some (.deferred (some []))) → ds.Nodup →
    (∀ W', Kept (fun b => b ∈ ds) W W' → LeavesInM F m P fn tmps R [] .returning W') →
    LeavesInM F m P fn tmps R (ds.map (fun D => { target := .collected D, args := #[] })) .returning W
  | [], W, _, _, h => h W (Kept.refl _ _)
  | D :: ds, W, h, hnd, hR => by
    have hD := h D (by simp)
    obtain ⟨hn1, hn2⟩ := List.nodup_cons.1 hnd
    have hlt : D < W.heap.size := (Array.getElem?_eq_some_iff.1 hD).1
    refine ⟨by simp, .inl ⟨D, _, rfl, run_takeDeferred hD, ?_⟩⟩
    refine leaves_marks ds _ (fun D' hD' => ?_) hn2 (fun W' hk => hR W' ?_)
    · rw [World.putObj_heap_other (fun e => hn1 (by rw [← e]; exact hD'))]
      exact h D' (List.mem_cons_of_mem _ hD')
    · have k1 : Kept (fun b => b ∈ D :: ds) W (W.putObj D (.deferred none)) := ⟨rfl, rfl, rfl, by simp [World.putObj], fun k _ hx => World.putObj_heap_other (fun e => hx (by rw [← e]; simp))⟩
      exact k1.trans (hk.mono (fun b _ hb => List.mem_cons_of_mem _ hb))

end Go.Proofs.Ytdapdaadglaoiaa
