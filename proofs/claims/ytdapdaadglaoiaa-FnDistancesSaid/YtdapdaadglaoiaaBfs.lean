/- Distances of neighbours differ by at most 1, plain. No program. -/
import Derived.Test.YtdapdaadglaoiaaForest
namespace Go.Proofs.Ytdapdaadglaoiaa
open Go.RowKit

/-- The distance that s tells of x. -/
def dOf (s : Sr) (x : Int) : Int := s.dist.getD x.toNat 0
structure Lvl (u : Int) (s : Sr) : Prop where
  mono : ∀ i j (hi : i < s.order.length) (hj : j < s.order.length), i ≤ j → dOf s s.order[i] ≤ dOf s s.order[j]
  cap : ∀ x ∈ s.order, dOf s x ≤ dOf s u + 1
theorem relax_dist {n : Net} (hb : netB n = true) {v u : Int} {s : Sr} (g : Good n v s) {k : Nat} (hk : k < n.pipes.length) (ha : atF u n.pipes[k] = true) {x : Int} (hx : x ∈ s.order) : dOf (relax n u s k) x = dOf s x := by
  unfold relax
  rw [pAt_nat hk]
  obtain ⟨r1, r2, r3, r4, r5⟩ := oth_rng hb hk ha
  split
  next hn =>
    have hxr := g.rng x hx
    have : oth n.pipes[k] u ≠ x := fun e => by
      have := (g.mem x hxr.1 hxr.2).2 hx
      rw [e] at hn; omega
    unfold dOf
    simp only
    rw [getD_set_ne' (by omega)]
  next => rfl
theorem relax_lvl {n : Net} (hb : netB n = true) {v u : Int} {s : Sr} (g : Good n v s) (hu : u ∈ s.order) {k : Nat} (hk : k < n.pipes.length) (ha : atF u n.pipes[k] = true) (l : Lvl u s) :
    Lvl u (relax n u s k) ∧ dOf (relax n u s k) (oth n.pipes[k] u) ≤ dOf (relax n u s k) u + 1 := by
  have hd : ∀ {x : Int}, x ∈ s.order → dOf (relax n u s k) x = dOf s x := fun h => relax_dist hb g hk ha h
  obtain ⟨r1, r2, r3, r4, r5⟩ := oth_rng hb hk ha
  rw [hd hu]
  by_cases hn : s.dist.getD (oth n.pipes[k] u).toNat 0 < 0
  · have ho : (relax n u s k).order = s.order ++ [oth n.pipes[k] u] := by unfold relax; rw [pAt_nat hk, if_pos hn]
    have hdo : dOf (relax n u s k) (oth n.pipes[k] u) = dOf s u + 1 := by
      unfold relax dOf
      rw [pAt_nat hk, if_pos hn]
      exact getD_set_same' (by rw [g.ld]; omega)
    have hget : ∀ j (hj : j < (relax n u s k).order.length), j < s.order.length → ∃ hj' : j < s.order.length, (relax n u s k).order[j] = s.order[j] := fun j hj h => ⟨h, by simp only [ho]; exact List.getElem_append_left h⟩
    refine ⟨⟨?_, ?_⟩, by omega⟩
    · intro i j hi hj hij
      have hlen : (relax n u s k).order.length = s.order.length + 1 := by rw [ho]; simp
      by_cases hj2 : j < s.order.length
      · obtain ⟨h1, e1⟩ := hget j hj hj2
        obtain ⟨h2, e2⟩ := hget i hi (by omega)
        rw [e1, e2, hd (List.getElem_mem _), hd (List.getElem_mem _)]
        exact l.mono i j h2 h1 hij
      · obtain rfl : j = s.order.length := by omega
        have e1 : (relax n u s k).order[s.order.length] = oth n.pipes[k] u := by simp only [ho]; simp
        rw [e1, hdo]
        by_cases hi2 : i < s.order.length
        · obtain ⟨h2, e2⟩ := hget i hi hi2
          rw [e2, hd (List.getElem_mem _)]
          exact l.cap _ (List.getElem_mem _)
        · obtain rfl : i = s.order.length := by omega
          rw [e1, hdo]
          omega
    · intro x hx
      rw [hd hu]
      rw [ho] at hx
      rcases List.mem_append.1 hx with h | h
      · rw [hd h]; exact l.cap x h
      · obtain rfl : x = oth n.pipes[k] u := by simpa using h
        rw [hdo]; omega
  · have hs : relax n u s k = s := by unfold relax; rw [pAt_nat hk, if_neg hn]
    rw [hs]
    exact ⟨l, l.cap _ ((g.mem _ r1 r2).1 (by omega))⟩
theorem fold_lvl {n : Net} (hb : netB n = true) {v u : Int} (L : List Int) {s : Sr} (g : Good n v s) (hu : u ∈ s.order) (hL : ∀ i ∈ L, i ∈ pipesOf n u) (l : Lvl u s) :
    Lvl u (L.foldl (relax n u) s) ∧ (∀ x ∈ s.order, dOf (L.foldl (relax n u) s) x = dOf s x) ∧ ∀ i ∈ L, dOf (L.foldl (relax n u) s) (oth (pAt n i) u) ≤ dOf s u + 1 := by
  induction L generalizing s with
  | nil => exact ⟨l, fun _ _ => rfl, fun i hi => by cases hi⟩
  | cons a L ih =>
    obtain ⟨k, rfl, hk, ha⟩ := pipesOf_mem (hL a (by simp))
    obtain ⟨l1, h1⟩ := relax_lvl hb g hu hk ha l
    have g1 := good_relax hb g hu hk ha
    have hu1 := (relax_pre n u s k).subset hu
    obtain ⟨l2, h2, h3⟩ := ih g1 hu1 (fun i hi => hL i (by simp [hi])) l1
    have hdu := relax_dist hb g hk ha hu
    refine ⟨l2, fun x hx => ?_, fun i hi => ?_⟩
    · show dOf (L.foldl (relax n u) (relax n u s k)) x = _
      rw [h2 x ((relax_pre n u s k).subset hx), relax_dist hb g hk ha hx]
    · show dOf (L.foldl (relax n u) (relax n u s k)) _ ≤ _
      rcases List.mem_cons.1 hi with rfl | hi
      · rw [pAt_nat hk, h2 _ (relax_mem hb g hk ha)]
        omega
      · have := h3 i hi
        omega
structure BInv (n : Net) (k : Nat) (s : Sr) : Prop where
  mono : ∀ i j (hi : i < s.order.length) (hj : j < s.order.length), i ≤ j → dOf s s.order[i] ≤ dOf s s.order[j]
  cap : ∀ hk : k < s.order.length, ∀ x ∈ s.order, dOf s x ≤ dOf s s.order[k] + 1
  done : ∀ j (hj : j < s.order.length), j < k → ∀ i ∈ pipesOf n s.order[j], dOf s (oth (pAt n i) s.order[j]) ≤ dOf s s.order[j] + 1
theorem binv_iter {n : Net} (hb : netB n = true) {v : Int} (h0 : 0 ≤ v) (h1 : v < n.nodes.length) (k : Nat) : BInv n k (sIter n v k) := by
  induction k with
  | zero =>
    have hlen : (sIter n v 0).order.length = 1 := by simp [sIter, sInit]
    refine ⟨fun i j hi hj _ => ?_, fun hk x hx => ?_, fun j _ h => by omega⟩
    · obtain rfl : i = 0 := by omega
      obtain rfl : j = 0 := by omega
      exact Int.le_refl _
    · obtain ⟨i, hi, rfl⟩ := List.getElem_of_mem hx
      obtain rfl : i = 0 := by omega
      omega
  | succ k ih =>
    have g := good_iter hb h0 h1 k
    have sc := iter_scanned hb h0 h1 k
    by_cases hk : k < (sIter n v k).order.length
    · have e : sIter n v (k + 1) = scan n ((sIter n v k).order.getD k 0) (sIter n v k) := by rw [sIter, if_pos hk]
      have hg : (sIter n v k).order.getD k 0 = (sIter n v k).order[k] := by simp [List.getD, hk]
      rw [hg] at e
      have hp := fold_pre n (sIter n v k).order[k] (pipesOf n (sIter n v k).order[k]) (sIter n v k)
      obtain ⟨l2, h2, h3⟩ := fold_lvl hb (pipesOf n (sIter n v k).order[k]) g (List.getElem_mem hk) (fun _ h => h) ⟨ih.mono, ih.cap hk⟩
      rw [e]
      unfold scan
      have hget := fun j (h : j < (sIter n v k).order.length) => pre_get hp h
      refine ⟨l2.mono, fun hk1 x hx => ?_, fun j hj hjk i hi => ?_⟩
      · have c1 := l2.cap x hx
        obtain ⟨hj, e2⟩ := hget k hk
        have c2 := l2.mono k (k + 1) hj hk1 (by omega)
        rw [e2] at c2
        omega
      · obtain ⟨h4, e4⟩ := hget j (by omega)
        simp only [e4] at hi ⊢
        rw [h2 _ (List.getElem_mem _)]
        rcases (by omega : j < k ∨ j = k) with h | rfl
        · have h5 := sc j (by omega) h i hi
          rw [h2 _ h5]
          exact ih.done j (by omega) h i hi
        · exact h3 i hi
    · have e : sIter n v (k + 1) = sIter n v k := by rw [sIter, if_neg hk]
      simp only [e]
      exact ⟨ih.mono, fun h => by omega, fun j hj _ i hi => ih.done j hj (by omega) i hi⟩
/-- Neighbours: both are visited or neither, and the distances differ by at most 1. -/
theorem srch_step {n : Net} (hb : netB n = true) {v : Int} (h0 : 0 ≤ v) (h1 : v < n.nodes.length) {k : Nat} (hk : k < n.pipes.length) :
    (dOf (srch n v) n.pipes[k].fr < 0 ↔ dOf (srch n v) n.pipes[k].to < 0) ∧ -1 ≤ dOf (srch n v) n.pipes[k].fr ∧ -1 ≤ dOf (srch n v) n.pipes[k].to ∧ dOf (srch n v) n.pipes[k].fr - dOf (srch n v) n.pipes[k].to ≤ 1 ∧ dOf (srch n v) n.pipes[k].to - dOf (srch n v) n.pipes[k].fr ≤ 1 := by
  have g := good_srch hb h0 h1
  have bi := binv_iter hb h0 h1 n.nodes.length
  obtain ⟨f0, f1, t0, t1, hne⟩ := netB_pipe hb (List.getElem_mem hk)
  have hle := g.le_nodes
  have key : ∀ {u x : Int}, u ∈ (srch n v).order → ∀ ha : atF u n.pipes[k] = true, oth n.pipes[k] u = x → x ∈ (srch n v).order ∧ dOf (srch n v) x ≤ dOf (srch n v) u + 1 := by
    intro u x hu ha hx
    refine ⟨srch_closed hb h0 h1 hu ⟨k, hk, ha, hx⟩, ?_⟩
    obtain ⟨j, hj, rfl⟩ := List.getElem_of_mem hu
    have := bi.done j hj (Nat.lt_of_lt_of_le hj hle) k (pipesOf_mk hk ha)
    rw [pAt_nat hk] at this
    have hx' : oth n.pipes[k] (sIter n v n.nodes.length).order[j] = x := hx
    rw [hx'] at this
    exact this
  have af : atF n.pipes[k].fr n.pipes[k] = true := atF_iff.2 (Or.inl rfl)
  have at' : atF n.pipes[k].to n.pipes[k] = true := atF_iff.2 (Or.inr rfl)
  have of : oth n.pipes[k] n.pipes[k].fr = n.pipes[k].to := by simp [oth]
  have ot : oth n.pipes[k] n.pipes[k].to = n.pipes[k].fr := by unfold oth; rw [if_neg hne]
  have mf := g.mem _ f0 f1
  have mt := g.mem _ t0 t1
  have uf := g.un n.pipes[k].fr.toNat (by omega)
  have ut := g.un n.pipes[k].to.toNat (by omega)
  by_cases h : n.pipes[k].fr ∈ (srch n v).order
  · obtain ⟨h2, h3⟩ := key h af of
    obtain ⟨_, h4⟩ := key h2 at' ot
    have := mf.2 h
    have := mt.2 h2
    unfold dOf at *
    omega
  · have h2 : n.pipes[k].to ∉ (srch n v).order := fun h2 => h (key h2 at' ot).1
    have h3 : ¬ 0 ≤ (srch n v).dist.getD n.pipes[k].fr.toNat 0 := fun h3 => h (mf.1 h3)
    have h4 : ¬ 0 ≤ (srch n v).dist.getD n.pipes[k].to.toNat 0 := fun h3 => h2 (mt.1 h3)
    have := uf (by omega)
    have := ut (by omega)
    unfold dOf at *
    omega

end Go.Proofs.Ytdapdaadglaoiaa
