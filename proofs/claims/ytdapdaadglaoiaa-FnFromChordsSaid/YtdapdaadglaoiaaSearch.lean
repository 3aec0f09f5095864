/- The breadth-first search, plain: what searchFrom and l04Search compute. No program. -/
import Derived.Test.YtdapdaadglaoiaaPipes
namespace Go.Proofs.Ytdapdaadglaoiaa
open Go.RowKit

structure Sr where
  order : List Int
  dist : List Int
  ent : List Int

def relax (n : Net) (v : Int) (s : Sr) (i : Int) : Sr :=
  if s.dist.getD (oth (pAt n i) v).toNat 0 < 0 then ⟨s.order ++ [oth (pAt n i) v], s.dist.set (oth (pAt n i) v).toNat (s.dist.getD v.toNat 0 + 1), s.ent.set (oth (pAt n i) v).toNat i⟩ else s
def pipesOf (n : Net) (v : Int) : List Int := selP (atF v) n.pipes n.pipes.length
def scan (n : Net) (v : Int) (s : Sr) : Sr := (pipesOf n v).foldl (relax n v) s
def sInit (n : Net) (v : Int) : Sr := ⟨[v], (List.replicate n.nodes.length (-1)).set v.toNat 0, List.replicate n.nodes.length (-1)⟩
def sIter (n : Net) (v : Int) : Nat → Sr
  | 0 => sInit n v
  | k + 1 => if k < (sIter n v k).order.length then scan n ((sIter n v k).order.getD k 0) (sIter n v k) else sIter n v k
def srch (n : Net) (v : Int) : Sr := sIter n v n.nodes.length

/-- A pipe of the list at v. -/
theorem pipesOf_mem {n : Net} {v i : Int} (h : i ∈ pipesOf n v) : ∃ k : Nat, i = k ∧ ∃ hk : k < n.pipes.length, atF v n.pipes[k] = true := by
  unfold pipesOf selP at h
  obtain ⟨k, hk, rfl⟩ := List.mem_map.1 h
  obtain ⟨h1, h2⟩ := List.mem_filter.1 hk
  have h1 := List.mem_range.1 h1
  refine ⟨k, rfl, h1, ?_⟩
  simpa [List.getD, h1] using h2
theorem pipesOf_mk {n : Net} {v : Int} {k : Nat} (hk : k < n.pipes.length) (h : atF v n.pipes[k] = true) : (k : Int) ∈ pipesOf n v := by
  unfold pipesOf selP
  exact List.mem_map.2 ⟨k, List.mem_filter.2 ⟨List.mem_range.2 hk, by simpa [List.getD, hk] using h⟩, rfl⟩
theorem atF_iff {v : Int} {p : Pp} : atF v p = true ↔ p.fr = v ∨ p.to = v := by simp [atF]
theorem oth_ends {v : Int} {p : Pp} (h : atF v p = true) : (p.fr = v ∧ p.to = oth p v) ∨ (p.to = v ∧ p.fr = oth p v) := by
  unfold oth
  rcases atF_iff.1 h with h | h
  · left; rw [if_pos h]; exact ⟨h, rfl⟩
  · by_cases h1 : p.fr = v
    · left; rw [if_pos h1]; exact ⟨h1, rfl⟩
    · right; rw [if_neg h1]; exact ⟨h, rfl⟩
theorem oth_sum {v : Int} {p : Pp} (h : atF v p = true) : p.fr + p.to - v = oth p v := by rcases oth_ends h with ⟨h1, h2⟩ | ⟨h1, h2⟩ <;> omega
theorem oth_at {v : Int} {p : Pp} (h : atF v p = true) : atF (oth p v) p = true := by
  rcases oth_ends h with ⟨_, h2⟩ | ⟨_, h2⟩
  · exact atF_iff.2 (Or.inr h2)
  · exact atF_iff.2 (Or.inl h2)
theorem oth_oth {v : Int} {p : Pp} (h : atF v p = true) : oth p (oth p v) = v := by
  have h1 := oth_sum h
  have h2 := oth_sum (oth_at h)
  omega
theorem oth_rng {n : Net} (hb : netB n = true) {v : Int} {k : Nat} (hk : k < n.pipes.length) (h : atF v n.pipes[k] = true) : 0 ≤ oth n.pipes[k] v ∧ oth n.pipes[k] v < n.nodes.length ∧ 0 ≤ v ∧ v < n.nodes.length ∧ oth n.pipes[k] v ≠ v := by
  have := netB_pipe hb (List.getElem_mem hk)
  rcases oth_ends h with ⟨h1, h2⟩ | ⟨h1, h2⟩ <;> omega

structure Good (n : Net) (v : Int) (s : Sr) : Prop where
  ld : s.dist.length = n.nodes.length
  le : s.ent.length = n.nodes.length
  nd : s.order.Nodup
  rng : ∀ x ∈ s.order, 0 ≤ x ∧ x < n.nodes.length
  mem : ∀ x : Int, 0 ≤ x → x < n.nodes.length → (0 ≤ s.dist.getD x.toNat 0 ↔ x ∈ s.order)
  hi : ∀ j, s.dist.getD j 0 < s.order.length
  cnt : s.order.length + s.dist.countP (fun d => decide (d < 0)) = n.nodes.length
  hd : s.order.head? = some v
  d0 : s.dist.getD v.toNat 0 = 0
  un : ∀ j, j < n.nodes.length → s.dist.getD j 0 < 0 → s.dist.getD j 0 = -1 ∧ s.ent.getD j 0 = -1
  ev : s.ent.getD v.toNat 0 = -1
  tree : ∀ k (hk : k < s.order.length), 0 < k → ∃ i : Nat, s.ent.getD (s.order[k]).toNat 0 = i ∧ ∃ hi : i < n.pipes.length, atF s.order[k] n.pipes[i] = true ∧
    ∃ j, ∃ hj : j < s.order.length, j < k ∧ oth n.pipes[i] s.order[k] = s.order[j] ∧ s.dist.getD (s.order[k]).toNat 0 = s.dist.getD (s.order[j]).toNat 0 + 1

theorem getD_set_ne' {l : List Int} {i j : Nat} {a d : Int} (h : i ≠ j) : (l.set i a).getD j d = l.getD j d := by simp [List.getD, List.getElem?_set_ne h]
theorem getD_set_same' {l : List Int} {i : Nat} {a d : Int} (h : i < l.length) : (l.set i a).getD i d = a := by simp [List.getD, h]

theorem Good.le_nodes {n : Net} {v : Int} {s : Sr} (g : Good n v s) : s.order.length ≤ n.nodes.length := by have := g.cnt; omega
theorem Good.pos {n : Net} {v : Int} {s : Sr} (g : Good n v s) : 0 < s.order.length := by
  have := g.hd
  cases h : s.order with
  | nil => rw [h] at this; cases this
  | cons => simp
theorem Good.head {n : Net} {v : Int} {s : Sr} (g : Good n v s) : s.order[0]'g.pos = v := by
  have := g.hd
  rw [List.head?_eq_getElem?, List.getElem?_eq_getElem g.pos] at this
  simpa using this
theorem Good.vmem {n : Net} {v : Int} {s : Sr} (g : Good n v s) : v ∈ s.order := by rw [← g.head]; exact List.getElem_mem _

theorem good_init {n : Net} {v : Int} (h0 : 0 ≤ v) (h1 : v < n.nodes.length) : Good n v (sInit n v) := by
  have hv : v.toNat < n.nodes.length := by omega
  have hd : ∀ j, j ≠ v.toNat → (sInit n v).dist.getD j 0 = if j < n.nodes.length then -1 else 0 := by
    intro j hj
    unfold sInit
    simp only
    rw [getD_set_ne' (fun e => hj e.symm)]
    by_cases h : j < n.nodes.length <;> simp [List.getD, h]
  have hs : (sInit n v).dist.getD v.toNat 0 = 0 := by unfold sInit; simp only; rw [getD_set_same' (by simpa using hv)]
  refine ⟨by simp [sInit], by simp [sInit], by simp [sInit], ?_, ?_, ?_, ?_, rfl, hs, ?_, ?_, ?_⟩
  · intro x hx
    obtain rfl : x = v := by simpa [sInit] using hx
    exact ⟨h0, h1⟩
  · intro x hx0 hx1
    by_cases e : x = v
    · subst e; rw [hs]; simp [sInit]
    · rw [hd _ (by omega), if_pos (by omega)]
      simp [sInit, e]
  · intro j
    by_cases e : j = v.toNat
    · subst e; rw [hs]; simp [sInit]
    · rw [hd j e]; simp only [sInit]; split <;> simp
  · simp only [sInit]
    rw [List.countP_set (by simpa using hv), List.countP_replicate]
    simp
    omega
  · intro j hj hn
    by_cases e : j = v.toNat
    · subst e; rw [hs] at hn; omega
    · rw [hd j e, if_pos hj]; refine ⟨rfl, ?_⟩
      simp [sInit, List.getD, hj]
  · simp [sInit, List.getD, hv]
  · intro k hk h0
    simp [sInit] at hk; omega

theorem good_relax {n : Net} (hb : netB n = true) {v u : Int} {s : Sr} (g : Good n v s) (hu : u ∈ s.order) {k : Nat} (hk : k < n.pipes.length) (ha : atF u n.pipes[k] = true) : Good n v (relax n u s k) := by
  unfold relax
  rw [pAt_nat hk]
  obtain ⟨r1, r2, r3, r4, r5⟩ := oth_rng hb hk ha
  have hoth := oth_oth ha
  have hat := oth_at ha
  obtain ⟨o, eo⟩ : ∃ o, o = oth n.pipes[k] u := ⟨_, rfl⟩
  rw [← eo] at r1 r2 r5 hoth hat ⊢
  clear eo
  split
  next hn =>
    have ho : o ∉ s.order := fun h => by have := (g.mem o r1 r2).2 h; omega
    have hol : o.toNat < s.dist.length := by rw [g.ld]; omega
    have hol' : o.toNat < s.ent.length := by rw [g.le]; omega
    have hgd : s.dist.getD o.toNat 0 = s.dist[o.toNat] := by simp [List.getD, hol]
    have hu0 : 0 ≤ s.dist.getD u.toNat 0 := (g.mem u r3 r4).2 hu
    have huh := g.hi u.toNat
    have hvo : v ≠ o := fun e => ho (e ▸ g.vmem)
    have hv0 := g.rng v g.vmem
    have hne : ∀ x : Int, 0 ≤ x → x ≠ o → o.toNat ≠ x.toNat := fun x hx hxo => by omega
    obtain ⟨ju, hju, eju⟩ := List.getElem_of_mem hu
    refine ⟨by simp [g.ld], by simp [g.le], ?_, ?_, ?_, ?_, ?_, ?_, ?_, ?_, ?_, ?_⟩
    · simp only [List.nodup_append, g.nd, true_and]
      refine ⟨by simp, ?_⟩
      intro a ha b hb' e
      obtain rfl : b = o := by simpa using hb'
      subst e
      exact ho ha
    · intro x hx
      rcases List.mem_append.1 hx with h | h
      · exact g.rng x h
      · obtain rfl : x = o := by simpa using h
        exact ⟨r1, r2⟩
    · intro x hx0 hx1
      simp only [List.mem_append, List.mem_singleton]
      by_cases e : x = o
      · subst e; rw [getD_set_same' hol]; exact ⟨fun _ => Or.inr rfl, fun _ => by omega⟩
      · rw [getD_set_ne' (hne x hx0 e), g.mem x hx0 hx1]; simp [e]
    · intro j
      simp only [List.length_append, List.length_singleton]
      by_cases e : o.toNat = j
      · subst e; rw [getD_set_same' hol]; omega
      · rw [getD_set_ne' e]; have := g.hi j; omega
    · simp only [List.length_append, List.length_singleton]
      rw [List.countP_set hol]
      have hc := g.cnt
      have hp : 0 < s.dist.countP (fun d => decide (d < 0)) := List.countP_pos_iff.2 ⟨_, List.getElem_mem hol, by rw [← hgd]; simpa using hn⟩
      rw [← hgd]
      have e2 : decide (s.dist.getD u.toNat 0 + 1 < 0) = false := by simp only [decide_eq_false_iff_not]; omega
      have e3 : decide (s.dist.getD o.toNat 0 < 0) = true := by simp only [decide_eq_true_eq]; exact hn
      rw [e2, e3]
      generalize s.dist.countP (fun d => decide (d < 0)) = C at *
      simp
      omega
    · rw [List.head?_append, g.hd]; rfl
    · rw [getD_set_ne' (hne v hv0.1 hvo)]; exact g.d0
    · intro j hj hneg
      by_cases e : o.toNat = j
      · subst e; rw [getD_set_same' hol] at hneg; omega
      · rw [getD_set_ne' e] at hneg ⊢
        rw [getD_set_ne' e]
        exact g.un j hj hneg
    · rw [getD_set_ne' (hne v hv0.1 hvo)]; exact g.ev
    · intro q hq hq0
      simp only [List.length_append, List.length_singleton] at hq
      by_cases e : q < s.order.length
      · have hget : (s.order ++ [o])[q]'(by simp; omega) = s.order[q] := List.getElem_append_left e
        simp only [hget]
        have hqo : s.order[q] ≠ o := fun h => ho (h ▸ List.getElem_mem e)
        have hq1 := (g.rng _ (List.getElem_mem e)).1
        obtain ⟨i, h1, h2, h3, j, hj, h4, h5, h6⟩ := g.tree q e hq0
        have hjo : s.order[j] ≠ o := fun h => ho (h ▸ List.getElem_mem hj)
        have hj1 := (g.rng _ (List.getElem_mem hj)).1
        refine ⟨i, by rw [getD_set_ne' (hne _ hq1 hqo)]; exact h1, h2, h3, j, by simp; omega, h4, ?_, ?_⟩
        · rw [List.getElem_append_left hj]; exact h5
        · rw [List.getElem_append_left hj, getD_set_ne' (hne _ hq1 hqo), getD_set_ne' (hne _ hj1 hjo)]; exact h6
      · obtain rfl : q = s.order.length := by omega
        have hget : (s.order ++ [o])[s.order.length]'(by simp) = o := by simp
        simp only [hget]
        refine ⟨k, by rw [getD_set_same' hol'], hk, hat, ju, by simp; omega, hju, ?_, ?_⟩
        · rw [List.getElem_append_left hju, eju]; exact hoth
        · rw [List.getElem_append_left hju, eju, getD_set_same' hol, getD_set_ne' (hne u r3 (fun e => r5 e.symm))]
  next => exact g

theorem relax_pre (n : Net) (u : Int) (s : Sr) (i : Int) : s.order <+: (relax n u s i).order := by
  unfold relax
  split
  · exact List.prefix_append _ _
  · exact List.prefix_refl _
theorem fold_pre (n : Net) (u : Int) (L : List Int) (s : Sr) : s.order <+: (L.foldl (relax n u) s).order := by
  induction L generalizing s with
  | nil => exact List.prefix_refl _
  | cons a L ih => exact (relax_pre n u s a).trans (ih _)
theorem good_fold {n : Net} (hb : netB n = true) {v u : Int} (L : List Int) {s : Sr} (g : Good n v s) (hu : u ∈ s.order) (hL : ∀ i ∈ L, i ∈ pipesOf n u) : Good n v (L.foldl (relax n u) s) := by
  induction L generalizing s with
  | nil => exact g
  | cons a L ih =>
    obtain ⟨k, rfl, hk, ha⟩ := pipesOf_mem (hL a (by simp))
    exact ih (good_relax hb g hu hk ha) ((relax_pre n u s k).subset hu) (fun i hi => hL i (by simp [hi]))
theorem getD_mem {l : List Int} {k : Nat} (h : k < l.length) : l.getD k 0 ∈ l := by simp [List.getD, h]
theorem good_iter {n : Net} (hb : netB n = true) {v : Int} (h0 : 0 ≤ v) (h1 : v < n.nodes.length) (k : Nat) : Good n v (sIter n v k) := by
  induction k with
  | zero => exact good_init h0 h1
  | succ k ih =>
    unfold sIter
    split
    next h => exact good_fold hb _ ih (getD_mem h) (fun _ h => h)
    next => exact ih
theorem good_srch {n : Net} (hb : netB n = true) {v : Int} (h0 : 0 ≤ v) (h1 : v < n.nodes.length) : Good n v (srch n v) := good_iter hb h0 h1 _
theorem sIter_stop {n : Net} {v : Int} {k : Nat} (h : ¬ k < (sIter n v k).order.length) (d : Nat) : sIter n v (k + d) = sIter n v k := by
  induction d with
  | zero => rfl
  | succ d ih =>
    rw [← Nat.add_assoc, sIter, ih, if_neg (by omega)]
theorem sIter_end {n : Net} (hb : netB n = true) {v : Int} (h0 : 0 ≤ v) (h1 : v < n.nodes.length) {k : Nat} (h : ¬ k < (sIter n v k).order.length) (hk : k ≤ (sIter n v k).order.length) : sIter n v k = srch n v := by
  have := (good_iter hb h0 h1 k).le_nodes
  obtain ⟨d, hd⟩ : ∃ d, n.nodes.length = k + d := ⟨n.nodes.length - k, by omega⟩
  unfold srch
  rw [hd, sIter_stop h]
theorem sIter_pre (n : Net) (v : Int) (k : Nat) : (sIter n v k).order <+: (sIter n v (k + 1)).order := by
  rw [sIter]
  split
  · exact fold_pre _ _ _ _
  · exact List.prefix_refl _

end Go.Proofs.Ytdapdaadglaoiaa
