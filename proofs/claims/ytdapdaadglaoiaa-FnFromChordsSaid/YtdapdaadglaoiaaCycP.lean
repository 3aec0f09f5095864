/- Flows, plain: a balanced flow on the forest is 0. No program. What forestFlows computes, plain: it balances even supplies. No program. The cycle of a chord, plain: both ways give the same flow. No program. -/
import Derived.Test.YtdapdaadglaoiaaForest
namespace Go.Proofs.Ytdapdaadglaoiaa
open Go.RowKit

theorem sum_upd (m : Nat) (g g' : Nat → Int) (i : Nat) (hi : i < m) (h : ∀ j, j ≠ i → g' j = g j) : ((List.range m).map g').sum = ((List.range m).map g).sum + (g' i - g i) := by
  induction m with
  | zero => omega
  | succ m ih =>
    rw [List.range_succ, List.map_append, List.map_append, List.sum_append, List.sum_append]
    simp only [List.map_cons, List.map_nil, List.sum_cons, List.sum_nil]
    by_cases e : i = m
    · subst e
      have : (List.range i).map g' = (List.range i).map g := List.map_congr_left (fun j hj => h j (by have := List.mem_range.1 hj; omega))
      rw [this]; omega
    · rw [ih (by omega), h m (fun h => e h.symm)]; omega
theorem sum_zero (m : Nat) (g : Nat → Int) (h : ∀ j, j < m → g j = 0) : ((List.range m).map g).sum = 0 := by
  induction m with
  | zero => rfl
  | succ m ih =>
    rw [List.range_succ, List.map_append, List.sum_append, ih (fun j hj => h j (by omega))]
    simp [h m (by omega)]
theorem sum_single (m : Nat) (g : Nat → Int) (i : Nat) (hi : i < m) (h : ∀ j, j < m → j ≠ i → g j = 0) : ((List.range m).map g).sum = g i := by
  induction m with
  | zero => omega
  | succ m ih =>
    rw [List.range_succ, List.map_append, List.sum_append]
    simp only [List.map_cons, List.map_nil, List.sum_cons, List.sum_nil]
    by_cases e : i = m
    · subst e
      rw [sum_zero i g (fun j hj => h j (by omega) (by omega))]; omega
    · rw [ih (by omega) (fun j hj hne => h j (by omega) hne), h m (by omega) (fun h => e h.symm)]; omega
theorem sum_add (m : Nat) (g g' : Nat → Int) : ((List.range m).map (fun i => g i + g' i)).sum = ((List.range m).map g).sum + ((List.range m).map g').sum := by
  induction m with
  | zero => rfl
  | succ m ih =>
    rw [List.range_succ, List.map_append, List.map_append, List.map_append, List.sum_append, List.sum_append, List.sum_append, ih]
    simp; omega

def inc (p : Pp) (x : Int) : Int := (if p.fr = x then 1 else 0) - (if p.to = x then 1 else 0)
/-- What flows out of x more than into it. -/
def outAt (n : Net) (f : List Int) (x : Int) : Int := ((List.range n.pipes.length).map (fun i => f.getD i 0 * inc (pAt n i) x)).sum
theorem outAt_set {n : Net} {f : List Int} (hl : f.length = n.pipes.length) {i : Nat} (hi : i < n.pipes.length) (v x : Int) : outAt n (f.set i v) x = outAt n f x + (v - f.getD i 0) * inc (pAt n i) x := by
  unfold outAt
  rw [sum_upd n.pipes.length (fun i => f.getD i 0 * inc (pAt n i) x) _ i hi (fun j hj => by rw [getD_set_ne' (fun e => hj e.symm)]), getD_set_same' (by omega), Int.sub_mul]
theorem outAt_zero (n : Net) (m : Nat) (x : Int) : outAt n (List.replicate m 0) x = 0 := by
  unfold outAt
  refine sum_zero _ _ (fun j _ => ?_)
  have : (List.replicate m (0 : Int)).getD j 0 = 0 := by
    simp only [List.getD, List.getElem?_replicate]
    split <;> rfl
  rw [this, Int.zero_mul]
theorem inc_ne {p : Pp} {x : Int} (h : atF x p = false) : inc p x = 0 := by
  have : ¬ (p.fr = x ∨ p.to = x) := fun e => by rw [atF_iff.2 e] at h; cases h
  unfold inc
  rw [if_neg (fun e => this (Or.inl e)), if_neg (fun e => this (Or.inr e))]; rfl
theorem inc_at {p : Pp} {x : Int} (h : atF x p = true) (hne : p.fr ≠ p.to) : inc p x ≠ 0 := by
  unfold inc
  rcases atF_iff.1 h with h | h
  · rw [if_pos h, if_neg (fun e => hne (by omega))]; decide
  · rw [if_pos h, if_neg (fun e => hne (by omega))]; decide

/-- The entry of a node in the search from its root. -/
def entN (n : Net) (x : Nat) : Nat := ((srch n (rootN n x)).ent.getD x 0).toNat
def dep (n : Net) (x : Nat) : Int := (srch n (rootN n x)).dist.getD x 0
theorem entN_spec {n : Net} (hb : netB n = true) {x : Nat} (hx : x < n.nodes.length) (h : isRoot n x = false) :
    ∃ hi : entN n x < n.pipes.length, (srch n (rootN n x)).ent.getD x 0 = entN n x ∧ (entN n x : Int) ∈ forest n ∧ atF x n.pipes[entN n x] = true ∧
      ∃ y : Nat, y < n.nodes.length ∧ oth n.pipes[entN n x] x = y ∧ rootN n y = rootN n x ∧ dep n x = dep n y + 1 := by
  obtain ⟨i, hi, e1, a1, m1, d1⟩ := entry_pos hb hx h
  obtain ⟨h1, h2, h3, h4⟩ := rootN_spec hb hx
  have g := good_srch hb (v := (rootN n x : Int)) (by omega) (by omega)
  have he : entN n x = i := by unfold entN; rw [e1]; rfl
  rw [he]
  have hr := g.rng _ m1
  obtain ⟨y, hy⟩ : ∃ y : Nat, oth n.pipes[i] x = y := ⟨(oth n.pipes[i] x).toNat, by omega⟩
  rw [hy] at m1 d1 hr
  rw [Int.toNat_natCast] at d1
  have hroot : rootN n y = rootN n x := root_unique hb (by omega) (by omega) h3 ((srch_iff hb (by omega) (by omega) y).1 m1)
  refine ⟨hi, e1, forest_entry hb (by omega) h3 hx e1, a1, y, by omega, hy, hroot, ?_⟩
  unfold dep
  rw [hroot]
  exact d1
theorem entN_inj {n : Net} (hb : netB n = true) {x y : Nat} (hx : x < n.nodes.length) (hy : y < n.nodes.length) (h1 : isRoot n x = false) (h2 : isRoot n y = false) (he : entN n x = entN n y) : x = y := by
  obtain ⟨_, e1, _⟩ := entN_spec hb hx h1
  obtain ⟨_, e2, _⟩ := entN_spec hb hy h2
  exact ent_inj_all hb hx hy h1 h2 (by rw [e1, e2, he])
theorem forest_node {n : Net} (hb : netB n = true) {i : Nat} (h : (i : Int) ∈ forest n) : ∃ x : Nat, x < n.nodes.length ∧ isRoot n x = false ∧ entN n x = i := by
  obtain ⟨_, _, _, h⟩ := forest_mem.1 h
  obtain ⟨x, hx, h1, h2, _⟩ := (fRaw_mem hb).1 h
  exact ⟨x, hx, h1, by unfold entN; rw [h2]; rfl⟩
/-- A flow on the forest that is balanced everywhere is 0. -/
theorem flow_unique {n : Net} (hb : netB n = true) {h : Nat → Int} (hs : ∀ i, i < n.pipes.length → h i ≠ 0 → (i : Int) ∈ forest n)
    (h0 : ∀ x : Nat, x < n.nodes.length → ((List.range n.pipes.length).map (fun i => h i * inc (pAt n i) x)).sum = 0) : ∀ i, i < n.pipes.length → h i = 0 := by
  have key : ∀ m x : Nat, x < n.nodes.length → isRoot n x = false → (n.nodes.length : Int) ≤ dep n x + m → h (entN n x) = 0 := by
    intro m
    induction m with
    | zero =>
      intro x hx _ hd
      exfalso
      obtain ⟨h1, h2, h3, h4⟩ := rootN_spec hb hx
      have g := good_srch hb (v := (rootN n x : Int)) (by omega) (by omega)
      have := g.hi x
      have := g.le_nodes
      unfold dep at hd
      omega
    | succ m ih =>
      intro x hx hr hd
      obtain ⟨hi, e1, hf, a1, y, hy, hoy, hry, hdy⟩ := entN_spec hb hx hr
      have hsum := h0 x hx
      have hz : ∀ j, j < n.pipes.length → j ≠ entN n x → h j * inc (pAt n j) x = 0 := by
        intro j hj hne
        by_cases hh : h j = 0
        · rw [hh, Int.zero_mul]
        · obtain ⟨z, hz, hzr, hze⟩ := forest_node hb (hs j hj hh)
          obtain ⟨hi2, e2, hf2, a2, u, hu, hou, hru, hdu⟩ := entN_spec hb hz hzr
          subst hze
          rw [pAt_nat hj]
          cases ha : atF (x : Int) n.pipes[entN n z]
          · rw [inc_ne ha, Int.mul_zero]
          · exfalso
            have hzx : z ≠ x := fun e => hne (by rw [e])
            have : oth n.pipes[entN n z] z = (x : Int) := by
              rcases oth_ends a2 with ⟨h3, h4⟩ | ⟨h3, h4⟩ <;> rcases atF_iff.1 ha with h5 | h5 <;> omega
            obtain rfl : u = x := by omega
            exact hh (ih z hz hzr (by omega))
      rw [sum_single n.pipes.length (fun i => h i * inc (pAt n i) x) (entN n x) hi hz, pAt_nat hi] at hsum
      have hp := netB_pipe hb (List.getElem_mem hi)
      exact (Int.mul_eq_zero.1 hsum).resolve_right (inc_at a1 hp.2.2.2.2)
  intro i hi
  by_cases hh : h i = 0
  · exact hh
  · obtain ⟨x, hx, hr, rfl⟩ := forest_node hb (hs i hi hh)
    obtain ⟨h1, h2, h3, h4⟩ := rootN_spec hb hx
    have g := good_srch hb (v := (rootN n x : Int)) (by omega) (by omega)
    have := g.nn ((srch_iff hb (by omega) (by omega) x).2 h4)
    rw [Int.toNat_natCast] at this
    exact key n.nodes.length x hx hr (by unfold dep; omega)
/-- Two flows that are the same off the forest and have the same outflows are the same. -/
theorem flow_eq {n : Net} (hb : netB n = true) {f g : List Int} (hf : f.length = n.pipes.length) (hg : g.length = n.pipes.length)
    (ho : ∀ i, i < n.pipes.length → (i : Int) ∉ forest n → f.getD i 0 = g.getD i 0) (hs : ∀ x : Nat, x < n.nodes.length → outAt n f x = outAt n g x) : f = g := by
  have h1 := flow_unique hb (h := fun i => f.getD i 0 + (-1) * g.getD i 0) (fun i hi h => by
    rcases Classical.em ((i : Int) ∈ forest n) with h2 | h2
    · exact h2
    · exfalso; apply h; have := ho i hi h2; omega) (fun x hx => by
    have e : ∀ i : Nat, (f.getD i 0 + (-1) * g.getD i 0) * inc (pAt n i) x = f.getD i 0 * inc (pAt n i) x + (-1) * (g.getD i 0 * inc (pAt n i) x) := fun i => by rw [Int.add_mul, Int.mul_assoc]
    have e2 : ∀ m : Nat, ((List.range m).map (fun i => (-1) * (g.getD i 0 * inc (pAt n i) x))).sum = - ((List.range m).map (fun i => g.getD i 0 * inc (pAt n i) x)).sum := by
      intro m
      induction m with
      | zero => rfl
      | succ m ih => rw [List.range_succ, List.map_append, List.map_append, List.sum_append, List.sum_append, ih]; simp; omega
    have := hs x hx
    unfold outAt at this
    simp only [e]
    rw [sum_add, e2, this]
    omega)
  apply List.ext_getElem
  · omega
  · intro i h2 h3
    have := h1 i (by omega)
    simp only [List.getD, h2, h3, List.getElem?_eq_getElem, Option.getD_some] at this
    omega

end Go.Proofs.Ytdapdaadglaoiaa

namespace Go.Proofs.Ytdapdaadglaoiaa
open Go.RowKit

/-- One node of forestFlows: its entry takes what is left at it, and its parent gets it. -/
def ffStep (n : Net) (s : Sr) (st : List Int × List Int) (x : Int) : List Int × List Int :=
  (st.1.set (s.ent.getD x.toNat 0).toNat (if (pAt n (s.ent.getD x.toNat 0)).to = x then - st.2.getD x.toNat 0 else st.2.getD x.toNat 0),
   st.2.set (oth (pAt n (s.ent.getD x.toNat 0)) x).toNat (st.2.getD (oth (pAt n (s.ent.getD x.toNat 0)) x).toNat 0 + st.2.getD x.toNat 0))
def backOf (s : Sr) : List Int := (s.order.drop 1).reverse
def ffRoot (n : Net) (st : List Int × List Int) (r : Nat) : List Int × List Int := (backOf (srch n r)).foldl (ffStep n (srch n r)) st
def ffIter (n : Net) (sup : List Int) : Nat → List Int × List Int
  | 0 => (List.replicate n.pipes.length 0, sup)
  | k + 1 => if isRoot n k = true then ffRoot n (ffIter n sup k) k else ffIter n sup k
def fflows (n : Net) (sup : List Int) : List Int := (ffIter n sup n.nodes.length).1
def sumL (L : List Int) (xs : List Int) : Int := (xs.map (fun x => L.getD x.toNat 0)).sum
theorem sumL_set_out {L : List Int} {xs : List Int} {y : Nat} {v : Int} (h : ∀ x ∈ xs, x.toNat ≠ y) : sumL (L.set y v) xs = sumL L xs := by
  unfold sumL
  rw [List.map_congr_left (fun x hx => getD_set_ne' (fun e => h x hx e.symm))]
theorem sumL_set {L : List Int} {xs : List Int} (hnd : xs.Nodup) (hpos : ∀ x ∈ xs, 0 ≤ x) {y : Int} (hy : y ∈ xs) (hl : y.toNat < L.length) (v : Int) : sumL (L.set y.toNat v) xs = sumL L xs + (v - L.getD y.toNat 0) := by
  induction xs with
  | nil => cases hy
  | cons a xs ih =>
    have hnd' := List.nodup_cons.1 hnd
    by_cases e : a = y
    · subst e
      have h1 : sumL (L.set a.toNat v) xs = sumL L xs := sumL_set_out (fun x hx e => by
        have h1 := hpos x (List.mem_cons_of_mem _ hx)
        have h2 := hpos a (by simp)
        have h3 : x = a := by omega
        exact hnd'.1 (h3 ▸ hx))
      show (L.set a.toNat v).getD a.toNat 0 + sumL (L.set a.toNat v) xs = L.getD a.toNat 0 + sumL L xs + _
      rw [h1, getD_set_same' hl]; omega
    · have hy' : y ∈ xs := (List.mem_cons.1 hy).resolve_left (fun h => e h.symm)
      show (L.set y.toNat v).getD a.toNat 0 + sumL (L.set y.toNat v) xs = L.getD a.toNat 0 + sumL L xs + _
      have h1 := hpos a (by simp)
      have h2 := hpos y hy
      rw [ih hnd'.2 (fun x hx => hpos x (List.mem_cons_of_mem _ hx)) hy', getD_set_ne' (by omega)]; omega

structure FK (n : Net) (sup : List Int) (r : Nat) (j : Nat) (st : List Int × List Int) : Prop where
  lf : st.1.length = n.pipes.length
  ll : st.2.length = n.nodes.length
  lo : ∀ x, x < n.nodes.length → rootN n x < r → outAt n st.1 x = sup.getD x 0
  hi : ∀ x, x < n.nodes.length → r < rootN n x → outAt n st.1 x = 0 ∧ st.2.getD x 0 = sup.getD x 0 ∧ (isRoot n x = false → st.1.getD (entN n x) 0 = 0)
  dn : ∀ x, x < n.nodes.length → rootN n x = r → (x : Int) ∉ (srch n r).order.take j → outAt n st.1 x = sup.getD x 0
  up : ∀ x, x < n.nodes.length → rootN n x = r → (x : Int) ∈ (srch n r).order.take j → outAt n st.1 x = sup.getD x 0 - st.2.getD x 0 ∧ (isRoot n x = false → st.1.getD (entN n x) 0 = 0)
  sm : sumL st.2 ((srch n r).order.take j) = sumL sup (srch n r).order
  sp : ∀ i, i < n.pipes.length → st.1.getD i 0 ≠ 0 → (i : Int) ∈ forest n
theorem fk_step {n : Net} (hb : netB n = true) {sup : List Int} {r : Nat} (hr : r < n.nodes.length) (hroot : isRoot n r = true) {j : Nat} (hj0 : 0 < j) (hj : j < (srch n r).order.length) {st : List Int × List Int} (h : FK n sup r (j + 1) st) :
    FK n sup r j (ffStep n (srch n r) st (srch n r).order[j]) := by
  have g := good_srch hb (v := (r : Int)) (by omega) (by omega)
  obtain ⟨i, e1, hi, a1, q, hq, hqj, hoq, hd⟩ := g.tree j hj hj0
  have hxm := List.getElem_mem hj
  have hxr := g.rng _ hxm
  obtain ⟨x, hx⟩ : ∃ x : Nat, (srch n r).order[j] = x := ⟨((srch n r).order[j]).toNat, by omega⟩
  have hqm := List.getElem_mem hq
  have hqr := g.rng _ hqm
  obtain ⟨y, hy⟩ : ∃ y : Nat, (srch n r).order[q] = y := ⟨((srch n r).order[q]).toNat, by omega⟩
  have htake : (srch n r).order.take (j + 1) = (srch n r).order.take j ++ [(x : Int)] := by rw [List.take_succ_eq_append_getElem hj, hx]
  rw [hx] at e1 a1 hoq hxm hxr ⊢
  rw [hy] at hoq hqm hqr
  rw [Int.toNat_natCast] at e1
  have hxN : x < n.nodes.length := by omega
  have hyN : y < n.nodes.length := by omega
  have rx : rootN n x = r := root_unique hb hr hxN hroot ((srch_iff hb (by omega) (by omega) x).1 hxm)
  have ry : rootN n y = r := root_unique hb hr hyN hroot ((srch_iff hb (by omega) (by omega) y).1 hqm)
  have hxy : x ≠ y := by
    have := (oth_rng hb hi a1).2.2.2.2
    rw [hoq] at this; omega
  have hnd : ((srch n r).order.take (j + 1)).Nodup := g.nd.sublist (List.take_sublist _ _)
  have hxt : (x : Int) ∉ (srch n r).order.take j := by
    rw [htake] at hnd
    intro hm
    exact (List.nodup_append.1 hnd).2.2 _ hm _ (by simp) rfl
  have hyt : (y : Int) ∈ (srch n r).order.take j := List.mem_take_iff_getElem.2 ⟨q, by omega, hy⟩
  have hne : (x : Int) ≠ r := fun e => by
    have h0 := g.head
    have : (srch n r).order[0]'g.pos = (srch n r).order[j] := by rw [h0, hx, e]
    have := (List.nodup_iff_pairwise_ne.1 g.nd)
    rw [List.pairwise_iff_getElem] at this
    exact this 0 j g.pos hj hj0 (by assumption)
  have hxnr : isRoot n x = false := by
    cases hc : isRoot n x
    · rfl
    · have := root_unique hb hxN hxN hc .refl
      omega
  have hen : entN n x = i := by unfold entN; rw [rx, e1]; rfl
  have hF0 : st.1.getD i 0 = 0 := by
    have := (h.up x hxN rx (by rw [htake]; simp)).2 hxnr
    rw [hen] at this; exact this
  obtain ⟨l, hl⟩ : ∃ l, l = st.2.getD x 0 := ⟨_, rfl⟩
  have hpp := netB_pipe hb (List.getElem_mem hi)
  have hst1 : (ffStep n (srch n r) st x).1 = st.1.set i (if n.pipes[i].to = x then -l else l) := by
    unfold ffStep; simp only [Int.toNat_natCast, e1, pAt_nat hi, ← hl]
  have hst2 : (ffStep n (srch n r) st x).2 = st.2.set y (st.2.getD y 0 + l) := by
    unfold ffStep; simp only [Int.toNat_natCast, e1, pAt_nat hi, hoq, ← hl]
  have hout : ∀ z : Nat, outAt n (ffStep n (srch n r) st x).1 z = outAt n st.1 z + l * ((if z = x then 1 else 0) - (if z = y then 1 else 0)) := by
    intro z
    rw [hst1, outAt_set h.lf hi, hF0, pAt_nat hi]
    congr 1
    unfold inc
    rcases oth_ends a1 with ⟨h3, h4⟩ | ⟨h3, h4⟩
    · have h5 : n.pipes[i].to = y := by omega
      rw [h3, h5, if_neg (by omega : ¬ (y : Int) = x)]
      have e3 : ((x : Int) = z) ↔ z = x := by omega
      have e4 : ((y : Int) = z) ↔ z = y := by omega
      simp only [e3, e4]
      rw [Int.sub_zero]
    · have h5 : n.pipes[i].fr = y := by omega
      rw [h3, h5, if_pos rfl]
      have e3 : ((x : Int) = z) ↔ z = x := by omega
      have e4 : ((y : Int) = z) ↔ z = y := by omega
      simp only [e3, e4]
      rw [Int.sub_zero, Int.neg_mul, ← Int.mul_neg]
      congr 1
      omega
  have hoth : ∀ z : Nat, z ≠ x → z ≠ y → outAt n (ffStep n (srch n r) st x).1 z = outAt n st.1 z := fun z h1 h2 => by rw [hout, if_neg h1, if_neg h2]; omega
  have hent : ∀ z : Nat, z < n.nodes.length → isRoot n z = false → z ≠ x → (ffStep n (srch n r) st x).1.getD (entN n z) 0 = st.1.getD (entN n z) 0 := fun z hz h1 h2 => by
    rw [hst1, getD_set_ne' (fun e => h2 (entN_inj hb hz hxN h1 hxnr (by omega)))]
  refine ⟨by rw [hst1]; simpa using h.lf, by rw [hst2]; simpa using h.ll, ?_, ?_, ?_, ?_, ?_, ?_⟩
  · intro z hz h1
    rw [hoth z (fun e => by subst e; omega) (fun e => by subst e; omega)]
    exact h.lo z hz h1
  · intro z hz h1
    have hzx : z ≠ x := fun e => by subst e; omega
    have hzy : z ≠ y := fun e => by subst e; omega
    obtain ⟨h2, h3, h4⟩ := h.hi z hz h1
    rw [hoth z hzx hzy]
    refine ⟨h2, ?_, fun h5 => by rw [hent z hz h5 hzx]; exact h4 h5⟩
    rw [hst2, getD_set_ne' (fun e => hzy e.symm)]; exact h3
  · intro z hz h1 h2
    by_cases hzx : z = x
    · subst hzx
      rw [hout, if_pos rfl, if_neg hxy, (h.up z hz rx (by rw [htake]; simp)).1]
      omega
    · have hzy : z ≠ y := fun e => h2 (by rw [e]; exact hyt)
      rw [hoth z hzx hzy]
      refine h.dn z hz h1 (fun h3 => ?_)
      rw [htake] at h3
      rcases List.mem_append.1 h3 with h3 | h3
      · exact h2 h3
      · simp at h3; omega
  · intro z hz h1 h2
    have hzx : z ≠ x := fun e => hxt (by rw [← e]; exact h2)
    obtain ⟨h3, h4⟩ := h.up z hz h1 (by rw [htake]; exact List.mem_append_left _ h2)
    refine ⟨?_, fun h5 => by rw [hent z hz h5 hzx]; exact h4 h5⟩
    by_cases hzy : z = y
    · subst hzy
      rw [hout, if_neg hzx, if_pos rfl, hst2, getD_set_same' (by rw [h.ll]; omega), h3]
      omega
    · rw [hoth z hzx hzy, hst2, getD_set_ne' (fun e => hzy e.symm)]; exact h3
  · rw [hst2]
    have hpos : ∀ z ∈ (srch n r).order.take j, 0 ≤ z := fun z hz => (g.rng z (List.mem_of_mem_take hz)).1
    have hs := sumL_set (L := st.2) (List.Nodup.sublist (List.take_sublist j _) g.nd) hpos hyt (by rw [Int.toNat_natCast, h.ll]; omega) (st.2.getD y 0 + l)
    rw [Int.toNat_natCast] at hs
    rw [hs, ← h.sm, htake]
    unfold sumL
    rw [List.map_append, List.sum_append]
    simp only [List.map_cons, List.map_nil, List.sum_cons, List.sum_nil, Int.toNat_natCast, ← hl]
    omega
  · intro k hk h1
    rw [hst1] at h1
    by_cases e : i = k
    · subst e
      rw [← hen]
      obtain ⟨_, _, hf, _⟩ := entN_spec hb hxN hxnr
      exact hf
    · rw [getD_set_ne' e] at h1
      exact h.sp k hk h1
theorem back_len (s : Sr) : (backOf s).length = s.order.length - 1 := by simp [backOf]
theorem back_get (s : Sr) (m : Nat) (h : m < (backOf s).length) : ∃ h2 : s.order.length - 1 - m < s.order.length, (backOf s)[m] = s.order[s.order.length - 1 - m] := by
  rw [back_len] at h
  refine ⟨by omega, ?_⟩
  have : (backOf s)[m]? = some s.order[s.order.length - 1 - m] := by
    unfold backOf
    rw [List.getElem?_reverse (by simp; omega), List.getElem?_drop]
    rw [List.getElem?_eq_getElem (by simp; omega)]
    congr 2
    simp; omega
  have h2 : m < (backOf s).length := by rw [back_len]; exact h
  rw [List.getElem?_eq_getElem h2] at this
  simpa using this
theorem fk_back {n : Net} (hb : netB n = true) {sup : List Int} {r : Nat} (hr : r < n.nodes.length) (hroot : isRoot n r = true) {st : List Int × List Int} (h : FK n sup r (srch n r).order.length st) (m : Nat) (hm : m ≤ (backOf (srch n r)).length) :
    FK n sup r ((srch n r).order.length - m) (((backOf (srch n r)).take m).foldl (ffStep n (srch n r)) st) := by
  induction m with
  | zero => exact h
  | succ m ih =>
    have hl := back_len (srch n r)
    obtain ⟨h2, e2⟩ := back_get (srch n r) m (by omega)
    rw [List.take_succ_eq_append_getElem (by omega), List.foldl_append]
    show FK n sup r _ (ffStep n (srch n r) _ (backOf (srch n r))[m])
    rw [e2]
    have e3 : (srch n r).order.length - m = ((srch n r).order.length - 1 - m) + 1 := by omega
    have e4 : (srch n r).order.length - (m + 1) = (srch n r).order.length - 1 - m := by omega
    have := ih (by omega)
    rw [e3] at this
    rw [e4]
    exact fk_step hb hr hroot (by omega) h2 this
structure FJ (n : Net) (sup : List Int) (k : Nat) (st : List Int × List Int) : Prop where
  lf : st.1.length = n.pipes.length
  ll : st.2.length = n.nodes.length
  lo : ∀ x, x < n.nodes.length → rootN n x < k → outAt n st.1 x = sup.getD x 0
  hi : ∀ x, x < n.nodes.length → k ≤ rootN n x → outAt n st.1 x = 0 ∧ st.2.getD x 0 = sup.getD x 0 ∧ (isRoot n x = false → st.1.getD (entN n x) 0 = 0)
  sp : ∀ i, i < n.pipes.length → st.1.getD i 0 ≠ 0 → (i : Int) ∈ forest n
theorem fj_iter {n : Net} (hb : netB n = true) {sup : List Int} (hl : sup.length = n.nodes.length) (heven : ∀ r, r < n.nodes.length → isRoot n r = true → sumL sup (srch n r).order = 0) (k : Nat) (hk : k ≤ n.nodes.length) : FJ n sup k (ffIter n sup k) := by
  induction k with
  | zero =>
    refine ⟨by simp [ffIter], hl, fun x _ h => by omega, fun x hx _ => ⟨outAt_zero _ _ _, rfl, fun _ => ?_⟩, fun i hi h => ?_⟩
    · show (List.replicate n.pipes.length (0 : Int)).getD _ 0 = 0
      simp only [List.getD, List.getElem?_replicate]; split <;> rfl
    · exfalso; apply h
      show (List.replicate n.pipes.length (0 : Int)).getD _ 0 = 0
      simp only [List.getD, List.getElem?_replicate]; split <;> rfl
  | succ k ih =>
    have ih := ih (by omega)
    rw [ffIter]
    split
    next hroot =>
      have g := good_srch hb (v := (k : Int)) (by omega) (by omega)
      have hmem : ∀ x, x < n.nodes.length → rootN n x = k → (x : Int) ∈ (srch n k).order := fun x hx hr => by
        obtain ⟨_, _, _, h4⟩ := rootN_spec hb hx
        rw [hr] at h4
        exact (srch_iff hb (by omega) (by omega) x).2 h4
      have h0 : FK n sup k (srch n k).order.length (ffIter n sup k) := by
        refine ⟨ih.lf, ih.ll, ih.lo, fun x hx h => ih.hi x hx (by omega), fun x hx h1 h2 => ?_, fun x hx h1 _ => ?_, ?_, ih.sp⟩
        · rw [List.take_length] at h2
          exact absurd (hmem x hx h1) h2
        · obtain ⟨h3, h4, h5⟩ := ih.hi x hx (by omega)
          exact ⟨by omega, h5⟩
        · rw [List.take_length]
          unfold sumL
          rw [List.map_congr_left (fun x hx => ?_)]
          have hxr := g.rng x hx
          obtain ⟨z, rfl⟩ : ∃ z : Nat, x = z := ⟨x.toNat, by omega⟩
          rw [Int.toNat_natCast]
          exact (ih.hi z (by omega) (by rw [root_unique hb (by omega) (by omega) hroot ((srch_iff hb (by omega) (by omega) z).1 hx)]; exact Nat.le_refl _)).2.1
      have h1 := fk_back hb (by omega) hroot h0 (backOf (srch n k)).length (Nat.le_refl _)
      rw [List.take_length] at h1
      have hone : (srch n k).order.length - (backOf (srch n k)).length = 1 := by rw [back_len]; have := g.pos; omega
      rw [hone] at h1
      have ht1 : (srch n k).order.take 1 = [(k : Int)] := by
        rw [List.take_succ_eq_append_getElem g.pos, g.head]; rfl
      have hroot' : rootN n k = k := root_unique hb (by omega) (by omega) hroot .refl
      have hlk : (ffRoot n (ffIter n sup k) k).2.getD k 0 = 0 := by
        have hs := h1.sm
        rw [ht1, heven k (by omega) hroot] at hs
        unfold sumL at hs
        simp only [List.map_cons, List.map_nil, List.sum_cons, List.sum_nil, Int.toNat_natCast] at hs
        unfold ffRoot; omega
      refine ⟨h1.lf, h1.ll, fun x hx h => ?_, fun x hx h => h1.hi x hx (by omega), h1.sp⟩
      rcases (by omega : rootN n x < k ∨ rootN n x = k) with h2 | h2
      · exact h1.lo x hx h2
      · by_cases e : x = k
        · subst e
          have := (h1.up x hx h2 (by rw [ht1]; simp)).1
          unfold ffRoot at hlk ⊢
          rw [this, hlk]; omega
        · exact h1.dn x hx h2 (by rw [ht1]; simp; omega)
    next hroot =>
      have hnr : ∀ x, x < n.nodes.length → rootN n x ≠ k := fun x hx e => by
        obtain ⟨_, _, h3, _⟩ := rootN_spec hb hx
        rw [e] at h3
        exact hroot h3
      refine ⟨ih.lf, ih.ll, fun x hx h => ih.lo x hx (by have := hnr x hx; omega), fun x hx h => ih.hi x hx (by omega), ih.sp⟩
theorem fflows_spec {n : Net} (hb : netB n = true) {sup : List Int} (hl : sup.length = n.nodes.length) (heven : ∀ r, r < n.nodes.length → isRoot n r = true → sumL sup (srch n r).order = 0) :
    (fflows n sup).length = n.pipes.length ∧ (∀ x : Nat, x < n.nodes.length → outAt n (fflows n sup) x = sup.getD x 0) ∧ ∀ i, i < n.pipes.length → (fflows n sup).getD i 0 ≠ 0 → (i : Int) ∈ forest n := by
  have h := fj_iter hb hl heven n.nodes.length (Nat.le_refl _)
  refine ⟨h.lf, fun x hx => h.lo x hx ?_, h.sp⟩
  obtain ⟨_, h2, _⟩ := rootN_spec hb hx
  omega

end Go.Proofs.Ytdapdaadglaoiaa

namespace Go.Proofs.Ytdapdaadglaoiaa
open Go.RowKit

/-- The pipes that are not in the forest. -/
def chords (n : Net) : List Int := ((List.range n.pipes.length).filter (fun i => !inF n i)).map (fun i : Nat => (i : Int))
theorem inF_iff {n : Net} {i : Nat} (hi : i < n.pipes.length) : inF n i = true ↔ (i : Int) ∈ forest n := by
  unfold inF
  simp only [decide_eq_true_eq]
  constructor
  · intro h; exact forest_mem.2 ⟨i, rfl, hi, h⟩
  · intro h; obtain ⟨_, _, _, h⟩ := forest_mem.1 h; exact h
theorem chords_mem {n : Net} {e : Int} : e ∈ chords n ↔ ∃ i : Nat, e = i ∧ i < n.pipes.length ∧ (i : Int) ∉ forest n := by
  unfold chords
  simp only [List.mem_map, List.mem_filter, List.mem_range, Bool.not_eq_true']
  constructor
  · rintro ⟨i, ⟨h1, h2⟩, rfl⟩
    exact ⟨i, rfl, h1, fun h => by rw [(inF_iff h1).2 h] at h2; cases h2⟩
  · rintro ⟨i, rfl, h1, h2⟩
    refine ⟨i, ⟨h1, ?_⟩, rfl⟩
    cases h : inF n i
    · rfl
    · exact absurd ((inF_iff h1).1 h) h2
theorem chords_sorted (n : Net) : (chords n).Pairwise (fun a b => a < b) := by
  unfold chords
  rw [List.pairwise_map, List.pairwise_filter]
  exact List.Pairwise.imp (fun h _ _ => by omega) List.pairwise_lt_range
theorem chords_le (n : Net) : (chords n).length ≤ n.pipes.length := by
  unfold chords
  rw [List.length_map]
  exact Nat.le_trans (List.length_filter_le _ _) (by simp)

/-- The supplies of a chord's cycle. -/
def supOf (n : Net) (c : Int) : List Int := ((List.replicate n.nodes.length 0).set (pAt n c).to.toNat 1).set (pAt n c).fr.toNat (-1)
def cyI (n : Net) (c : Int) : List Int := (fflows n (supOf n c)).set c.toNat 1
def csStep (n : Net) (st : List Int × Int) (j : Int) : List Int × Int :=
  (st.1.set ((forest n).getD j.toNat 0).toNat (if (pAt (treeN n) j).fr = st.2 then 1 else -1), (pAt (treeN n) j).fr + (pAt (treeN n) j).to - st.2)
def csIni (n : Net) (c : Int) : List Int × Int := ((List.replicate n.pipes.length 0).set c.toNat 1, (pAt n c).to)
def cyS (n : Net) (c : Int) : List Int := ((pathOf (treeN n) (pAt n c).to (pAt n c).fr).foldl (csStep n) (csIni n c)).1

theorem rep0 (m i : Nat) : (List.replicate m (0 : Int)).getD i 0 = 0 := by
  simp only [List.getD, List.getElem?_replicate]; split <;> rfl
theorem sumL_rep (m : Nat) (xs : List Int) : sumL (List.replicate m 0) xs = 0 := by
  unfold sumL
  induction xs with
  | nil => rfl
  | cons a xs ih => rw [List.map_cons, List.sum_cons, ih, rep0]; rfl
theorem sup_even {n : Net} (hb : netB n = true) {c : Nat} (hc : c < n.pipes.length) {r : Nat} (hr : r < n.nodes.length) : sumL (supOf n c) (srch n r).order = 0 := by
  have g := good_srch hb (v := (r : Int)) (by omega) (by omega)
  obtain ⟨f0, f1, t0, t1, hne⟩ := netB_pipe hb (List.getElem_mem hc)
  have hpos : ∀ x ∈ (srch n r).order, 0 ≤ x := fun x hx => (g.rng x hx).1
  have af : atF n.pipes[c].fr n.pipes[c] = true := atF_iff.2 (Or.inl rfl)
  have at' : atF n.pipes[c].to n.pipes[c] = true := atF_iff.2 (Or.inr rfl)
  have of : oth n.pipes[c] n.pipes[c].fr = n.pipes[c].to := by simp [oth]
  have ot : oth n.pipes[c] n.pipes[c].to = n.pipes[c].fr := by unfold oth; rw [if_neg hne]
  unfold supOf
  rw [pAt_nat hc]
  by_cases h : n.pipes[c].fr ∈ (srch n r).order
  · have h2 : n.pipes[c].to ∈ (srch n r).order := srch_closed hb (by omega) (by omega) h ⟨c, hc, af, of⟩
    rw [sumL_set g.nd hpos h (by simp; omega), sumL_set g.nd hpos h2 (by simp; omega), sumL_rep, rep0, getD_set_ne' (by omega), rep0]
    omega
  · have h2 : n.pipes[c].to ∉ (srch n r).order := fun h2 => h (srch_closed hb (by omega) (by omega) h2 ⟨c, hc, at', ot⟩)
    rw [sumL_set_out (fun x hx e => h (by have := hpos x hx; have : x = n.pipes[c].fr := by omega
                                          exact this ▸ hx)), sumL_set_out (fun x hx e => h2 (by have := hpos x hx; have : x = n.pipes[c].to := by omega
                                                                                                exact this ▸ hx)), sumL_rep]
theorem sup_at {n : Net} (hb : netB n = true) {c : Nat} (hc : c < n.pipes.length) (x : Nat) (hx : x < n.nodes.length) : (supOf n c).getD x 0 = - inc n.pipes[c] x := by
  obtain ⟨f0, f1, t0, t1, hne⟩ := netB_pipe hb (List.getElem_mem hc)
  unfold supOf inc
  rw [pAt_nat hc]
  by_cases e1 : n.pipes[c].fr = x
  · rw [if_pos e1, if_neg (by omega), e1, Int.toNat_natCast, getD_set_same' (by simpa using hx)]; rfl
  · rw [getD_set_ne' (by omega), if_neg e1]
    by_cases e2 : n.pipes[c].to = x
    · rw [if_pos e2, e2, Int.toNat_natCast, getD_set_same' (by simpa using hx)]; rfl
    · rw [getD_set_ne' (by omega), if_neg e2, rep0]; rfl
theorem cyI_spec {n : Net} (hb : netB n = true) {c : Nat} (hc : c < n.pipes.length) (hch : (c : Int) ∉ forest n) :
    (cyI n c).length = n.pipes.length ∧ (∀ x : Nat, x < n.nodes.length → outAt n (cyI n c) x = 0) ∧ ∀ i, i < n.pipes.length → (i : Int) ∉ forest n → (cyI n c).getD i 0 = if i = c then 1 else 0 := by
  have hl : (supOf n c).length = n.nodes.length := by simp [supOf]
  obtain ⟨h1, h2, h3⟩ := fflows_spec hb hl (fun r hr _ => sup_even hb hc hr)
  have h0 : ∀ i, i < n.pipes.length → (i : Int) ∉ forest n → (fflows n (supOf n c)).getD i 0 = 0 := fun i hi hf => by
    rcases Int.decEq ((fflows n (supOf n c)).getD i 0) 0 with h | h
    · exact absurd (h3 i hi h) hf
    · exact h
  unfold cyI
  rw [Int.toNat_natCast]
  refine ⟨by simpa using h1, fun x hx => ?_, fun i hi hf => ?_⟩
  · rw [outAt_set h1 hc, h2 x hx, h0 c hc hch, pAt_nat hc, sup_at hb hc x hx]; omega
  · by_cases e : i = c
    · subst e; rw [if_pos rfl, getD_set_same' (by omega)]
    · rw [if_neg e, getD_set_ne' (fun h => e h.symm)]; exact h0 i hi hf

/-- A pipe of the tree. -/
theorem tree_pipe {n : Net} {j : Nat} (hj : j < (treeN n).pipes.length) : ∃ q : Nat, ∃ hq : q < n.pipes.length, (forest n).getD j 0 = q ∧ (q : Int) ∈ forest n ∧ (treeN n).pipes[j] = n.pipes[q] := by
  have hj' : j < (forest n).length := by simpa [treeN] using hj
  have hm := List.getElem_mem hj'
  obtain ⟨q, e, hq, _⟩ := forest_mem.1 hm
  refine ⟨q, hq, by simpa [List.getD, hj'] using e, e ▸ hm, ?_⟩
  have : (treeN n).pipes[j] = pAt n (forest n)[j] := by simp [treeN]
  rw [this, e, pAt_nat hq]
theorem forest_get_inj {n : Net} {i j : Nat} (hi : i < (forest n).length) (hj : j < (forest n).length) (h : (forest n).getD i 0 = (forest n).getD j 0) : i = j := by
  have := List.pairwise_iff_getElem.1 (forest_sorted n)
  have h1 : (forest n).getD i 0 = (forest n)[i] := by simp [List.getD, hi]
  have h2 : (forest n).getD j 0 = (forest n)[j] := by simp [List.getD, hj]
  rcases Nat.lt_trichotomy i j with h3 | h3 | h3
  · have := this i j hi hj h3; omega
  · exact h3
  · have := this j i hj hi h3; omega
structure CsInv (n : Net) (s : Sr) (o0 : List Int) (t : Int) (d x : Nat) (st : List Int × Int) : Prop where
  at_ : st.2 = x
  len : st.1.length = n.pipes.length
  out : ∀ z : Int, outAt n st.1 z = outAt n o0 z + ((if z = t then 1 else 0) - (if z = (x : Int) then 1 else 0))
  off : ∀ i, i < n.pipes.length → (i : Int) ∉ forest n → st.1.getD i 0 = o0.getD i 0
  zero : ∀ y : Nat, (y : Int) ∈ s.order → (y : Int) ≠ t → (d : Int) < s.dist.getD y 0 → st.1.getD ((forest n).getD (s.ent.getD y 0).toNat 0).toNat 0 = 0
  bnd : ∀ i, -1 ≤ st.1.getD i 0 ∧ st.1.getD i 0 ≤ 1
theorem cs_path {n : Net} (hb : netB n = true) {t : Int} {s : Sr} (g : Good (treeN n) t s) {o0 : List Int} (hl : o0.length = n.pipes.length) (hz : ∀ i, i < n.pipes.length → (i : Int) ∈ forest n → o0.getD i 0 = 0) (hbd : ∀ i, -1 ≤ o0.getD i 0 ∧ o0.getD i 0 ≤ 1) (d : Nat) :
    ∀ x : Nat, (x : Int) ∈ s.order → s.dist.getD x 0 = d → CsInv n s o0 t d x ((pb (treeN n) s d x).reverse.foldl (csStep n) (o0, t)) := by
  have hbt := netB_tree hb
  induction d with
  | zero =>
    intro x hx hd
    have hxt := g.zero hx (by rw [Int.toNat_natCast]; exact hd)
    refine ⟨hxt.symm, hl, fun z => ?_, fun _ _ _ => rfl, fun y hy hyt _ => ?_, hbd⟩
    · rw [hxt]
      show outAt n o0 z = _
      omega
    · obtain ⟨i, hi, e1, _⟩ := g.up hy hyt
      rw [Int.toNat_natCast] at e1
      rw [e1, Int.toNat_natCast]
      obtain ⟨q, hq, e2, hqf, _⟩ := tree_pipe hi
      rw [e2, Int.toNat_natCast]
      exact hz q hq hqf
  | succ d ih =>
    intro x hx hd
    have hne : (x : Int) ≠ t := fun e => by
      have := g.d0
      rw [← e, Int.toNat_natCast] at this
      omega
    obtain ⟨i, y, e, hi, he, h1, h2, h3, h4, h5, h6⟩ := g.back hx hne hd
    obtain rfl : e = d := by omega
    have I := ih y h4 h5
    rw [h6, List.reverse_cons, List.foldl_append]
    show CsInv n s o0 t (e + 1) x (csStep n _ (i : Int))
    obtain ⟨st, hst⟩ : ∃ st, st = (pb (treeN n) s e y).reverse.foldl (csStep n) (o0, t) := ⟨_, rfl⟩
    rw [← hst] at I ⊢
    obtain ⟨q, hq, e2, hqf, e3⟩ := tree_pipe hi
    rw [e3] at h2 h3
    have hq0 : st.1.getD q 0 = 0 := by
      have := I.zero x hx hne (by omega)
      rw [h1, Int.toNat_natCast, e2, Int.toNat_natCast] at this
      exact this
    have hpp := netB_pipe hb (List.getElem_mem hq)
    have hc1 : (csStep n st i).1 = st.1.set q (if n.pipes[q].fr = (y : Int) then 1 else -1) := by
      unfold csStep
      simp only [Int.toNat_natCast, e2, pAt_nat hi, e3, I.at_]
    have hc2 : (csStep n st i).2 = n.pipes[q].fr + n.pipes[q].to - y := by
      unfold csStep
      simp only [pAt_nat hi, e3, I.at_]
    have hends := oth_ends h2
    rw [h3] at hends
    refine ⟨by rw [hc2]; omega, by rw [hc1]; simpa using I.len, fun z => ?_, fun j hj hf => ?_, fun z hz1 hz2 hz3 => ?_, fun j => ?_⟩
    · rw [hc1, outAt_set I.len hq, hq0, pAt_nat hq, I.out z, Int.add_assoc]
      congr 1
      unfold inc
      rcases hends with ⟨h7, h8⟩ | ⟨h7, h8⟩
      · have hxy : ¬ ((x : Int) = (y : Int)) := by omega
        rw [h7, h8, if_neg hxy]
        have a1 : ((x : Int) = z) ↔ z = (x : Int) := ⟨Eq.symm, Eq.symm⟩
        have a2 : ((y : Int) = z) ↔ z = (y : Int) := ⟨Eq.symm, Eq.symm⟩
        simp only [a1, a2]
        omega
      · rw [h7, h8, if_pos (rfl : (y : Int) = (y : Int))]
        have a1 : ((x : Int) = z) ↔ z = (x : Int) := ⟨Eq.symm, Eq.symm⟩
        have a2 : ((y : Int) = z) ↔ z = (y : Int) := ⟨Eq.symm, Eq.symm⟩
        simp only [a1, a2]
        omega
    · rw [hc1, getD_set_ne' (fun e => hf (by rw [← e]; exact hqf))]
      exact I.off j hj hf
    · have hzx : z ≠ x := fun e => by subst e; omega
      obtain ⟨k, hk, f1, _⟩ := g.up hz1 hz2
      rw [Int.toNat_natCast] at f1
      have hki : k ≠ i := fun e => by
        have hzr := g.rng _ hz1
        have hxr := g.rng _ hx
        exact hzx (g.ent_inj (x := z) (y := x) (by omega) (by omega) (by omega) (by omega))
      have hkl : k < (forest n).length := by simpa [treeN] using hk
      have hil : i < (forest n).length := by simpa [treeN] using hi
      have := I.zero z hz1 hz2 (by omega)
      rw [hc1, getD_set_ne']
      · exact this
      · intro e4
        apply hki
        apply forest_get_inj hkl hil
        obtain ⟨q2, _, e5, _⟩ := tree_pipe hk
        rw [f1, Int.toNat_natCast, e5, Int.toNat_natCast] at e4
        rw [e5, e2]; omega
    · rw [hc1]
      by_cases e4 : q = j
      · subst e4
        rw [getD_set_same' (by rw [I.len]; exact hq)]
        split <;> omega
      · rw [getD_set_ne' e4]; exact I.bnd j
theorem cyS_spec {n : Net} (hb : netB n = true) {c : Nat} (hc : c < n.pipes.length) (hch : (c : Int) ∉ forest n) :
    (cyS n c).length = n.pipes.length ∧ (∀ x : Nat, x < n.nodes.length → outAt n (cyS n c) x = 0) ∧ (∀ i, i < n.pipes.length → (i : Int) ∉ forest n → (cyS n c).getD i 0 = if i = c then 1 else 0) ∧ ∀ i, -1 ≤ (cyS n c).getD i 0 ∧ (cyS n c).getD i 0 ≤ 1 := by
  obtain ⟨f0, f1, t0, t1, hne⟩ := netB_pipe hb (List.getElem_mem hc)
  have hbt := netB_tree hb
  have g := good_srch hbt (v := n.pipes[c].to) t0 t1
  obtain ⟨f, hf⟩ : ∃ f : Nat, n.pipes[c].fr = f := ⟨n.pipes[c].fr.toNat, by omega⟩
  have at' : atF n.pipes[c].to n.pipes[c] = true := atF_iff.2 (Or.inr rfl)
  have ot : oth n.pipes[c] n.pipes[c].to = n.pipes[c].fr := by unfold oth; rw [if_neg hne]
  have hr : Reach (treeN n) n.pipes[c].to f := (tree_reach hb _ _).2 (by rw [← hf]; exact Reach.refl.step ⟨c, hc, at', ot⟩)
  have hm := (srch_iff hbt t0 t1 f).2 hr
  have hnn := g.nn hm
  rw [Int.toNat_natCast] at hnn
  obtain ⟨D, hD⟩ : ∃ D : Nat, (srch (treeN n) n.pipes[c].to).dist.getD f 0 = D := ⟨((srch (treeN n) n.pipes[c].to).dist.getD f 0).toNat, by omega⟩
  have hcne : ∀ i, (i : Nat) ≠ c → ((List.replicate n.pipes.length (0 : Int)).set c 1).getD i 0 = 0 := fun i h => by rw [getD_set_ne' (fun e => h e.symm), rep0]
  have hcc : ((List.replicate n.pipes.length (0 : Int)).set c 1).getD c 0 = 1 := getD_set_same' (by simpa using hc)
  have I := cs_path hb g (o0 := (List.replicate n.pipes.length 0).set c 1) (by simp) (fun i hi h => hcne i (fun e => hch (by rw [← e]; exact h))) (fun i => by
    by_cases e : i = c
    · subst e; rw [hcc]; omega
    · rw [hcne i e]; omega) D f hm hD
  have hcy : cyS n c = ((pb (treeN n) (srch (treeN n) n.pipes[c].to) D f).reverse.foldl (csStep n) ((List.replicate n.pipes.length 0).set c 1, n.pipes[c].to)).1 := by
    unfold cyS csIni pathOf
    rw [pAt_nat hc, hf, Int.toNat_natCast, Int.toNat_natCast, hD, Int.toNat_natCast]
  rw [hcy]
  refine ⟨I.len, fun x hx => ?_, fun i hi hfo => ?_, I.bnd⟩
  · rw [I.out, outAt_set (by simp) hc, outAt_zero, rep0, pAt_nat hc]
    unfold inc
    rw [hf]
    have a1 : ((x : Int) = n.pipes[c].to) ↔ n.pipes[c].to = (x : Int) := ⟨Eq.symm, Eq.symm⟩
    have a2 : ((x : Int) = (f : Int)) ↔ (f : Int) = (x : Int) := ⟨Eq.symm, Eq.symm⟩
    simp only [a1, a2]
    omega
  · rw [I.off i hi hfo]
    by_cases e : i = c
    · subst e; rw [if_pos rfl, hcc]
    · rw [if_neg e, hcne i e]
theorem cyc_eq {n : Net} (hb : netB n = true) {c : Nat} (hc : c < n.pipes.length) (hch : (c : Int) ∉ forest n) : cyI n c = cyS n c := by
  obtain ⟨h1, h2, h3⟩ := cyI_spec hb hc hch
  obtain ⟨g1, g2, g3, _⟩ := cyS_spec hb hc hch
  exact flow_eq hb h1 g1 (fun i hi hf => by rw [h3 i hi hf, g3 i hi hf]) (fun x hx => by rw [h2 x hx, g2 x hx])

end Go.Proofs.Ytdapdaadglaoiaa
