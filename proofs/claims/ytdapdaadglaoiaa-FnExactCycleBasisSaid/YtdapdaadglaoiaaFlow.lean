/- Flows, plain: a balanced flow on the forest is 0. No program. -/
import Derived.Test.YtdapdaadglaoiaaForest
namespace Go.Proofs.Ytdapdaadglaoiaa
open Go.RowKit

theorem sum_upd (m : Nat) (g g' : Nat → Int) (i : Nat) (hi : i < m) (h : ∀ j, j ≠ i → g' j = g j) : ((List.range m).map g').sum = ((List.range m).map g).sum + (g' i - g i) := by
  induction m with
  | zero => omega
  | succ m ih =>
    rw [List.range_succ, List.map_append, List.map_append, List.sum_append, List.sum_append]
    simp only [List.map_cons, List.map_nil, List.sum_cons, List.sum_nil]
    by_cases e : i = m
    · subst e
      have : (List.range i).map g' = (List.range i).map g := List.map_congr_left (fun j hj => h j (by have := List.mem_range.1 hj; omega))
      rw [this]; omega
    · rw [ih (by omega), h m (fun h => e h.symm)]; omega
theorem sum_zero (m : Nat) (g : Nat → Int) (h : ∀ j, j < m → g j = 0) : ((List.range m).map g).sum = 0 := by
  induction m with
  | zero => rfl
  | succ m ih =>
    rw [List.range_succ, List.map_append, List.sum_append, ih (fun j hj => h j (by omega))]
    simp [h m (by omega)]
theorem sum_single (m : Nat) (g : Nat → Int) (i : Nat) (hi : i < m) (h : ∀ j, j < m → j ≠ i → g j = 0) : ((List.range m).map g).sum = g i := by
  induction m with
  | zero => omega
  | succ m ih =>
    rw [List.range_succ, List.map_append, List.sum_append]
    simp only [List.map_cons, List.map_nil, List.sum_cons, List.sum_nil]
    by_cases e : i = m
    · subst e
      rw [sum_zero i g (fun j hj => h j (by omega) (by omega))]; omega
    · rw [ih (by omega) (fun j hj hne => h j (by omega) hne), h m (by omega) (fun h => e h.symm)]; omega
theorem sum_add (m : Nat) (g g' : Nat → Int) : ((List.range m).map (fun i => g i + g' i)).sum = ((List.range m).map g).sum + ((List.range m).map g').sum := by
  induction m with
  | zero => rfl
  | succ m ih =>
    rw [List.range_succ, List.map_append, List.map_append, List.map_append, List.sum_append, List.sum_append, List.sum_append, ih]
    simp; omega

def inc (p : Pp) (x : Int) : Int := (if p.fr = x then 1 else 0) - (if p.to = x then 1 else 0)
/-- What flows out of x more than into it. -/
def outAt (n : Net) (f : List Int) (x : Int) : Int := ((List.range n.pipes.length).map (fun i => f.getD i 0 * inc (pAt n i) x)).sum
theorem outAt_set {n : Net} {f : List Int} (hl : f.length = n.pipes.length) {i : Nat} (hi : i < n.pipes.length) (v x : Int) : outAt n (f.set i v) x = outAt n f x + (v - f.getD i 0) * inc (pAt n i) x := by
  unfold outAt
  rw [sum_upd n.pipes.length (fun i => f.getD i 0 * inc (pAt n i) x) _ i hi (fun j hj => by rw [getD_set_ne' (fun e => hj e.symm)]), getD_set_same' (by omega), Int.sub_mul]
theorem outAt_zero (n : Net) (m : Nat) (x : Int) : outAt n (List.replicate m 0) x = 0 := by
  unfold outAt
  refine sum_zero _ _ (fun j _ => ?_)
  have : (List.replicate m (0 : Int)).getD j 0 = 0 := by
    simp only [List.getD, List.getElem?_replicate]
    split <;> rfl
  rw [this, Int.zero_mul]
theorem inc_ne {p : Pp} {x : Int} (h : atF x p = false) : inc p x = 0 := by
  have : ¬ (p.fr = x ∨ p.to = x) := fun e => by rw [atF_iff.2 e] at h; cases h
  unfold inc
  rw [if_neg (fun e => this (Or.inl e)), if_neg (fun e => this (Or.inr e))]; rfl
theorem inc_at {p : Pp} {x : Int} (h : atF x p = true) (hne : p.fr ≠ p.to) : inc p x ≠ 0 := by
  unfold inc
  rcases atF_iff.1 h with h | h
  · rw [if_pos h, if_neg (fun e => hne (by omega))]; decide
  · rw [if_pos h, if_neg (fun e => hne (by omega))]; decide

/-- The entry of a node in the search from its root. -/
def entN (n : Net) (x : Nat) : Nat := ((srch n (rootN n x)).ent.getD x 0).toNat
def dep (n : Net) (x : Nat) : Int := (srch n (rootN n x)).dist.getD x 0
theorem entN_spec {n : Net} (hb : netB n = true) {x : Nat} (hx : x < n.nodes.length) (h : isRoot n x = false) :
    ∃ hi : entN n x < n.pipes.length, (srch n (rootN n x)).ent.getD x 0 = entN n x ∧ (entN n x : Int) ∈ forest n ∧ atF x n.pipes[entN n x] = true ∧
      ∃ y : Nat, y < n.nodes.length ∧ oth n.pipes[entN n x] x = y ∧ rootN n y = rootN n x ∧ dep n x = dep n y + 1 := by
  obtain ⟨i, hi, e1, a1, m1, d1⟩ := entry_pos hb hx h
  obtain ⟨h1, h2, h3, h4⟩ := rootN_spec hb hx
  have g := good_srch hb (v := (rootN n x : Int)) (by omega) (by omega)
  have he : entN n x = i := by unfold entN; rw [e1]; rfl
  rw [he]
  have hr := g.rng _ m1
  obtain ⟨y, hy⟩ : ∃ y : Nat, oth n.pipes[i] x = y := ⟨(oth n.pipes[i] x).toNat, by omega⟩
  rw [hy] at m1 d1 hr
  rw [Int.toNat_natCast] at d1
  have hroot : rootN n y = rootN n x := root_unique hb (by omega) (by omega) h3 ((srch_iff hb (by omega) (by omega) y).1 m1)
  refine ⟨hi, e1, forest_entry hb (by omega) h3 hx e1, a1, y, by omega, hy, hroot, ?_⟩
  unfold dep
  rw [hroot]
  exact d1
theorem entN_inj {n : Net} (hb : netB n = true) {x y : Nat} (hx : x < n.nodes.length) (hy : y < n.nodes.length) (h1 : isRoot n x = false) (h2 : isRoot n y = false) (he : entN n x = entN n y) : x = y := by
  obtain ⟨_, e1, _⟩ := entN_spec hb hx h1
  obtain ⟨_, e2, _⟩ := entN_spec hb hy h2
  exact ent_inj_all hb hx hy h1 h2 (by rw [e1, e2, he])
theorem forest_node {n : Net} (hb : netB n = true) {i : Nat} (h : (i : Int) ∈ forest n) : ∃ x : Nat, x < n.nodes.length ∧ isRoot n x = false ∧ entN n x = i := by
  obtain ⟨_, _, _, h⟩ := forest_mem.1 h
  obtain ⟨x, hx, h1, h2, _⟩ := (fRaw_mem hb).1 h
  exact ⟨x, hx, h1, by unfold entN; rw [h2]; rfl⟩
/-- A flow on the forest that is balanced everywhere is 0. -/
theorem flow_unique {n : Net} (hb : netB n = true) {h : Nat → Int} (hs : ∀ i, i < n.pipes.length → h i ≠ 0 → (i : Int) ∈ forest n)
    (h0 : ∀ x : Nat, x < n.nodes.length → ((List.range n.pipes.length).map (fun i => h i * inc (pAt n i) x)).sum = 0) : ∀ i, i < n.pipes.length → h i = 0 := by
  have key : ∀ m x : Nat, x < n.nodes.length → isRoot n x = false → (n.nodes.length : Int) ≤ dep n x + m → h (entN n x) = 0 := by
    intro m
    induction m with
    | zero =>
      intro x hx _ hd
      exfalso
      obtain ⟨h1, h2, h3, h4⟩ := rootN_spec hb hx
      have g := good_srch hb (v := (rootN n x : Int)) (by omega) (by omega)
      have := g.hi x
      have := g.le_nodes
      unfold dep at hd
      omega
    | succ m ih =>
      intro x hx hr hd
      obtain ⟨hi, e1, hf, a1, y, hy, hoy, hry, hdy⟩ := entN_spec hb hx hr
      have hsum := h0 x hx
      have hz : ∀ j, j < n.pipes.length → j ≠ entN n x → h j * inc (pAt n j) x = 0 := by
        intro j hj hne
        by_cases hh : h j = 0
        · rw [hh, Int.zero_mul]
        · obtain ⟨z, hz, hzr, hze⟩ := forest_node hb (hs j hj hh)
          obtain ⟨hi2, e2, hf2, a2, u, hu, hou, hru, hdu⟩ := entN_spec hb hz hzr
          subst hze
          rw [pAt_nat hj]
          cases ha : atF (x : Int) n.pipes[entN n z]
          · rw [inc_ne ha, Int.mul_zero]
          · exfalso
            have hzx : z ≠ x := fun e => hne (by rw [e])
            have : oth n.pipes[entN n z] z = (x : Int) := by
              rcases oth_ends a2 with ⟨h3, h4⟩ | ⟨h3, h4⟩ <;> rcases atF_iff.1 ha with h5 | h5 <;> omega
            obtain rfl : u = x := by omega
            exact hh (ih z hz hzr (by omega))
      rw [sum_single n.pipes.length (fun i => h i * inc (pAt n i) x) (entN n x) hi hz, pAt_nat hi] at hsum
      have hp := netB_pipe hb (List.getElem_mem hi)
      exact (Int.mul_eq_zero.1 hsum).resolve_right (inc_at a1 hp.2.2.2.2)
  intro i hi
  by_cases hh : h i = 0
  · exact hh
  · obtain ⟨x, hx, hr, rfl⟩ := forest_node hb (hs i hi hh)
    obtain ⟨h1, h2, h3, h4⟩ := rootN_spec hb hx
    have g := good_srch hb (v := (rootN n x : Int)) (by omega) (by omega)
    have := g.nn ((srch_iff hb (by omega) (by omega) x).2 h4)
    rw [Int.toNat_natCast] at this
    exact key n.nodes.length x hx hr (by unfold dep; omega)
/-- Two flows that are the same off the forest and have the same outflows are the same. -/
theorem flow_eq {n : Net} (hb : netB n = true) {f g : List Int} (hf : f.length = n.pipes.length) (hg : g.length = n.pipes.length)
    (ho : ∀ i, i < n.pipes.length → (i : Int) ∉ forest n → f.getD i 0 = g.getD i 0) (hs : ∀ x : Nat, x < n.nodes.length → outAt n f x = outAt n g x) : f = g := by
  have h1 := flow_unique hb (h := fun i => f.getD i 0 + (-1) * g.getD i 0) (fun i hi h => by
    rcases Classical.em ((i : Int) ∈ forest n) with h2 | h2
    · exact h2
    · exfalso; apply h; have := ho i hi h2; omega) (fun x hx => by
    have e : ∀ i : Nat, (f.getD i 0 + (-1) * g.getD i 0) * inc (pAt n i) x = f.getD i 0 * inc (pAt n i) x + (-1) * (g.getD i 0 * inc (pAt n i) x) := fun i => by rw [Int.add_mul, Int.mul_assoc]
    have e2 : ∀ m : Nat, ((List.range m).map (fun i => (-1) * (g.getD i 0 * inc (pAt n i) x))).sum = - ((List.range m).map (fun i => g.getD i 0 * inc (pAt n i) x)).sum := by
      intro m
      induction m with
      | zero => rfl
      | succ m ih => rw [List.range_succ, List.map_append, List.map_append, List.sum_append, List.sum_append, ih]; simp; omega
    have := hs x hx
    unfold outAt at this
    simp only [e]
    rw [sum_add, e2, this]
    omega)
  apply List.ext_getElem
  · omega
  · intro i h2 h3
    have := h1 i (by omega)
    simp only [List.getD, h2, h3, List.getElem?_eq_getElem, Option.getD_some] at this
    omega

end Go.Proofs.Ytdapdaadglaoiaa
