/- The spanning forest, plain. No program. -/
import Derived.Test.YtdapdaadglaoiaaBridge
namespace Go.Proofs.Ytdapdaadglaoiaa
open Go.RowKit

def isRoot (n : Net) (i : Nat) : Bool := decide ((comps n).getD i 0 = (i : Int))
def entsOf (s : Sr) : List Int := s.ent.filter (fun e => decide (0 ≤ e))
/-- The entries of the searches from the roots among the first k nodes. -/
def fRaw (n : Net) (k : Nat) : List Int := ((List.range k).filter (isRoot n)).flatMap (fun i : Nat => entsOf (srch n i))
def inF (n : Net) (i : Nat) : Bool := decide ((i : Int) ∈ fRaw n n.nodes.length)
def forest (n : Net) : List Int := ((List.range n.pipes.length).filter (inF n)).map (fun i : Nat => (i : Int))
theorem fRaw_succ (n : Net) (k : Nat) : fRaw n (k + 1) = fRaw n k ++ (if isRoot n k = true then entsOf (srch n k) else []) := by
  unfold fRaw
  rw [List.range_succ, List.filter_append, List.flatMap_append]
  congr 1
  by_cases h : isRoot n k = true <;> simp [h]

theorem Good.entry {n : Net} {v : Int} {s : Sr} (g : Good n v s) {x : Nat} (hx : x < n.nodes.length) (h : 0 ≤ s.ent.getD x 0) :
    (x : Int) ∈ s.order ∧ (x : Int) ≠ v ∧ ∃ i : Nat, ∃ hi : i < n.pipes.length, s.ent.getD x 0 = i ∧ atF x n.pipes[i] = true ∧ oth n.pipes[i] x ∈ s.order ∧ s.dist.getD x 0 = s.dist.getD (oth n.pipes[i] x).toNat 0 + 1 := by
  have h1 : 0 ≤ s.dist.getD x 0 := by
    rcases Int.lt_or_le (s.dist.getD x 0) 0 with h2 | h2
    · have := (g.un x hx h2).2; omega
    · exact h2
  have h2 : (x : Int) ∈ s.order := (g.mem x (by omega) (by omega)).1 (by rw [Int.toNat_natCast]; exact h1)
  have h3 : (x : Int) ≠ v := fun e => by
    have := g.ev
    rw [← e, Int.toNat_natCast] at this
    omega
  have h4 := g.up h2 h3
  rw [Int.toNat_natCast] at h4
  exact ⟨h2, h3, h4⟩
theorem Good.ent_inj {n : Net} {v : Int} {s : Sr} (g : Good n v s) {x y : Nat} (hx : x < n.nodes.length) (hy : y < n.nodes.length) (h : 0 ≤ s.ent.getD x 0) (he : s.ent.getD x 0 = s.ent.getD y 0) : x = y := by
  obtain ⟨_, _, i, hi, e1, a1, _, d1⟩ := g.entry hx h
  obtain ⟨_, _, j, hj, e2, a2, _, d2⟩ := g.entry hy (by omega)
  obtain rfl : i = j := by omega
  rcases Nat.decEq x y with hne | heq
  · exfalso
    have h1 : oth n.pipes[i] x = (y : Int) := by
      rcases oth_ends a1 with ⟨h3, h4⟩ | ⟨h3, h4⟩ <;> rcases atF_iff.1 a2 with h5 | h5 <;> omega
    have h2 : oth n.pipes[i] y = (x : Int) := by rw [← h1]; exact oth_oth a1
    rw [h1, Int.toNat_natCast] at d1
    rw [h2, Int.toNat_natCast] at d2
    omega
  · exact heq
theorem entsOf_mem {n : Net} {v : Int} {s : Sr} (g : Good n v s) {e : Int} : e ∈ entsOf s ↔ ∃ x : Nat, x < n.nodes.length ∧ s.ent.getD x 0 = e ∧ 0 ≤ e := by
  unfold entsOf
  rw [List.mem_filter]
  simp only [decide_eq_true_eq]
  constructor
  · rintro ⟨h1, h2⟩
    obtain ⟨x, hx, rfl⟩ := List.getElem_of_mem h1
    exact ⟨x, by rw [← g.le]; exact hx, by simp [List.getD, hx], h2⟩
  · rintro ⟨x, hx, rfl, h2⟩
    have hx' : x < s.ent.length := by rw [g.le]; exact hx
    exact ⟨by simp [List.getD, hx'], h2⟩
theorem entsOf_nodup {n : Net} {v : Int} {s : Sr} (g : Good n v s) : (entsOf s).Nodup := by
  unfold entsOf List.Nodup
  rw [List.pairwise_filter, List.pairwise_iff_getElem]
  intro i j hi hj hij h1 h2 e
  simp only [decide_eq_true_eq] at h1 h2
  have hi' : s.ent.getD i 0 = s.ent[i] := by simp [List.getD, hi]
  have hj' : s.ent.getD j 0 = s.ent[j] := by simp [List.getD, hj]
  have := g.ent_inj (x := i) (y := j) (by rw [← g.le]; exact hi) (by rw [← g.le]; exact hj) (by rw [hi']; exact h1) (by rw [hi', hj']; exact e)
  omega
/-- The root of a node. -/
def rootN (n : Net) (x : Nat) : Nat := ((comps n).getD x 0).toNat
theorem rootN_spec {n : Net} (hb : netB n = true) {x : Nat} (hx : x < n.nodes.length) : (comps n).getD x 0 = rootN n x ∧ rootN n x ≤ x ∧ isRoot n (rootN n x) = true ∧ Reach n (rootN n x) x := by
  obtain ⟨r, h1, h2, h3, _⟩ := comps_at hb x hx
  have h4 := comps_root hb x hx h2
  have : rootN n x = r := by unfold rootN; rw [h2]; rfl
  rw [this]
  exact ⟨h2, h1, by simpa [isRoot] using h4, h3⟩
theorem root_unique {n : Net} (hb : netB n = true) {r x : Nat} (hr : r < n.nodes.length) (hx : x < n.nodes.length) (h : isRoot n r = true) (h2 : Reach n r x) : rootN n x = r := by
  have h3 := (comps_eq_iff hb r x hr hx).2 h2
  unfold isRoot at h
  simp only [decide_eq_true_eq] at h
  unfold rootN
  rw [← h3, h]
  rfl
theorem fRaw_mem {n : Net} (hb : netB n = true) {e : Int} : e ∈ fRaw n n.nodes.length ↔ ∃ x : Nat, x < n.nodes.length ∧ isRoot n x = false ∧ (srch n (rootN n x)).ent.getD x 0 = e ∧ 0 ≤ e := by
  unfold fRaw
  simp only [List.mem_flatMap, List.mem_filter, List.mem_range]
  constructor
  · rintro ⟨r, ⟨h1, h2⟩, h3⟩
    have g := good_srch hb (v := (r : Int)) (by omega) (by omega)
    obtain ⟨x, hx, e1, e2⟩ := (entsOf_mem g).1 h3
    obtain ⟨hm, hne, _⟩ := g.entry hx (by omega)
    have hr := root_unique hb h1 hx h2 ((srch_iff hb (by omega) (by omega) x).1 hm)
    refine ⟨x, hx, ?_, by rw [hr]; exact e1, e2⟩
    cases hc : isRoot n x
    · rfl
    · exfalso
      have h4 := root_unique hb hx hx hc .refl
      omega
  · rintro ⟨x, hx, _, e1, e2⟩
    obtain ⟨h1, h2, h3, h4⟩ := rootN_spec hb hx
    have g := good_srch hb (v := (rootN n x : Int)) (by omega) (by omega)
    exact ⟨rootN n x, ⟨by omega, h3⟩, (entsOf_mem g).2 ⟨x, hx, e1, e2⟩⟩
/-- A node that is no root has an entry. -/
theorem entry_pos {n : Net} (hb : netB n = true) {x : Nat} (hx : x < n.nodes.length) (h : isRoot n x = false) :
    ∃ i : Nat, ∃ hi : i < n.pipes.length, (srch n (rootN n x)).ent.getD x 0 = i ∧ atF x n.pipes[i] = true ∧ oth n.pipes[i] x ∈ (srch n (rootN n x)).order ∧ (srch n (rootN n x)).dist.getD x 0 = (srch n (rootN n x)).dist.getD (oth n.pipes[i] x).toNat 0 + 1 := by
  obtain ⟨h1, h2, h3, h4⟩ := rootN_spec hb hx
  have g := good_srch hb (v := (rootN n x : Int)) (by omega) (by omega)
  have hm := (srch_iff hb (v := (rootN n x : Int)) (by omega) (by omega) x).2 h4
  have hne : (x : Int) ≠ rootN n x := fun e => by
    have : rootN n x = x := by omega
    rw [this, h] at h3
    cases h3
  have := g.up hm hne
  rw [Int.toNat_natCast] at this
  exact this
theorem ent_inj_all {n : Net} (hb : netB n = true) {x y : Nat} (hx : x < n.nodes.length) (hy : y < n.nodes.length) (h1 : isRoot n x = false) (h2 : isRoot n y = false) (he : (srch n (rootN n x)).ent.getD x 0 = (srch n (rootN n y)).ent.getD y 0) : x = y := by
  obtain ⟨i, hi, e1, a1, m1, d1⟩ := entry_pos hb hx h1
  obtain ⟨j, hj, e2, a2, m2, d2⟩ := entry_pos hb hy h2
  obtain rfl : i = j := by omega
  obtain ⟨_, b2, _, b4⟩ := rootN_spec hb hx
  obtain ⟨c1, c2, c3, c4⟩ := rootN_spec hb hy
  have hxy : Reach n x y := by
    by_cases e : (x : Int) = y
    · rw [e]; exact .refl
    · have : oth n.pipes[i] x = (y : Int) := by rcases oth_ends a1 with ⟨h3, h4⟩ | ⟨h3, h4⟩ <;> rcases atF_iff.1 a2 with h5 | h5 <;> omega
      exact Reach.refl.step ⟨i, hi, a1, this⟩
  have hr : rootN n x = rootN n y := root_unique hb (by omega) hx c3 (c4.trans hxy.symm)
  rw [← hr] at he
  have g := good_srch hb (v := (rootN n x : Int)) (by omega) (by omega)
  exact g.ent_inj hx hy (by omega) he
theorem fRaw_nodup {n : Net} (hb : netB n = true) : (fRaw n n.nodes.length).Nodup := by
  unfold fRaw List.Nodup
  rw [List.pairwise_flatMap]
  refine ⟨fun r hr => ?_, ?_⟩
  · simp only [List.mem_filter, List.mem_range] at hr
    exact entsOf_nodup (good_srch hb (v := (r : Int)) (by omega) (by omega))
  · rw [List.pairwise_filter]
    refine List.Pairwise.imp_of_mem ?_ List.pairwise_lt_range
    intro a b ha hb' hab ra rb x hx y hy e
    have ha := List.mem_range.1 ha
    have hb'' := List.mem_range.1 hb'
    have ga := good_srch hb (v := (a : Int)) (by omega) (by omega)
    have gb := good_srch hb (v := (b : Int)) (by omega) (by omega)
    obtain ⟨p, hp, e1, e2⟩ := (entsOf_mem ga).1 hx
    obtain ⟨q, hq, e3, e4⟩ := (entsOf_mem gb).1 hy
    obtain ⟨ma, na, _⟩ := ga.entry hp (by omega)
    obtain ⟨mb, nb, _⟩ := gb.entry hq (by omega)
    have r1 := root_unique hb ha hp ra ((srch_iff hb (by omega) (by omega) p).1 ma)
    have r2 := root_unique hb hb'' hq rb ((srch_iff hb (by omega) (by omega) q).1 mb)
    have n1 : isRoot n p = false := by
      cases hc : isRoot n p
      · rfl
      · exfalso; have := root_unique hb hp hp hc .refl; omega
    have n2 : isRoot n q = false := by
      cases hc : isRoot n q
      · rfl
      · exfalso; have := root_unique hb hq hq hc .refl; omega
    have := ent_inj_all hb hp hq n1 n2 (by rw [r1, r2]; omega)
    subst this
    omega
theorem fRaw_rng {n : Net} (hb : netB n = true) {e : Int} (h : e ∈ fRaw n n.nodes.length) : ∃ i : Nat, e = i ∧ i < n.pipes.length := by
  obtain ⟨x, hx, h1, h2, _⟩ := (fRaw_mem hb).1 h
  obtain ⟨i, hi, e1, _⟩ := entry_pos hb hx h1
  exact ⟨i, by omega, hi⟩
theorem forest_mem {n : Net} {e : Int} : e ∈ forest n ↔ ∃ i : Nat, e = i ∧ i < n.pipes.length ∧ e ∈ fRaw n n.nodes.length := by
  unfold forest inF
  simp only [List.mem_map, List.mem_filter, List.mem_range, decide_eq_true_eq]
  constructor
  · rintro ⟨i, ⟨h1, h2⟩, rfl⟩; exact ⟨i, rfl, h1, h2⟩
  · rintro ⟨i, rfl, h1, h2⟩; exact ⟨i, ⟨h1, h2⟩, rfl⟩
theorem forest_sorted (n : Net) : (forest n).Pairwise (fun a b => a < b) := by
  unfold forest
  rw [List.pairwise_map, List.pairwise_filter]
  exact List.Pairwise.imp (fun h _ _ => by omega) List.pairwise_lt_range
theorem forest_nodup (n : Net) : (forest n).Nodup := (forest_sorted n).imp (fun h => by omega)
theorem forest_perm {n : Net} (hb : netB n = true) : (fRaw n n.nodes.length).Perm (forest n) := by
  rw [List.perm_ext_iff_of_nodup (fRaw_nodup hb) (forest_nodup n)]
  intro e
  rw [forest_mem]
  constructor
  · intro h
    obtain ⟨i, h1, h2⟩ := fRaw_rng hb h
    exact ⟨i, h1, h2, h⟩
  · rintro ⟨_, _, _, h⟩; exact h
/-- Sorted, the entries are the forest. -/
theorem forest_of_sorted {n : Net} (hb : netB n = true) {L : List Int} (hs : L.Pairwise (fun a b => a ≤ b)) (hp : L.Perm (fRaw n n.nodes.length)) : L = forest n :=
  List.Perm.eq_of_pairwise (le := fun a b : Int => a ≤ b) (fun a b _ _ h1 h2 => by omega) hs ((forest_sorted n).imp (fun h => by omega)) (hp.trans (forest_perm hb))
theorem fRaw_len {n : Net} (hb : netB n = true) : (fRaw n n.nodes.length).length + rootsTo (comps n) n.nodes.length = n.nodes.length := by
  have hp : (fRaw n n.nodes.length).Perm (((List.range n.nodes.length).filter (fun x => decide ¬ isRoot n x = true)).map (fun x => (srch n (rootN n x)).ent.getD x 0)) := by
    rw [List.perm_ext_iff_of_nodup (fRaw_nodup hb)]
    · intro e
      rw [fRaw_mem hb]
      simp only [List.mem_map, List.mem_filter, List.mem_range, decide_eq_true_eq, Bool.not_eq_true]
      constructor
      · rintro ⟨x, h1, h2, h3, _⟩; exact ⟨x, ⟨h1, h2⟩, h3⟩
      · rintro ⟨x, ⟨h1, h2⟩, h3⟩
        obtain ⟨i, hi, e1, _⟩ := entry_pos hb h1 h2
        exact ⟨x, h1, h2, h3, by omega⟩
    · unfold List.Nodup
      rw [List.pairwise_map, List.pairwise_filter]
      refine List.Pairwise.imp_of_mem ?_ List.pairwise_lt_range
      intro a b ha hb' hab h1 h2 e
      simp only [Bool.not_eq_true, decide_eq_true_eq] at h1 h2
      have := ent_inj_all hb (List.mem_range.1 ha) (List.mem_range.1 hb') h1 h2 e
      omega
  rw [hp.length_eq, List.length_map, ← List.countP_eq_length_filter]
  have := List.length_eq_countP_add_countP (isRoot n) (l := List.range n.nodes.length)
  rw [List.length_range] at this
  unfold rootsTo
  unfold isRoot at this ⊢
  omega
theorem forest_len {n : Net} (hb : netB n = true) : (forest n).length + rootsTo (comps n) n.nodes.length = n.nodes.length := by
  rw [← (forest_perm hb).length_eq]; exact fRaw_len hb
/-- The network with the forest's pipes alone. -/
def treeN (n : Net) : Net := ⟨n.nodes, (forest n).map (pAt n)⟩
theorem treeN_sub {n : Net} {p : Pp} (h : p ∈ (treeN n).pipes) : p ∈ n.pipes := by
  obtain ⟨e, he, rfl⟩ := List.mem_map.1 h
  obtain ⟨i, rfl, h1, _⟩ := forest_mem.1 he
  rw [pAt_nat h1]
  exact List.getElem_mem h1
theorem forest_le (n : Net) : (forest n).length ≤ n.pipes.length := by
  unfold forest
  rw [List.length_map]
  exact Nat.le_trans (List.length_filter_le _ _) (by simp)
theorem netB_tree {n : Net} (hb : netB n = true) : netB (treeN n) = true :=
  netB_sub hb rfl (by simp only [treeN, List.length_map]; exact forest_le n) (fun _ h => treeN_sub h)
theorem forest_entry {n : Net} (hb : netB n = true) {r : Nat} (hr : r < n.nodes.length) (hroot : isRoot n r = true) {x : Nat} (hx : x < n.nodes.length) {i : Nat} (he : (srch n r).ent.getD x 0 = i) : (i : Int) ∈ forest n := by
  have g := good_srch hb (v := (r : Int)) (by omega) (by omega)
  have h : (i : Int) ∈ fRaw n n.nodes.length := by
    unfold fRaw
    simp only [List.mem_flatMap, List.mem_filter, List.mem_range]
    exact ⟨r, ⟨hr, hroot⟩, (entsOf_mem g).2 ⟨x, hx, he, by omega⟩⟩
  obtain ⟨j, h1, h2⟩ := fRaw_rng hb h
  exact forest_mem.2 ⟨j, h1, h2, h⟩
theorem tree_reach_root {n : Net} (hb : netB n = true) {r : Nat} (hr : r < n.nodes.length) (hroot : isRoot n r = true) {x : Int} (h : x ∈ (srch n r).order) : Reach (treeN n) r x := by
  have g := good_srch hb (v := (r : Int)) (by omega) (by omega)
  obtain ⟨k, hk, rfl⟩ := List.getElem_of_mem h
  clear h
  induction k using Nat.strongRecOn with
  | _ k ih =>
    rcases Nat.eq_zero_or_pos k with rfl | h
    · rw [g.head]; exact .refl
    · obtain ⟨i, e1, hi, h3, j, hj, hjk, h5, _⟩ := g.tree k hk h
      have hrg := g.rng _ (List.getElem_mem hk)
      have hf := forest_entry hb hr hroot (x := (srch n r).order[k].toNat) (by omega) e1
      have hm : n.pipes[i] ∈ (treeN n).pipes := List.mem_map.2 ⟨i, hf, pAt_nat hi⟩
      have := Adj.of_mem hm h3
      rw [h5] at this
      exact (ih j hjk hj).step this.symm
theorem tree_reach {n : Net} (hb : netB n = true) (u v : Int) : Reach (treeN n) u v ↔ Reach n u v := by
  refine ⟨fun h => h.sub (fun _ h => treeN_sub h), fun h => ?_⟩
  induction h with
  | refl => exact .refl
  | @step v x _ a ih =>
    refine ih.trans ?_
    obtain ⟨k, hk, h1, rfl⟩ := a
    obtain ⟨r1, r2, r3, r4, _⟩ := oth_rng hb hk h1
    obtain ⟨m, hm⟩ : ∃ m : Nat, v = m := ⟨v.toNat, by omega⟩
    have hm' : m < n.nodes.length := by omega
    obtain ⟨_, h3, h4, h5⟩ := rootN_spec hb hm'
    rw [← hm] at h5
    have s1 := (srch_iff hb (v := (rootN n m : Int)) (by omega) (by omega) v).2 h5
    have s2 := (srch_iff hb (v := (rootN n m : Int)) (by omega) (by omega) (oth n.pipes[k] v)).2 (h5.step ⟨k, hk, h1, rfl⟩)
    exact (tree_reach_root hb (by omega) h4 s1).symm.trans (tree_reach_root hb (by omega) h4 s2)
theorem tree_comps {n : Net} (hb : netB n = true) : comps (treeN n) = comps n := comps_congr' hb (netB_tree hb) rfl (fun u v => (tree_reach hb u v).symm)

end Go.Proofs.Ytdapdaadglaoiaa
