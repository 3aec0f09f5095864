/- Reachability, plain: what a search visits; what the components are. No program. -/
import Derived.Test.YtdapdaadglaoiaaComp
namespace Go.Proofs.Ytdapdaadglaoiaa
open Go.RowKit

def Adj (n : Net) (u v : Int) : Prop := ∃ k, ∃ hk : k < n.pipes.length, atF u n.pipes[k] = true ∧ oth n.pipes[k] u = v
theorem Adj.symm {n : Net} {u v : Int} (h : Adj n u v) : Adj n v u := by
  obtain ⟨k, hk, h1, rfl⟩ := h
  exact ⟨k, hk, oth_at h1, oth_oth h1⟩
inductive Reach (n : Net) (u : Int) : Int → Prop
  | refl : Reach n u u
  | step {v x : Int} : Reach n u v → Adj n v x → Reach n u x
theorem Reach.trans {n : Net} {u v x : Int} (h : Reach n u v) (k : Reach n v x) : Reach n u x := by
  induction k with
  | refl => exact h
  | step _ a ih => exact ih.step a
theorem Reach.symm {n : Net} {u v : Int} (h : Reach n u v) : Reach n v u := by
  induction h with
  | refl => exact .refl
  | step _ a ih => exact ((Reach.refl).step a.symm).trans ih

theorem relax_mem {n : Net} (hb : netB n = true) {v u : Int} {s : Sr} (g : Good n v s) {k : Nat} (hk : k < n.pipes.length) (ha : atF u n.pipes[k] = true) : oth n.pipes[k] u ∈ (relax n u s k).order := by
  obtain ⟨r1, r2, _⟩ := oth_rng hb hk ha
  unfold relax
  rw [pAt_nat hk]
  split
  · simp
  · next h => exact (g.mem _ r1 r2).1 (by omega)
theorem fold_mem {n : Net} (hb : netB n = true) {v u : Int} (L : List Int) {s : Sr} (g : Good n v s) (hu : u ∈ s.order) (hL : ∀ i ∈ L, i ∈ pipesOf n u) : ∀ i ∈ L, oth (pAt n i) u ∈ (L.foldl (relax n u) s).order := by
  induction L generalizing s with
  | nil => intro i hi; cases hi
  | cons a L ih =>
    obtain ⟨k, rfl, hk, ha⟩ := pipesOf_mem (hL a (by simp))
    have g' := good_relax hb g hu hk ha
    have hu' := (relax_pre n u s k).subset hu
    intro i hi
    rcases List.mem_cons.1 hi with rfl | hi
    · rw [pAt_nat hk]
      exact (fold_pre n u L _).subset (relax_mem hb g hk ha)
    · exact ih g' hu' (fun i hi => hL i (by simp [hi])) i hi
theorem iter_scanned {n : Net} (hb : netB n = true) {v : Int} (h0 : 0 ≤ v) (h1 : v < n.nodes.length) (k : Nat) :
    ∀ j (hj : j < (sIter n v k).order.length), j < k → ∀ i ∈ pipesOf n (sIter n v k).order[j], oth (pAt n i) (sIter n v k).order[j] ∈ (sIter n v k).order := by
  induction k with
  | zero => intro j _ h; omega
  | succ k ih =>
    have g := good_iter hb h0 h1 k
    by_cases hk : k < (sIter n v k).order.length
    · have e : sIter n v (k + 1) = scan n ((sIter n v k).order.getD k 0) (sIter n v k) := by rw [sIter, if_pos hk]
      have hg : (sIter n v k).order.getD k 0 = (sIter n v k).order[k] := by simp [List.getD, hk]
      rw [hg] at e
      have hp := fold_pre n (sIter n v k).order[k] (pipesOf n (sIter n v k).order[k]) (sIter n v k)
      have hf := fold_mem hb (pipesOf n (sIter n v k).order[k]) g (List.getElem_mem hk) (fun _ h => h)
      rw [e]
      unfold scan
      intro j hj hjk i hi
      rcases (by omega : j < k ∨ j = k) with h | rfl
      · obtain ⟨h2, h3⟩ := pre_get hp (k := j) (by omega)
        simp only [h3] at hi ⊢
        exact hp.subset (ih j (by omega) h i hi)
      · obtain ⟨h2, h3⟩ := pre_get hp hk
        simp only [h3] at hi ⊢
        exact hf i hi
    · have e : sIter n v (k + 1) = sIter n v k := by rw [sIter, if_neg hk]
      simp only [e]
      intro j hj _ i hi
      exact ih j hj (by omega) i hi
theorem srch_closed {n : Net} (hb : netB n = true) {v : Int} (h0 : 0 ≤ v) (h1 : v < n.nodes.length) {u x : Int} (hu : u ∈ (srch n v).order) (ha : Adj n u x) : x ∈ (srch n v).order := by
  obtain ⟨k, hk, h2, rfl⟩ := ha
  obtain ⟨j, hj, rfl⟩ := List.getElem_of_mem hu
  have hle := (good_srch hb h0 h1).le_nodes
  have := iter_scanned hb h0 h1 n.nodes.length j hj (Nat.lt_of_lt_of_le hj hle) k (pipesOf_mk hk h2)
  rw [pAt_nat hk] at this
  exact this
theorem srch_iff {n : Net} (hb : netB n = true) {v : Int} (h0 : 0 ≤ v) (h1 : v < n.nodes.length) (x : Int) : x ∈ (srch n v).order ↔ Reach n v x := by
  have g := good_srch hb h0 h1
  constructor
  · intro h
    obtain ⟨k, hk, rfl⟩ := List.getElem_of_mem h
    clear h
    induction k using Nat.strongRecOn with
    | _ k ih =>
      rcases Nat.eq_zero_or_pos k with rfl | h
      · rw [g.head]; exact .refl
      · obtain ⟨i, _, hi, h3, j, hj, hjk, h5, _⟩ := g.tree k hk h
        exact (ih j hjk hj).step (Adj.symm ⟨i, hi, h3, h5⟩)
  · intro h
    induction h with
    | refl => exact g.vmem
    | step _ a ih => exact srch_closed hb h0 h1 ih a
theorem reach_rng {n : Net} (hb : netB n = true) {v x : Int} (h0 : 0 ≤ v) (h1 : v < n.nodes.length) (h : Reach n v x) : 0 ≤ x ∧ x < n.nodes.length :=
  (good_srch hb h0 h1).rng x ((srch_iff hb h0 h1 x).2 h)

theorem paint_get (i : Int) (L C : List Int) (hL : ∀ x ∈ L, 0 ≤ x) (x : Nat) (hx : x < C.length) : (paint i L C).getD x 0 = if (x : Int) ∈ L then i else C.getD x 0 := by
  induction L generalizing C with
  | nil => simp [paint]
  | cons a L ih =>
    have ha := hL a (by simp)
    show (paint i L (C.set a.toNat i)).getD x 0 = _
    rw [ih (C.set a.toNat i) (fun y hy => hL y (List.mem_cons_of_mem _ hy)) (by simpa using hx)]
    by_cases h1 : (x : Int) ∈ L
    · rw [if_pos h1, if_pos (by simp [h1])]
    · rw [if_neg h1]
      by_cases h2 : (x : Int) = a
      · rw [if_pos (by simp [h2]), ← h2, Int.toNat_natCast, getD_set_same' hx]
      · rw [if_neg (by simp [h1, h2]), getD_set_ne' (by omega)]

/-- What the components' list says when the searches from the first k nodes are done. -/
def CInv (n : Net) (k : Nat) (C : List Int) : Prop := ∀ x : Nat, x < n.nodes.length →
  (C.getD x 0 = -1 ∧ ∀ y : Nat, y < k → ¬ Reach n y x) ∨ (∃ r : Nat, r < k ∧ C.getD x 0 = r ∧ Reach n r x ∧ ∀ y : Nat, y < r → ¬ Reach n y x)
theorem cinv_iter {n : Net} (hb : netB n = true) (k : Nat) (hk : k ≤ n.nodes.length) : CInv n k (compIter n k) := by
  induction k with
  | zero =>
    intro x hx
    left
    exact ⟨by simp [compIter, List.getD, hx], fun y h => by omega⟩
  | succ k ih =>
    have ih := ih (by omega)
    have hl := compIter_len n k
    rw [compIter, compStep]
    split
    next hneg =>
      have hk0 : ∀ y : Nat, y < k → ¬ Reach n y k := by
        rcases ih k (by omega) with h | ⟨r, _, h, _⟩
        · exact h.2
        · omega
      have hso := srch_iff hb (v := (k : Int)) (by omega) (by omega)
      have hrg := (good_srch hb (v := (k : Int)) (by omega) (by omega)).rng
      intro x hx
      rw [paint_get _ _ _ (fun y hy => (hrg y hy).1) x (by omega)]
      by_cases hx2 : (x : Int) ∈ (srch n k).order
      · rw [if_pos hx2]
        have hr := (hso x).1 hx2
        exact Or.inr ⟨k, by omega, rfl, hr, fun y hy hyx => hk0 y hy (hyx.trans hr.symm)⟩
      · rw [if_neg hx2]
        rcases ih x hx with ⟨h1, h2⟩ | ⟨r, h1, h2⟩
        · refine Or.inl ⟨h1, fun y hy => ?_⟩
          rcases (by omega : y < k ∨ y = k) with h | rfl
          · exact h2 y h
          · exact fun h => hx2 ((hso x).2 h)
        · exact Or.inr ⟨r, by omega, h2⟩
    next hneg =>
      intro x hx
      rcases ih x hx with ⟨h1, h2⟩ | ⟨r, h1, h2⟩
      · refine Or.inl ⟨h1, fun y hy => ?_⟩
        rcases (by omega : y < k ∨ y = k) with h | rfl
        · exact h2 y h
        · rcases ih y (by omega) with ⟨h3, _⟩ | ⟨r, h3, _, h4, _⟩
          · omega
          · exact fun h => h2 r h3 (h4.trans h)
      · exact Or.inr ⟨r, by omega, h2⟩
/-- The entry of a node: the least node that is connected with it. -/
theorem comps_at {n : Net} (hb : netB n = true) (x : Nat) (hx : x < n.nodes.length) : ∃ r : Nat, r ≤ x ∧ (comps n).getD x 0 = r ∧ Reach n r x ∧ ∀ y : Nat, y < r → ¬ Reach n y x := by
  rcases cinv_iter hb n.nodes.length (Nat.le_refl _) x hx with ⟨_, h⟩ | ⟨r, h1, h2, h3, h4⟩
  · exact absurd .refl (h x hx)
  · refine ⟨r, ?_, h2, h3, h4⟩
    rcases Nat.lt_or_ge x r with h | h
    · exact absurd .refl (h4 x h)
    · exact h
theorem comps_eq_iff {n : Net} (hb : netB n = true) (x y : Nat) (hx : x < n.nodes.length) (hy : y < n.nodes.length) : (comps n).getD x 0 = (comps n).getD y 0 ↔ Reach n x y := by
  obtain ⟨r, _, e1, r1, m1⟩ := comps_at hb x hx
  obtain ⟨q, _, e2, r2, m2⟩ := comps_at hb y hy
  rw [e1, e2]
  constructor
  · intro h
    obtain rfl : r = q := by omega
    exact r1.symm.trans r2
  · intro h
    rcases Nat.lt_trichotomy r q with h1 | h1 | h1
    · exact absurd (r1.trans h) (m2 r h1)
    · rw [h1]
    · exact absurd (r2.trans h.symm) (m1 q h1)
theorem comps_root {n : Net} (hb : netB n = true) (x : Nat) (hx : x < n.nodes.length) {r : Nat} (hr : (comps n).getD x 0 = r) : (comps n).getD r 0 = r := by
  obtain ⟨q, h1, e1, r1, m1⟩ := comps_at hb x hx
  obtain rfl : r = q := by omega
  rw [← hr]
  exact (comps_eq_iff hb r x (by omega) hx).2 r1

/-- How many of the first k entries are their own. -/
def rootsTo (C : List Int) (k : Nat) : Nat := (List.range k).countP (fun i : Nat => decide (C.getD i 0 = (i : Int)))
theorem rootsTo_succ (C : List Int) (k : Nat) : rootsTo C (k + 1) = rootsTo C k + (if C.getD k 0 = (k : Int) then 1 else 0) := by
  unfold rootsTo
  rw [List.range_succ, List.countP_append, List.countP_singleton]
  simp
theorem rootsTo_le (C : List Int) (k : Nat) : rootsTo C k ≤ k := by
  unfold rootsTo
  exact Nat.le_trans List.countP_le_length (by simp)
theorem conn_iff {n : Net} (hb : netB n = true) : rootsTo (comps n) n.nodes.length = 1 ↔ (srch n 0).order.length = n.nodes.length := by
  have hN := (netB_t hb).1
  have g := good_srch hb (v := 0) (by omega) (by omega)
  have hso := srch_iff hb (v := 0) (by omega) (by omega)
  have hall : (srch n 0).order.length = n.nodes.length ↔ ∀ x : Nat, x < n.nodes.length → Reach n 0 x := by
    have hc := g.cnt
    constructor
    · intro h x hx
      have h0 : (srch n 0).dist.countP (fun d => decide (d < 0)) = 0 := by omega
      rw [List.countP_eq_zero] at h0
      have hxl : x < (srch n 0).dist.length := by rw [g.ld]; exact hx
      have h1 := h0 _ (List.getElem_mem hxl)
      have h2 : (srch n 0).dist.getD x 0 = (srch n 0).dist[x] := by simp [List.getD, hxl]
      have hm := g.mem x (by omega) (by omega)
      rw [Int.toNat_natCast, h2] at hm
      exact (hso x).1 (hm.1 (by simpa using h1))
    · intro h
      have h0 : (srch n 0).dist.countP (fun d => decide (d < 0)) = 0 := by
        rw [List.countP_eq_zero]
        intro d hd
        obtain ⟨x, hxl, rfl⟩ := List.getElem_of_mem hd
        have hx : x < n.nodes.length := by rw [← g.ld]; exact hxl
        have h2 : (srch n 0).dist.getD x 0 = (srch n 0).dist[x] := by simp [List.getD, hxl]
        have hm := g.mem x (by omega) (by omega)
        rw [Int.toNat_natCast, h2] at hm
        have := hm.2 ((hso x).2 (h x hx))
        simpa using this
      omega
  rw [hall]
  obtain ⟨N, hNe⟩ : ∃ N, n.nodes.length = N + 1 := ⟨n.nodes.length - 1, by omega⟩
  have hz : (comps n).getD 0 0 = 0 := by
    obtain ⟨r, h1, h2, _⟩ := comps_at hb 0 (by omega)
    obtain rfl : r = 0 := by omega
    exact h2
  have hcnt : rootsTo (comps n) n.nodes.length = 1 ↔ ∀ x : Nat, x < n.nodes.length → (comps n).getD x 0 = x → x = 0 := by
    rw [hNe]
    unfold rootsTo
    rw [List.range_succ_eq_map, List.countP_cons, List.countP_map]
    simp only [Int.natCast_zero, hz, decide_true, if_true]
    constructor
    · intro h x hx he
      have h0 : (List.range N).countP ((fun i : Nat => decide ((comps n).getD i 0 = (i : Int))) ∘ Nat.succ) = 0 := by omega
      rw [List.countP_eq_zero] at h0
      rcases Nat.eq_zero_or_pos x with h2 | h2
      · exact h2
      · have := h0 (x - 1) (List.mem_range.2 (by omega))
        simp only [Function.comp, decide_eq_true_eq] at this
        rw [(by omega : (x - 1).succ = x)] at this
        exact absurd he this
    · intro h
      have h0 : (List.range N).countP ((fun i : Nat => decide ((comps n).getD i 0 = (i : Int))) ∘ Nat.succ) = 0 := by
        rw [List.countP_eq_zero]
        intro i hi
        have := List.mem_range.1 hi
        simp only [Function.comp, decide_eq_true_eq]
        intro he
        have := h i.succ (by omega) he
        omega
      omega
  rw [hcnt]
  constructor
  · intro h x hx
    obtain ⟨r, h1, h2, h3, _⟩ := comps_at hb x hx
    have h4 := h r (by omega) (comps_root hb x hx h2)
    subst h4
    exact h3
  · intro h x hx he
    have := (comps_eq_iff hb 0 x (by omega) hx).2 (h x hx)
    rw [hz, he] at this
    omega

end Go.Proofs.Ytdapdaadglaoiaa
