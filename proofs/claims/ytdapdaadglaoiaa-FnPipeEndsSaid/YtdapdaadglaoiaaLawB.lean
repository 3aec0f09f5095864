/- Neighbours of neighbours, and how many pipes lead to them (plain). -/
import Derived.Test.YtdapdaadglaoiaaNbr
import Derived.Test.YtdapdaadglaoiaaBetween
import Derived.Test.YtdapdaadglaoiaaPipesAt
namespace Go.Proofs.Ytdapdaadglaoiaa
open Go.RowKit

theorem codeNs_pair {n : Net} {a b : Int} (hb : netB n = true) (v0 : 0 ≤ a) (v1 : a < n.nodes.length) (h0 : 0 ≤ b) (h1 : b < n.nodes.length) : codeNs n [b] = 0 ∧ codeNs n [a, b] = 0 := by
  have e1 : inB a 0 ((n.nodes.length : Int) - 1) = true := inB_mk (by omega) (by omega)
  have e2 : inB b 0 ((n.nodes.length : Int) - 1) = true := inB_mk (by omega) (by omega)
  unfold codeNs
  simp [hb, e1, e2]
theorem nb_mem {n : Net} (hb : netB n = true) {v x : Int} : x ∈ nbTo n v n.nodes.length ↔ ∃ k, ∃ hk : k < n.pipes.length, atF v n.pipes[k] = true ∧ oth n.pipes[k] v = x := by
  have h1 : x ∈ nbTo n v n.nodes.length ↔ x ∈ endsOf n v := by
    rw [← nb_eq hb, compact_mem, (sortZ_perm _).mem_iff]
  rw [h1]
  unfold endsOf endsTo
  rw [List.take_length, List.mem_map]
  constructor
  · rintro ⟨i, hi, rfl⟩
    obtain ⟨k, rfl, hk, ha⟩ := pipesOf_mem hi
    exact ⟨k, hk, ha, by rw [pAt_nat hk]⟩
  · rintro ⟨k, hk, ha, rfl⟩
    exact ⟨k, pipesOf_mk hk ha, by rw [pAt_nat hk]⟩
theorem atF_cases {p : Pp} {v : Int} (h : atF v p = true) (hne : p.fr ≠ p.to) : (p.fr = v ∧ oth p v = p.to) ∨ (p.to = v ∧ oth p v = p.fr) := by
  unfold atF at h
  simp only [Bool.or_eq_true, beq_iff_eq] at h
  unfold oth
  rcases h with h | h
  · exact Or.inl ⟨h, if_pos h⟩
  · exact Or.inr ⟨h, if_neg (fun e => hne (e.trans h.symm))⟩
theorem oth_back {p : Pp} {v : Int} (h : atF v p = true) (hne : p.fr ≠ p.to) : atF (oth p v) p = true ∧ oth p (oth p v) = v ∧ betF v (oth p v) p = true ∧ oth p v ≠ v := by
  rcases atF_cases h hne with ⟨e1, e2⟩ | ⟨e1, e2⟩
  · rw [e2]
    refine ⟨by simp [atF], ?_, by simp [betF, e1], fun e => hne (e1.trans e.symm)⟩
    unfold oth
    rw [if_neg hne]; exact e1
  · rw [e2]
    refine ⟨by simp [atF], ?_, by simp [betF, e1], fun e => hne (e.trans e1.symm)⟩
    unfold oth
    rw [if_pos rfl]; exact e1
theorem betF_iff {p : Pp} {v u : Int} (hne : p.fr ≠ p.to) : betF v u p = true ↔ atF v p = true ∧ oth p v = u := by
  constructor
  · intro h
    unfold betF at h
    simp only [Bool.or_eq_true, Bool.and_eq_true, beq_iff_eq] at h
    rcases h with ⟨h1, h2⟩ | ⟨h1, h2⟩
    · refine ⟨by simp [atF, h1], ?_⟩
      unfold oth; rw [if_pos h1]; exact h2
    · refine ⟨by simp [atF, h2], ?_⟩
      unfold oth; rw [if_neg (fun e => hne (e.trans h2.symm))]; exact h1
  · rintro ⟨h, rfl⟩
    exact (oth_back h hne).2.2.1
theorem selP_count (f : Pp → Bool) (ps : List Pp) (k : Nat) (h : k ≤ ps.length) : (selP f ps k).length = (ps.take k).countP f := by
  induction k with
  | zero => simp [selP]
  | succ k ih =>
    have hk : k < ps.length := h
    rw [selP_succ f ps k hk, List.take_succ_eq_append_getElem hk, List.length_append, List.countP_append, ih (by omega)]
    congr 1
    cases hf : f ps[k] <;> simp [hf]
/-- Pipes between v and the first k of L. -/
def cntN (n : Net) (v : Int) (L : List Int) (k : Nat) : Nat := ((L.take k).map (fun u => n.pipes.countP (betF v u))).sum
theorem cntN_succ (n : Net) (v : Int) (L : List Int) (k : Nat) (hk : k < L.length) : cntN n v L (k + 1) = cntN n v L k + (selP (betF v L[k]) n.pipes n.pipes.length).length := by
  unfold cntN
  rw [List.take_succ_eq_append_getElem hk, List.map_append, List.sum_append, selP_count _ _ _ (Nat.le_refl _), List.take_length]
  simp
theorem sum_zero (L : List Int) : (L.map (fun _ => 0)).sum = 0 := by
  induction L with
  | nil => rfl
  | cons a L ih => simp [ih]
theorem sum_add (L : List Int) (f g : Int → Nat) : (L.map (fun u => f u + g u)).sum = (L.map f).sum + (L.map g).sum := by
  induction L with
  | nil => rfl
  | cons a L ih => simp only [List.map_cons, List.sum_cons, ih]; omega
theorem sum_one (L : List Int) (q : Int → Bool) : (L.map (fun u => if q u = true then 1 else 0)).sum = L.countP q := by
  induction L with
  | nil => rfl
  | cons a L ih => simp only [List.map_cons, List.sum_cons, ih, List.countP_cons]; omega
theorem sum_swap (v : Int) (L : List Int) (ps : List Pp) (h : ∀ p ∈ ps, L.countP (fun u => betF v u p) = if atF v p = true then 1 else 0) : (L.map (fun u => ps.countP (betF v u))).sum = ps.countP (atF v) := by
  induction ps with
  | nil => simpa using sum_zero L
  | cons p ps ih =>
    have e := h p (by simp)
    have e2 := ih (fun q hq => h q (by simp [hq]))
    have e3 : (fun u => (p :: ps).countP (betF v u)) = (fun u => ps.countP (betF v u) + (if betF v u p = true then 1 else 0)) := by
      funext u; rw [List.countP_cons]
    rw [e3, sum_add, e2, sum_one L (fun u => betF v u p), e, List.countP_cons]
theorem cntN_all {n : Net} (hb : netB n = true) (v : Int) : cntN n v (nbTo n v n.nodes.length) (nbTo n v n.nodes.length).length = (selP (atF v) n.pipes n.pipes.length).length := by
  rw [selP_count _ _ _ (Nat.le_refl _), List.take_length]
  unfold cntN
  rw [List.take_length]
  refine sum_swap v _ _ (fun p hp => ?_)
  have hne := (netB_pipe hb hp).2.2.2.2
  have hnd : (nbTo n v n.nodes.length).Nodup := (nbTo_sorted n v _).imp (fun h => by omega)
  by_cases ha : atF v p = true
  · rw [if_pos ha]
    have e : (fun u => betF v u p) = (fun u => u == oth p v) := by
      funext u
      rw [Bool.eq_iff_iff, betF_iff hne, beq_iff_eq]
      exact ⟨fun h => h.2.symm, fun h => ⟨ha, h.symm⟩⟩
    rw [e]
    obtain ⟨k, hk, rfl⟩ := List.getElem_of_mem hp
    have hm : oth n.pipes[k] v ∈ nbTo n v n.nodes.length := (nb_mem hb).2 ⟨k, hk, ha, rfl⟩
    have := hnd.count (a := oth n.pipes[k] v)
    rw [if_pos hm] at this
    exact this
  · rw [if_neg ha, List.countP_eq_zero]
    intro u _ h
    exact ha ((betF_iff hne).1 h).1
theorem nb_facts {n : Net} {v : Int} (hb : netB n = true) (v0 : 0 ≤ v) (v1 : v < n.nodes.length) (k : Nat) (hk : k < (nbTo n v n.nodes.length).length) :
    nbR n (nbTo n v n.nodes.length)[k] = (nbTo n (nbTo n v n.nodes.length)[k] n.nodes.length, 0) ∧ pbR n v (nbTo n v n.nodes.length)[k] = (selP (betF v (nbTo n v n.nodes.length)[k]) n.pipes n.pipes.length, 0)
      ∧ (nbTo n (nbTo n v n.nodes.length)[k] n.nodes.length).contains v = true ∧ (selP (betF v (nbTo n v n.nodes.length)[k]) n.pipes n.pipes.length).length ≤ 40 := by
  have hm := List.getElem_mem hk
  obtain ⟨u, hu⟩ : ∃ u, (nbTo n v n.nodes.length)[k] = u := ⟨_, rfl⟩
  rw [hu] at hm ⊢
  obtain ⟨i, hi, ha, he⟩ := (nb_mem hb).1 hm
  have hp := netB_pipe hb (List.getElem_mem hi)
  obtain ⟨b1, b2, _⟩ := oth_back ha hp.2.2.2.2
  rw [he] at b1 b2
  obtain ⟨r1, r2, _⟩ := oth_rng hb hi ha
  rw [he] at r1 r2
  obtain ⟨c1, c2⟩ := codeNs_pair hb v0 v1 r1 r2
  have hl := selP_len (betF v u) n.pipes n.pipes.length
  have := netB_t hb
  exact ⟨by rw [nbR, if_pos c1], by rw [pbR, if_pos c2], by rw [List.contains_iff_mem]; exact (nb_mem hb).2 ⟨i, hi, b1, b2⟩, by omega⟩
theorem cntN_le {n : Net} (hb : netB n = true) (v : Int) (L : List Int) (k : Nat) (hk : k ≤ L.length) : cntN n v L k ≤ 40 * k := by
  induction k with
  | zero => simp [cntN]
  | succ k ih =>
    rw [cntN_succ n v L k hk]
    have := ih (by omega)
    have hl := selP_len (betF v L[k]) n.pipes n.pipes.length
    have := netB_t hb
    omega

end Go.Proofs.Ytdapdaadglaoiaa
