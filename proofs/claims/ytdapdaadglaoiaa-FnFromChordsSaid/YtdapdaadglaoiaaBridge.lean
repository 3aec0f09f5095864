/- Bridges, plain: without a pipe there are more components just where its ends fall apart. No program. -/
import Derived.Test.YtdapdaadglaoiaaConn
import Derived.Test.YtdapdaadglaoiaaPathB
namespace Go.Proofs.Ytdapdaadglaoiaa
open Go.RowKit

/-- The network without a pipe. -/
def dropP (n : Net) (k : Nat) : Net := ⟨n.nodes, n.pipes.take k ++ n.pipes.drop (k + 1)⟩
theorem dropP_mem {n : Net} {k : Nat} {p : Pp} (h : p ∈ (dropP n k).pipes) : p ∈ n.pipes := by
  rcases List.mem_append.1 h with h | h
  · exact List.mem_of_mem_take h
  · exact List.mem_of_mem_drop h
theorem mem_dropP {n : Net} {k : Nat} (hk : k < n.pipes.length) {p : Pp} (h : p ∈ n.pipes) : p = n.pipes[k] ∨ p ∈ (dropP n k).pipes := by
  obtain ⟨i, hi, rfl⟩ := List.getElem_of_mem h
  rcases Nat.lt_trichotomy i k with h1 | h1 | h1
  · exact Or.inr (List.mem_append.2 (Or.inl (List.mem_take_iff_getElem.2 ⟨i, by omega, rfl⟩)))
  · subst h1; exact Or.inl rfl
  · refine Or.inr (List.mem_append.2 (Or.inr (List.mem_drop_iff_getElem.2 ⟨i - (k + 1), by omega, ?_⟩)))
    congr 1; omega
theorem dropP_len {n : Net} {k : Nat} (hk : k < n.pipes.length) : (dropP n k).pipes.length + 1 = n.pipes.length := by
  simp [dropP]; omega
theorem netB_mk {n : Net} (h1 : 1 ≤ n.nodes.length) (h2 : n.nodes.length ≤ 24) (h3 : n.pipes.length ≤ 40) (h4 : nodesB n.nodes = true) (h5 : pipesB n.nodes.length n.pipes = true) : netB n = true := by
  simp only [netB, Bool.and_eq_true, decide_eq_true_eq]
  exact ⟨⟨⟨inB_mk (by omega) (by omega), h3⟩, h4⟩, h5⟩
/-- A network with fewer pipes. -/
theorem netB_sub {n n' : Net} (hb : netB n = true) (hn : n'.nodes = n.nodes) (hl : n'.pipes.length ≤ n.pipes.length) (hp : ∀ p ∈ n'.pipes, p ∈ n.pipes) : netB n' = true := by
  obtain ⟨h1, h2, h3, h4, h5⟩ := netB_t hb
  refine netB_mk (by rw [hn]; exact h1) (by rw [hn]; exact h2) (by omega) (by rw [hn]; exact h4) ?_
  rw [hn]
  exact List.all_eq_true.2 fun p h => List.all_eq_true.1 h5 p (hp p h)
theorem netB_drop {n : Net} (hb : netB n = true) {k : Nat} (hk : k < n.pipes.length) : netB (dropP n k) = true :=
  netB_sub hb rfl (by have := dropP_len hk; omega) (fun _ h => dropP_mem h)
theorem Adj.of_mem {n : Net} {p : Pp} (hp : p ∈ n.pipes) {u : Int} (h : atF u p = true) : Adj n u (oth p u) := by
  obtain ⟨i, hi, rfl⟩ := List.getElem_of_mem hp
  exact ⟨i, hi, h, rfl⟩
theorem Reach.sub {n n' : Net} (hp : ∀ p ∈ n'.pipes, p ∈ n.pipes) {u v : Int} (h : Reach n' u v) : Reach n u v := by
  induction h with
  | refl => exact .refl
  | step _ a ih =>
    obtain ⟨i, hi, h1, rfl⟩ := a
    exact ih.step (Adj.of_mem (hp _ (List.getElem_mem hi)) h1)
theorem reach_drop {n : Net} {k : Nat} (hk : k < n.pipes.length) (hr : Reach (dropP n k) n.pipes[k].fr n.pipes[k].to) {u v : Int} (h : Reach n u v) : Reach (dropP n k) u v := by
  induction h with
  | refl => exact .refl
  | step _ a ih =>
    obtain ⟨i, hi, h1, rfl⟩ := a
    rcases mem_dropP hk (List.getElem_mem hi) with h2 | h2
    · rw [h2] at h1 ⊢
      rcases oth_ends h1 with ⟨h3, h4⟩ | ⟨h3, h4⟩
      · rw [h3, h4] at hr; exact ih.trans hr
      · rw [h3, h4] at hr; exact ih.trans hr.symm
    · exact ih.step (Adj.of_mem h2 h1)
theorem comps_congr {n n' : Net} (hb : netB n = true) (hb' : netB n' = true) (hl : n'.nodes.length = n.nodes.length) (hr : ∀ u v, Reach n u v ↔ Reach n' u v) (x : Nat) (hx : x < n.nodes.length) : (comps n').getD x 0 = (comps n).getD x 0 := by
  obtain ⟨r, _, e1, r1, m1⟩ := comps_at hb x hx
  obtain ⟨q, _, e2, r2, m2⟩ := comps_at hb' x (by omega)
  rw [e1, e2]
  rcases Nat.lt_trichotomy r q with h1 | h1 | h1
  · exact absurd ((hr _ _).1 r1) (m2 r h1)
  · rw [h1]
  · exact absurd ((hr _ _).2 r2) (m1 q h1)
theorem comps_len (n : Net) : (comps n).length = n.nodes.length := compIter_len n _
theorem comps_congr' {n n' : Net} (hb : netB n = true) (hb' : netB n' = true) (hl : n'.nodes.length = n.nodes.length) (hr : ∀ u v, Reach n u v ↔ Reach n' u v) : comps n' = comps n := by
  apply List.ext_getElem
  · rw [comps_len, comps_len, hl]
  · intro x h1 h2
    have h3 : x < n.nodes.length := by rw [comps_len] at h2; exact h2
    have := comps_congr hb hb' hl hr x h3
    simpa [List.getD, h1, h2] using this
theorem countP_lt {α : Type} (l : List α) (p q : α → Bool) (h : ∀ x ∈ l, p x = true → q x = true) (y : α) (hy : y ∈ l) (h1 : p y = false) (h2 : q y = true) : l.countP p < l.countP q := by
  induction l with
  | nil => cases hy
  | cons a l ih =>
    have hle : l.countP p ≤ l.countP q := List.countP_mono_left (fun x hx => h x (List.mem_cons_of_mem _ hx))
    rw [List.countP_cons, List.countP_cons]
    rcases List.mem_cons.1 hy with rfl | hy
    · simp only [h1, h2, if_true]; simp; omega
    · have := ih (fun x hx => h x (List.mem_cons_of_mem _ hx)) hy
      have h3 := h a (by simp)
      cases hpa : p a
      · simp; omega
      · rw [h3 hpa]; simp; omega
/-- Without a pipe there are more components just where its ends fall apart. -/
theorem bridge_iff {n : Net} (hb : netB n = true) {k : Nat} (hk : k < n.pipes.length) :
    rootsTo (comps n) n.nodes.length < rootsTo (comps (dropP n k)) n.nodes.length ↔ ¬ (comps (dropP n k)).getD n.pipes[k].fr.toNat 0 = (comps (dropP n k)).getD n.pipes[k].to.toNat 0 := by
  have hb' := netB_drop hb hk
  obtain ⟨f0, f1, t0, t1, hne⟩ := netB_pipe hb (List.getElem_mem hk)
  obtain ⟨f, hf⟩ : ∃ f : Nat, n.pipes[k].fr = f := ⟨n.pipes[k].fr.toNat, by omega⟩
  obtain ⟨t, ht⟩ : ∃ t : Nat, n.pipes[k].to = t := ⟨n.pipes[k].to.toNat, by omega⟩
  have hfl : f < n.nodes.length := by omega
  have htl : t < n.nodes.length := by omega
  have hiff := comps_eq_iff hb' f t hfl htl
  rw [hf, ht, Int.toNat_natCast, Int.toNat_natCast, hiff]
  have hsub : ∀ {u v : Int}, Reach (dropP n k) u v → Reach n u v := fun h => h.sub (fun _ h => dropP_mem h)
  constructor
  · intro h hr
    have hrr : Reach (dropP n k) n.pipes[k].fr n.pipes[k].to := by rw [hf, ht]; exact hr
    have := comps_congr' hb hb' rfl (fun u v => ⟨reach_drop hk hrr, hsub⟩)
    rw [this] at h
    omega
  · intro hr
    have hft : Reach n f t := by
      have h1 : atF n.pipes[k].fr n.pipes[k] = true := atF_iff.2 (Or.inl rfl)
      have h2 := Adj.of_mem (List.getElem_mem hk) h1
      have h3 : oth n.pipes[k] n.pipes[k].fr = n.pipes[k].to := by simp [oth]
      rw [h3, hf, ht] at h2
      exact Reach.refl.step h2
    have hroot : ∀ x : Nat, x < n.nodes.length → (comps n).getD x 0 = x → (comps (dropP n k)).getD x 0 = x := by
      intro x hx hc
      obtain ⟨r, _, e1, _, m1⟩ := comps_at hb x hx
      obtain ⟨q, hq, e2, r2, _⟩ := comps_at hb' x hx
      obtain rfl : r = x := by omega
      rw [e2]
      rcases (by omega : q < r ∨ q = r) with h | rfl
      · exact absurd (hsub r2) (m1 q h)
      · rfl
    obtain ⟨a, ha, ea, ra, ma⟩ := comps_at hb' f hfl
    obtain ⟨b, hbb, eb, rb, mb⟩ := comps_at hb' t htl
    have hab : a ≠ b := fun e => hr (by rw [← e] at rb; exact ra.symm.trans rb)
    have hra : Reach n a b := (hsub ra).trans (hft.trans (hsub rb).symm)
    have hca := comps_root hb' f hfl ea
    have hcb := comps_root hb' t htl eb
    have hceq := (comps_eq_iff hb a b (by omega) (by omega)).2 hra
    unfold rootsTo
    have hmono : ∀ x ∈ List.range n.nodes.length, decide ((comps n).getD x 0 = (x : Int)) = true → decide ((comps (dropP n k)).getD x 0 = (x : Int)) = true := fun x hx h => by
      simp only [decide_eq_true_eq] at h ⊢
      exact hroot x (List.mem_range.1 hx) h
    by_cases e : (comps n).getD a 0 = (a : Int)
    · refine countP_lt _ _ _ hmono b (List.mem_range.2 (by omega)) ?_ (by simpa using hcb)
      simp only [decide_eq_false_iff_not]
      intro e2
      rw [hceq, e2] at e
      omega
    · exact countP_lt _ _ _ hmono a (List.mem_range.2 (by omega)) (by simpa using e) (by simpa using hca)

end Go.Proofs.Ytdapdaadglaoiaa
