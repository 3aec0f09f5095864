/- Bridges and cycles, flows from chords, plain. No program. -/
import Derived.Test.YtdapdaadglaoiaaCycP
import Derived.Test.YtdapdaadglaoiaaBridgeS
namespace Go.Proofs.Ytdapdaadglaoiaa
open Go.RowKit

theorem mem_dropP_idx {n : Net} {k i : Nat} (hi : i < n.pipes.length) (hne : i ≠ k) : n.pipes[i] ∈ (dropP n k).pipes := by
  rcases Nat.lt_trichotomy i k with h1 | h1 | h1
  · exact List.mem_append.2 (Or.inl (List.mem_take_iff_getElem.2 ⟨i, by omega, rfl⟩))
  · exact absurd h1 hne
  · refine List.mem_append.2 (Or.inr (List.mem_drop_iff_getElem.2 ⟨i - (k + 1), by omega, ?_⟩))
    congr 1; omega
theorem sum_inc (p : Pp) (X : List Int) (hnd : X.Nodup) : (X.map (inc p)).sum = (if p.fr ∈ X then 1 else 0) - (if p.to ∈ X then 1 else 0) := by
  induction X with
  | nil => simp
  | cons a X ih =>
    have h := List.nodup_cons.1 hnd
    rw [List.map_cons, List.sum_cons, ih h.2]
    unfold inc
    by_cases e1 : p.fr = a <;> by_cases e2 : p.to = a
    · have : p.fr ∉ X := by rw [e1]; exact h.1
      have : p.to ∉ X := by rw [e2]; exact h.1
      simp [e1, e2, h.1]
    · have : p.fr ∉ X := by rw [e1]; exact h.1
      simp only [List.mem_cons, e1, e2, h.1, true_or, false_or, if_true, if_false]
      omega
    · have : p.to ∉ X := by rw [e2]; exact h.1
      simp only [List.mem_cons, e1, e2, h.1, true_or, false_or, if_true, if_false]
      omega
    · simp only [List.mem_cons, e1, e2, false_or, if_false]
      omega
theorem sum_swap (m : Nat) (f : Nat → Int) (h : Nat → Int → Int) (X : List Int) : (X.map (fun x => ((List.range m).map (fun i => f i * h i x)).sum)).sum = ((List.range m).map (fun i => f i * (X.map (h i)).sum)).sum := by
  induction X with
  | nil =>
    simp only [List.map_nil, List.sum_nil, Int.mul_zero]
    exact (sum_zero m _ (fun _ _ => rfl)).symm
  | cons a X ih =>
    simp only [List.map_cons, List.sum_cons, ih, Int.mul_add]
    rw [sum_add]
/-- A pipe through which a circulation flows is no bridge. -/
theorem cut_zero {n : Net} (hb : netB n = true) {f : List Int} (h0 : ∀ x : Nat, x < n.nodes.length → outAt n f x = 0) {k : Nat} (hk : k < n.pipes.length) (hf : f.getD k 0 ≠ 0) : Reach (dropP n k) n.pipes[k].fr n.pipes[k].to := by
  have hb' := netB_drop hb hk
  obtain ⟨f0, f1, t0, t1, hne⟩ := netB_pipe hb (List.getElem_mem hk)
  have g := good_srch hb' (v := n.pipes[k].fr) f0 f1
  rcases Classical.em (n.pipes[k].to ∈ (srch (dropP n k) n.pipes[k].fr).order) with hm | hm
  · exact (srch_iff hb' f0 f1 _).1 hm
  · exfalso
    have hfr := g.vmem
    have hs := sum_swap n.pipes.length (fun i => f.getD i 0) (fun i x => inc (pAt n i) x) (srch (dropP n k) n.pipes[k].fr).order
    have hl : ((srch (dropP n k) n.pipes[k].fr).order.map (fun x => ((List.range n.pipes.length).map (fun i => f.getD i 0 * inc (pAt n i) x)).sum)).sum = 0 := by
      have : ∀ X : List Int, (∀ x ∈ X, 0 ≤ x ∧ x < n.nodes.length) → (X.map (fun x => ((List.range n.pipes.length).map (fun i => f.getD i 0 * inc (pAt n i) x)).sum)).sum = 0 := by
        intro X
        induction X with
        | nil => intro _; rfl
        | cons a X ih =>
          intro hX
          obtain ⟨h1, h2⟩ := hX a (by simp)
          obtain ⟨z, rfl⟩ : ∃ z : Nat, a = z := ⟨a.toNat, by omega⟩
          have := h0 z (by omega)
          unfold outAt at this
          rw [List.map_cons, List.sum_cons, this, ih (fun x hx => hX x (List.mem_cons_of_mem _ hx))]
          rfl
      exact this _ g.rng
    rw [hl, sum_single n.pipes.length _ k hk] at hs
    · rw [pAt_nat hk] at hs
      have hsi := sum_inc n.pipes[k] _ g.nd
      rw [if_pos hfr, if_neg hm] at hsi
      have hsi' : ((srch (dropP n k) n.pipes[k].fr).order.map (fun x => inc n.pipes[k] x)).sum = 1 := by
        have e : (fun x => inc n.pipes[k] x) = inc n.pipes[k] := rfl
        rw [e, hsi]; rfl
      rw [hsi'] at hs
      omega
    · intro j hj hjk
      rw [pAt_nat hj]
      have hsi := sum_inc n.pipes[j] _ g.nd
      have hmem := mem_dropP_idx hj hjk
      have hpp := netB_pipe hb (List.getElem_mem hj)
      have af : atF n.pipes[j].fr n.pipes[j] = true := atF_iff.2 (Or.inl rfl)
      have at' : atF n.pipes[j].to n.pipes[j] = true := atF_iff.2 (Or.inr rfl)
      have of : oth n.pipes[j] n.pipes[j].fr = n.pipes[j].to := by simp [oth]
      have ot : oth n.pipes[j] n.pipes[j].to = n.pipes[j].fr := by unfold oth; rw [if_neg hpp.2.2.2.2]
      have hiff : n.pipes[j].fr ∈ (srch (dropP n k) n.pipes[k].fr).order ↔ n.pipes[j].to ∈ (srch (dropP n k) n.pipes[k].fr).order := by
        constructor
        · intro h
          have := Adj.of_mem hmem af
          rw [of] at this
          exact srch_closed hb' f0 f1 h this
        · intro h
          have := Adj.of_mem hmem at'
          rw [ot] at this
          exact srch_closed hb' f0 f1 h this
      have hz : ((srch (dropP n k) n.pipes[k].fr).order.map (fun x => inc n.pipes[j] x)).sum = 0 := by
        have e : (fun x => inc n.pipes[j] x) = inc n.pipes[j] := rfl
        rw [e, hsi]
        simp only [hiff]
        omega
      rw [hz, Int.mul_zero]
def bridges (n : Net) : List Int := bridgesTo n n.pipes.length
theorem bridges_len (n : Net) : (bridges n).length ≤ n.pipes.length := by
  unfold bridges bridgesTo
  rw [List.length_map]
  exact Nat.le_trans (List.length_filter_le _ _) (by simp)
theorem isBridge_iff {n : Net} (hb : netB n = true) {k : Nat} (hk : k < n.pipes.length) : isBridge n k = true ↔ rootsTo (comps n) n.nodes.length < rootsTo (comps (dropP n k)) n.nodes.length := by
  rw [bridge_iff hb hk]
  unfold isBridge
  rw [pAt_nat hk]
  simp
theorem tree_bridges {n : Net} (hb : netB n = true) (hc : conB n = true) (hl : n.pipes.length + 1 = n.nodes.length) : (bridges n).length = n.pipes.length := by
  have hone : rootsTo (comps n) n.nodes.length = 1 := (conn_iff hb).2 (by simpa [conB] using hc)
  have hall : (List.range n.pipes.length).filter (isBridge n) = List.range n.pipes.length := by
    rw [List.filter_eq_self]
    intro k hk
    have hk := List.mem_range.1 hk
    rw [isBridge_iff hb hk, hone]
    have h1 := forest_len (netB_drop hb hk)
    have h2 := forest_le (dropP n k)
    have h3 := dropP_len hk
    have h4 : (dropP n k).nodes.length = n.nodes.length := rfl
    rw [h4] at h1
    omega
  unfold bridges bridgesTo
  rw [hall]; simp
theorem cycle_bridge {n : Net} (hb : netB n = true) {f : List Int} (h0 : ∀ x : Nat, x < n.nodes.length → outAt n f x = 0) {k : Nat} (hk : k < n.pipes.length) (hf : f.getD k 0 ≠ 0) : (k : Int) ∉ bridges n := by
  intro h
  unfold bridges bridgesTo at h
  simp only [List.mem_map, List.mem_filter, List.mem_range] at h
  obtain ⟨i, ⟨h1, h2⟩, h3⟩ := h
  obtain rfl : i = k := by omega
  have hr := cut_zero hb h0 hk hf
  obtain ⟨f0, f1, t0, t1, hne⟩ := netB_pipe hb (List.getElem_mem hk)
  have hb' := netB_drop hb hk
  unfold isBridge at h2
  rw [pAt_nat hk] at h2
  have := (comps_eq_iff hb' n.pipes[i].fr.toNat n.pipes[i].to.toNat (by show _ < n.nodes.length; omega) (by show _ < n.nodes.length; omega)).2 (by
    rw [(by omega : ((n.pipes[i].fr.toNat : Nat) : Int) = n.pipes[i].fr), (by omega : ((n.pipes[i].to.toNat : Nat) : Int) = n.pipes[i].to)]; exact hr)
  rw [decide_eq_true this] at h2
  cases h2

/-- A flow list with a multiple of another one added. -/
def addM (o c : List Int) (a : Int) : List Int := (List.range o.length).map (fun i : Nat => o.getD i 0 + a * c.getD i 0)
theorem addM_len (o c : List Int) (a : Int) : (addM o c a).length = o.length := by simp [addM]
theorem addM_get (o c : List Int) (a : Int) {i : Nat} (h : i < o.length) : (addM o c a).getD i 0 = o.getD i 0 + a * c.getD i 0 := by
  simp [addM, List.getD, h]
def fcIter (n : Net) (am : List Int) : Nat → List Int
  | 0 => List.replicate n.pipes.length 0
  | k + 1 => addM (fcIter n am k) (cyS n ((chords n).getD k 0)) (am.getD k 0)
theorem fcIter_len (n : Net) (am : List Int) (k : Nat) : (fcIter n am k).length = n.pipes.length := by
  induction k with
  | zero => simp [fcIter]
  | succ k ih => rw [fcIter, addM_len, ih]
def fromCh (n : Net) (am : List Int) : List Int := fcIter n am (chords n).length
theorem outAt_addM {n : Net} {o c : List Int} (ho : o.length = n.pipes.length) (a x : Int) : outAt n (addM o c a) x = outAt n o x + a * outAt n c x := by
  unfold outAt
  have e : ((List.range n.pipes.length).map (fun i => (addM o c a).getD i 0 * inc (pAt n i) x)) = ((List.range n.pipes.length).map (fun i => o.getD i 0 * inc (pAt n i) x + a * (c.getD i 0 * inc (pAt n i) x))) := by
    apply List.map_congr_left
    intro i hi
    have := List.mem_range.1 hi
    rw [addM_get o c a (by omega), Int.add_mul, Int.mul_assoc]
  rw [e, sum_add]
  congr 1
  generalize n.pipes.length = m
  induction m with
  | zero => simp
  | succ m ih =>
    rw [List.range_succ, List.map_append, List.map_append, List.sum_append, List.sum_append, ih, Int.mul_add]
    simp
theorem chord_at {n : Net} {k : Nat} (hk : k < (chords n).length) : ∃ c : Nat, (chords n).getD k 0 = c ∧ c < n.pipes.length ∧ (c : Int) ∉ forest n := by
  have hm := List.getElem_mem hk
  obtain ⟨c, e, h1, h2⟩ := chords_mem.1 hm
  exact ⟨c, by simpa [List.getD, hk] using e, h1, h2⟩
theorem fc_out {n : Net} (hb : netB n = true) (am : List Int) (k : Nat) (hk : k ≤ (chords n).length) (x : Nat) (hx : x < n.nodes.length) : outAt n (fcIter n am k) x = 0 := by
  induction k with
  | zero => exact outAt_zero _ _ _
  | succ k ih =>
    obtain ⟨c, e, h1, h2⟩ := chord_at (n := n) (k := k) (by omega)
    rw [fcIter, outAt_addM (fcIter_len n am k), ih (by omega), e, (cyS_spec hb h1 h2).2.1 x hx]
    simp
theorem chords_get_inj {n : Net} {i j : Nat} (hi : i < (chords n).length) (hj : j < (chords n).length) (h : (chords n).getD i 0 = (chords n).getD j 0) : i = j := by
  have := List.pairwise_iff_getElem.1 (chords_sorted n)
  have h1 : (chords n).getD i 0 = (chords n)[i] := by simp [List.getD, hi]
  have h2 : (chords n).getD j 0 = (chords n)[j] := by simp [List.getD, hj]
  rcases Nat.lt_trichotomy i j with h3 | h3 | h3
  · have := this i j hi hj h3; omega
  · exact h3
  · have := this j i hj hi h3; omega
theorem fc_at {n : Net} (hb : netB n = true) (am : List Int) (k : Nat) (hk : k ≤ (chords n).length) (j : Nat) (hj : j < (chords n).length) : (fcIter n am k).getD ((chords n).getD j 0).toNat 0 = if j < k then am.getD j 0 else 0 := by
  obtain ⟨c, e, h1, h2⟩ := chord_at hj
  rw [e, Int.toNat_natCast]
  induction k with
  | zero => rw [if_neg (by omega)]; exact rep0 _ _
  | succ k ih =>
    obtain ⟨c', e', h1', h2'⟩ := chord_at (n := n) (k := k) (by omega)
    rw [fcIter, addM_get _ _ _ (by rw [fcIter_len]; exact h1), ih (by omega), e', (cyS_spec hb h1' h2').2.2.1 c h1 h2]
    by_cases hjk : j = k
    · subst hjk
      have : c = c' := by omega
      rw [if_neg (by omega), if_pos this, if_pos (by omega)]; omega
    · have : c ≠ c' := fun h => hjk (chords_get_inj hj (by omega) (by rw [e, e', h]))
      rw [if_neg this]
      by_cases h3 : j < k
      · rw [if_pos h3, if_pos (by omega)]; omega
      · rw [if_neg h3, if_neg (by omega)]; omega
theorem fc_bnd {n : Net} (hb : netB n = true) {am : List Int} (ha : ∀ i, -30000 ≤ am.getD i 0 ∧ am.getD i 0 ≤ 30000) (k : Nat) (hk : k ≤ (chords n).length) (i : Nat) : -(30000 * (k : Int)) ≤ (fcIter n am k).getD i 0 ∧ (fcIter n am k).getD i 0 ≤ 30000 * k := by
  induction k with
  | zero => rw [fcIter, rep0]; omega
  | succ k ih =>
    obtain ⟨c', e', h1', h2'⟩ := chord_at (n := n) (k := k) (by omega)
    have hbd := (cyS_spec hb h1' h2').2.2.2 i
    have hak := ha k
    have ih := ih (by omega)
    rw [fcIter]
    by_cases hi : i < (fcIter n am k).length
    · rw [addM_get _ _ _ hi, e']
      obtain ⟨a, hae⟩ : ∃ a, a = am.getD k 0 := ⟨_, rfl⟩
      obtain ⟨b, hbe⟩ : ∃ b, b = (cyS n c').getD i 0 := ⟨_, rfl⟩
      rw [← hae] at hak ⊢
      rw [← hbe] at hbd ⊢
      have : b = -1 ∨ b = 0 ∨ b = 1 := by omega
      rcases this with rfl | rfl | rfl <;> omega
    · have : (addM (fcIter n am k) (cyS n ((chords n).getD k 0)) (am.getD k 0)).getD i 0 = 0 := by
        simp only [List.getD]
        rw [List.getElem?_eq_none (by rw [addM_len]; omega)]
        rfl
      rw [this]; omega

end Go.Proofs.Ytdapdaadglaoiaa
