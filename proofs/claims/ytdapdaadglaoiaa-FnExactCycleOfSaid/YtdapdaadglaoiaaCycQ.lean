/- The cycle of a chord, plain: what the steps of l05Cycle want to know. No program. -/
import Derived.Test.YtdapdaadglaoiaaCycP
namespace Go.Proofs.Ytdapdaadglaoiaa
open Go.RowKit

theorem pb_take {n : Net} {v : Int} {s : Sr} (g : Good n v s) (d : Nat) : ∀ x : Nat, (x : Int) ∈ s.order → s.dist.getD x 0 = d → ∀ k, k ≤ d →
    ∃ y : Nat, (y : Int) ∈ s.order ∧ s.dist.getD y 0 = k ∧ (pb n s d x).reverse.take k = (pb n s k y).reverse := by
  induction d with
  | zero =>
    intro x hx hd k hk
    obtain rfl : k = 0 := by omega
    exact ⟨x, hx, hd, rfl⟩
  | succ d ih =>
    intro x hx hd k hk
    have hne : (x : Int) ≠ v := fun e => by
      have := g.d0
      rw [← e, Int.toNat_natCast] at this
      omega
    obtain ⟨i, y, e, hi, he, h1, h2, h3, h4, h5, h6⟩ := g.back hx hne hd
    obtain rfl : e = d := by omega
    by_cases hkd : k ≤ e
    · obtain ⟨z, hz, hzd, hzt⟩ := ih y h4 h5 k hkd
      refine ⟨z, hz, hzd, ?_⟩
      rw [h6, List.reverse_cons, List.take_append_of_le_length (by simp [pb_len]; exact hkd)]
      exact hzt
    · obtain rfl : k = e + 1 := by omega
      exact ⟨x, hx, hd, by rw [List.take_of_length_le (by simp [pb_len])]⟩
theorem pb_elem {n : Net} {v : Int} {s : Sr} (g : Good n v s) (d : Nat) : ∀ x : Nat, (x : Int) ∈ s.order → s.dist.getD x 0 = d → ∀ j ∈ pb n s d x, ∃ i : Nat, j = i ∧ i < n.pipes.length := by
  induction d with
  | zero => intro x _ _ j hj; cases hj
  | succ d ih =>
    intro x hx hd j hj
    have hne : (x : Int) ≠ v := fun e => by
      have := g.d0
      rw [← e, Int.toNat_natCast] at this
      omega
    obtain ⟨i, y, e, hi, he, h1, h2, h3, h4, h5, h6⟩ := g.back hx hne hd
    obtain rfl : e = d := by omega
    rw [h6] at hj
    rcases List.mem_cons.1 hj with rfl | hj
    · exact ⟨i, rfl, hi⟩
    · exact ih y h4 h5 j hj
def csAt (n : Net) (c : Int) (k : Nat) : List Int × Int := ((pathOf (treeN n) (pAt n c).to (pAt n c).fr).take k).foldl (csStep n) (csIni n c)
theorem csAt_succ {n : Net} {c : Int} {k : Nat} (h : k < (pathOf (treeN n) (pAt n c).to (pAt n c).fr).length) : csAt n c (k + 1) = csStep n (csAt n c k) (pathOf (treeN n) (pAt n c).to (pAt n c).fr)[k] := by
  unfold csAt
  rw [List.take_succ_eq_append_getElem h, List.foldl_append]; rfl
theorem csAt_succ' {n : Net} {c : Int} {k : Nat} {P : List Int} (hp : pathOf (treeN n) (pAt n c).to (pAt n c).fr = P) (h : k < P.length) : csAt n c (k + 1) = csStep n (csAt n c k) P[k] := by
  subst hp
  exact csAt_succ h
theorem csAt_end (n : Net) (c : Int) : (csAt n c (pathOf (treeN n) (pAt n c).to (pAt n c).fr).length).1 = cyS n c := by
  unfold csAt cyS
  rw [List.take_length]
theorem csAt_len (n : Net) (c : Int) (k : Nat) : (csAt n c k).1.length = n.pipes.length := by
  have hf : ∀ (xs : List Int) (st : List Int × Int), (xs.foldl (csStep n) st).1.length = st.1.length := by
    intro xs
    induction xs with
    | nil => intro st; rfl
    | cons x xs ih => intro st; exact (ih _).trans (by simp [csStep])
  unfold csAt
  rw [hf]; simp [csIni]
theorem csStep_two (n : Net) (st : List Int × Int) (j : Int) : (csStep n st j).2 = (pAt (treeN n) j).fr + (pAt (treeN n) j).to - st.2 := rfl
theorem cyc_path {n : Net} (hb : netB n = true) {c : Nat} (hc : c < n.pipes.length) :
    ∃ t f : Nat, n.pipes[c].to = t ∧ n.pipes[c].fr = f ∧ t < n.nodes.length ∧ f < n.nodes.length ∧ t ≠ f ∧ 0 ≤ (srch (treeN n) t).dist.getD f 0 ∧
      (∀ k, k ≤ (pathOf (treeN n) t f).length → ∃ x : Nat, (csAt n c k).2 = x ∧ x < n.nodes.length) ∧
      (∀ k (hk : k < (pathOf (treeN n) t f).length), ∃ j q : Nat, (pathOf (treeN n) t f)[k] = j ∧ ∃ hj : j < (treeN n).pipes.length, (forest n).getD j 0 = q ∧ ∃ hq : q < n.pipes.length, (treeN n).pipes[j] = n.pipes[q]) := by
  obtain ⟨f0, f1, t0, t1, hne⟩ := netB_pipe hb (List.getElem_mem hc)
  have hbt := netB_tree hb
  obtain ⟨f, hf⟩ : ∃ f : Nat, n.pipes[c].fr = f := ⟨n.pipes[c].fr.toNat, by omega⟩
  obtain ⟨t, ht⟩ : ∃ t : Nat, n.pipes[c].to = t := ⟨n.pipes[c].to.toNat, by omega⟩
  rw [ht] at t0 t1 hne
  rw [hf] at f0 f1 hne
  have g := good_srch hbt (v := (t : Int)) t0 t1
  have at' : atF n.pipes[c].to n.pipes[c] = true := atF_iff.2 (Or.inr rfl)
  have ot : oth n.pipes[c] n.pipes[c].to = n.pipes[c].fr := by unfold oth; rw [if_neg (by rw [hf, ht]; exact hne)]
  have hr : Reach (treeN n) n.pipes[c].to f := (tree_reach hb _ _).2 (by rw [← hf]; exact Reach.refl.step ⟨c, hc, at', ot⟩)
  rw [ht] at hr
  have hm := (srch_iff hbt t0 t1 f).2 hr
  have hnn := g.nn hm
  rw [Int.toNat_natCast] at hnn
  obtain ⟨D, hD⟩ : ∃ D : Nat, (srch (treeN n) t).dist.getD f 0 = D := ⟨((srch (treeN n) t).dist.getD f 0).toNat, by omega⟩
  have hpath : pathOf (treeN n) t f = (pb (treeN n) (srch (treeN n) t) D f).reverse := by
    unfold pathOf
    rw [Int.toNat_natCast, hD, Int.toNat_natCast]
  have hcs : ∀ k, csAt n c k = ((pathOf (treeN n) t f).take k).foldl (csStep n) ((List.replicate n.pipes.length 0).set c 1, (t : Int)) := fun k => by
    unfold csAt csIni
    rw [pAt_nat hc, ht, hf, Int.toNat_natCast]
  refine ⟨t, f, ht, hf, by omega, by omega, by omega, hnn, fun k hk => ?_, fun k hk => ?_⟩
  · rw [hpath, List.length_reverse, pb_len] at hk
    obtain ⟨y, hy, hyd, hyt⟩ := pb_take g D f hm hD k hk
    have hys := g.rng _ hy
    refine ⟨y, ?_, by simpa [treeN] using hys.2⟩
    rw [hcs, hpath, hyt]
    have key : ∀ (d x : Nat) (o : List Int), (x : Int) ∈ (srch (treeN n) t).order → (srch (treeN n) t).dist.getD x 0 = d → ((pb (treeN n) (srch (treeN n) t) d x).reverse.foldl (csStep n) (o, (t : Int))).2 = x := by
      intro d
      induction d with
      | zero =>
        intro x o hx hd
        exact (g.zero hx (by rw [Int.toNat_natCast]; exact hd)).symm
      | succ d ih =>
        intro x o hx hd
        have hne : (x : Int) ≠ (t : Int) := fun e => by
          have h0 := g.d0
          rw [Int.toNat_natCast] at h0
          obtain rfl : x = t := by omega
          omega
        obtain ⟨i, y, e, hi, he, h1, h2, h3, h4, h5, h6⟩ := g.back hx hne hd
        obtain rfl : e = d := by omega
        rw [h6, List.reverse_cons, List.foldl_append]
        show (csStep n _ _).2 = _
        rw [csStep_two, ih y o h4 h5, pAt_nat hi]
        have h7 := oth_sum h2
        rw [h3] at h7
        omega
    exact key k y _ hy hyd
  · have hk2 : k < (pb (treeN n) (srch (treeN n) t) D f).reverse.length := by rw [← hpath]; exact hk
    have hmem : (pathOf (treeN n) t f)[k] ∈ pb (treeN n) (srch (treeN n) t) D f := by
      have h1 := List.getElem_mem hk
      generalize (pathOf (treeN n) t f)[k] = z at h1
      rw [hpath] at h1
      exact List.mem_reverse.1 h1
    obtain ⟨j, hj, hjl⟩ := pb_elem g D f hm hD _ hmem
    obtain ⟨q, hq, h1, _, h2⟩ := tree_pipe hjl
    exact ⟨j, q, hj, hjl, h1, hq, h2⟩
theorem csStep_nat {n : Net} {st : List Int × Int} {j q x : Nat} (hj : j < (treeN n).pipes.length) (hq : q < n.pipes.length) (h1 : (forest n).getD j 0 = q) (h2 : (treeN n).pipes[j] = n.pipes[q]) (hx : st.2 = x) :
    csStep n st j = (st.1.set q (if n.pipes[q].fr = x then 1 else -1), n.pipes[q].fr + n.pipes[q].to - x) := by
  unfold csStep
  rw [Int.toNat_natCast, h1, Int.toNat_natCast, pAt_nat hj, h2, hx]
end Go.Proofs.Ytdapdaadglaoiaa
