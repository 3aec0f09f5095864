/- The cycle of a chord, plain: both ways give the same flow. No program. -/
import Derived.Test.YtdapdaadglaoiaaFFlow
namespace Go.Proofs.Ytdapdaadglaoiaa
open Go.RowKit

/-- The pipes that are not in the forest. -/
def chords (n : Net) : List Int := ((List.range n.pipes.length).filter (fun i => !inF n i)).map (fun i : Nat => (i : Int))
theorem inF_iff {n : Net} {i : Nat} (hi : i < n.pipes.length) : inF n i = true ↔ (i : Int) ∈ forest n := by
  unfold inF
  simp only [decide_eq_true_eq]
  constructor
  · intro h; exact forest_mem.2 ⟨i, rfl, hi, h⟩
  · intro h; obtain ⟨_, _, _, h⟩ := forest_mem.1 h; exact h
theorem chords_mem {n : Net} {e : Int} : e ∈ chords n ↔ ∃ i : Nat, e = i ∧ i < n.pipes.length ∧ (i : Int) ∉ forest n := by
  unfold chords
  simp only [List.mem_map, List.mem_filter, List.mem_range, Bool.not_eq_true']
  constructor
  · rintro ⟨i, ⟨h1, h2⟩, rfl⟩
    exact ⟨i, rfl, h1, fun h => by rw [(inF_iff h1).2 h] at h2; cases h2⟩
  · rintro ⟨i, rfl, h1, h2⟩
    refine ⟨i, ⟨h1, ?_⟩, rfl⟩
    cases h : inF n i
    · rfl
    · exact absurd ((inF_iff h1).1 h) h2
theorem chords_sorted (n : Net) : (chords n).Pairwise (fun a b => a < b) := by
  unfold chords
  rw [List.pairwise_map, List.pairwise_filter]
  exact List.Pairwise.imp (fun h _ _ => by omega) List.pairwise_lt_range
theorem chords_le (n : Net) : (chords n).length ≤ n.pipes.length := by
  unfold chords
  rw [List.length_map]
  exact Nat.le_trans (List.length_filter_le _ _) (by simp)

/-- The supplies of a chord's cycle. -/
def supOf (n : Net) (c : Int) : List Int := ((List.replicate n.nodes.length 0).set (pAt n c).to.toNat 1).set (pAt n c).fr.toNat (-1)
def cyI (n : Net) (c : Int) : List Int := (fflows n (supOf n c)).set c.toNat 1
def csStep (n : Net) (st : List Int × Int) (j : Int) : List Int × Int :=
  (st.1.set ((forest n).getD j.toNat 0).toNat (if (pAt (treeN n) j).fr = st.2 then 1 else -1), (pAt (treeN n) j).fr + (pAt (treeN n) j).to - st.2)
def csIni (n : Net) (c : Int) : List Int × Int := ((List.replicate n.pipes.length 0).set c.toNat 1, (pAt n c).to)
def cyS (n : Net) (c : Int) : List Int := ((pathOf (treeN n) (pAt n c).to (pAt n c).fr).foldl (csStep n) (csIni n c)).1

theorem rep0 (m i : Nat) : (List.replicate m (0 : Int)).getD i 0 = 0 := by
  simp only [List.getD, List.getElem?_replicate]; split <;> rfl
theorem sumL_rep (m : Nat) (xs : List Int) : sumL (List.replicate m 0) xs = 0 := by
  unfold sumL
  induction xs with
  | nil => rfl
  | cons a xs ih => rw [List.map_cons, List.sum_cons, ih, rep0]; rfl
theorem sup_even {n : Net} (hb : netB n = true) {c : Nat} (hc : c < n.pipes.length) {r : Nat} (hr : r < n.nodes.length) : sumL (supOf n c) (srch n r).order = 0 := by
  have g := good_srch hb (v := (r : Int)) (by omega) (by omega)
  obtain ⟨f0, f1, t0, t1, hne⟩ := netB_pipe hb (List.getElem_mem hc)
  have hpos : ∀ x ∈ (srch n r).order, 0 ≤ x := fun x hx => (g.rng x hx).1
  have af : atF n.pipes[c].fr n.pipes[c] = true := atF_iff.2 (Or.inl rfl)
  have at' : atF n.pipes[c].to n.pipes[c] = true := atF_iff.2 (Or.inr rfl)
  have of : oth n.pipes[c] n.pipes[c].fr = n.pipes[c].to := by simp [oth]
  have ot : oth n.pipes[c] n.pipes[c].to = n.pipes[c].fr := by unfold oth; rw [if_neg hne]
  unfold supOf
  rw [pAt_nat hc]
  by_cases h : n.pipes[c].fr ∈ (srch n r).order
  · have h2 : n.pipes[c].to ∈ (srch n r).order := srch_closed hb (by omega) (by omega) h ⟨c, hc, af, of⟩
    rw [sumL_set g.nd hpos h (by simp; omega), sumL_set g.nd hpos h2 (by simp; omega), sumL_rep, rep0, getD_set_ne' (by omega), rep0]
    omega
  · have h2 : n.pipes[c].to ∉ (srch n r).order := fun h2 => h (srch_closed hb (by omega) (by omega) h2 ⟨c, hc, at', ot⟩)
    rw [sumL_set_out (fun x hx e => h (by have := hpos x hx; have : x = n.pipes[c].fr := by omega
                                          exact this ▸ hx)), sumL_set_out (fun x hx e => h2 (by have := hpos x hx; have : x = n.pipes[c].to := by omega
                                                                                                exact this ▸ hx)), sumL_rep]
theorem sup_at {n : Net} (hb : netB n = true) {c : Nat} (hc : c < n.pipes.length) (x : Nat) (hx : x < n.nodes.length) : (supOf n c).getD x 0 = - inc n.pipes[c] x := by
  obtain ⟨f0, f1, t0, t1, hne⟩ := netB_pipe hb (List.getElem_mem hc)
  unfold supOf inc
  rw [pAt_nat hc]
  by_cases e1 : n.pipes[c].fr = x
  · rw [if_pos e1, if_neg (by omega), e1, Int.toNat_natCast, getD_set_same' (by simpa using hx)]; rfl
  · rw [getD_set_ne' (by omega), if_neg e1]
    by_cases e2 : n.pipes[c].to = x
    · rw [if_pos e2, e2, Int.toNat_natCast, getD_set_same' (by simpa using hx)]; rfl
    · rw [getD_set_ne' (by omega), if_neg e2, rep0]; rfl
theorem cyI_spec {n : Net} (hb : netB n = true) {c : Nat} (hc : c < n.pipes.length) (hch : (c : Int) ∉ forest n) :
    (cyI n c).length = n.pipes.length ∧ (∀ x : Nat, x < n.nodes.length → outAt n (cyI n c) x = 0) ∧ ∀ i, i < n.pipes.length → (i : Int) ∉ forest n → (cyI n c).getD i 0 = if i = c then 1 else 0 := by
  have hl : (supOf n c).length = n.nodes.length := by simp [supOf]
  obtain ⟨h1, h2, h3⟩ := fflows_spec hb hl (fun r hr _ => sup_even hb hc hr)
  have h0 : ∀ i, i < n.pipes.length → (i : Int) ∉ forest n → (fflows n (supOf n c)).getD i 0 = 0 := fun i hi hf => by
    rcases Int.decEq ((fflows n (supOf n c)).getD i 0) 0 with h | h
    · exact absurd (h3 i hi h) hf
    · exact h
  unfold cyI
  rw [Int.toNat_natCast]
  refine ⟨by simpa using h1, fun x hx => ?_, fun i hi hf => ?_⟩
  · rw [outAt_set h1 hc, h2 x hx, h0 c hc hch, pAt_nat hc, sup_at hb hc x hx]; omega
  · by_cases e : i = c
    · subst e; rw [if_pos rfl, getD_set_same' (by omega)]
    · rw [if_neg e, getD_set_ne' (fun h => e h.symm)]; exact h0 i hi hf

/-- A pipe of the tree. -/
theorem tree_pipe {n : Net} {j : Nat} (hj : j < (treeN n).pipes.length) : ∃ q : Nat, ∃ hq : q < n.pipes.length, (forest n).getD j 0 = q ∧ (q : Int) ∈ forest n ∧ (treeN n).pipes[j] = n.pipes[q] := by
  have hj' : j < (forest n).length := by simpa [treeN] using hj
  have hm := List.getElem_mem hj'
  obtain ⟨q, e, hq, _⟩ := forest_mem.1 hm
  refine ⟨q, hq, by simpa [List.getD, hj'] using e, e ▸ hm, ?_⟩
  have : (treeN n).pipes[j] = pAt n (forest n)[j] := by simp [treeN]
  rw [this, e, pAt_nat hq]
theorem forest_get_inj {n : Net} {i j : Nat} (hi : i < (forest n).length) (hj : j < (forest n).length) (h : (forest n).getD i 0 = (forest n).getD j 0) : i = j := by
  have := List.pairwise_iff_getElem.1 (forest_sorted n)
  have h1 : (forest n).getD i 0 = (forest n)[i] := by simp [List.getD, hi]
  have h2 : (forest n).getD j 0 = (forest n)[j] := by simp [List.getD, hj]
  rcases Nat.lt_trichotomy i j with h3 | h3 | h3
  · have := this i j hi hj h3; omega
  · exact h3
  · have := this j i hj hi h3; omega
structure CsInv (n : Net) (s : Sr) (o0 : List Int) (t : Int) (d x : Nat) (st : List Int × Int) : Prop where
  at_ : st.2 = x
  len : st.1.length = n.pipes.length
  out : ∀ z : Int, outAt n st.1 z = outAt n o0 z + ((if z = t then 1 else 0) - (if z = (x : Int) then 1 else 0))
  off : ∀ i, i < n.pipes.length → (i : Int) ∉ forest n → st.1.getD i 0 = o0.getD i 0
  zero : ∀ y : Nat, (y : Int) ∈ s.order → (y : Int) ≠ t → (d : Int) < s.dist.getD y 0 → st.1.getD ((forest n).getD (s.ent.getD y 0).toNat 0).toNat 0 = 0
  bnd : ∀ i, -1 ≤ st.1.getD i 0 ∧ st.1.getD i 0 ≤ 1
theorem cs_path {n : Net} (hb : netB n = true) {t : Int} {s : Sr} (g : Good (treeN n) t s) {o0 : List Int} (hl : o0.length = n.pipes.length) (hz : ∀ i, i < n.pipes.length → (i : Int) ∈ forest n → o0.getD i 0 = 0) (hbd : ∀ i, -1 ≤ o0.getD i 0 ∧ o0.getD i 0 ≤ 1) (d : Nat) :
    ∀ x : Nat, (x : Int) ∈ s.order → s.dist.getD x 0 = d → CsInv n s o0 t d x ((pb (treeN n) s d x).reverse.foldl (csStep n) (o0, t)) := by
  have hbt := netB_tree hb
  induction d with
  | zero =>
    intro x hx hd
    have hxt := g.zero hx (by rw [Int.toNat_natCast]; exact hd)
    refine ⟨hxt.symm, hl, fun z => ?_, fun _ _ _ => rfl, fun y hy hyt _ => ?_, hbd⟩
    · rw [hxt]
      show outAt n o0 z = _
      omega
    · obtain ⟨i, hi, e1, _⟩ := g.up hy hyt
      rw [Int.toNat_natCast] at e1
      rw [e1, Int.toNat_natCast]
      obtain ⟨q, hq, e2, hqf, _⟩ := tree_pipe hi
      rw [e2, Int.toNat_natCast]
      exact hz q hq hqf
  | succ d ih =>
    intro x hx hd
    have hne : (x : Int) ≠ t := fun e => by
      have := g.d0
      rw [← e, Int.toNat_natCast] at this
      omega
    obtain ⟨i, y, e, hi, he, h1, h2, h3, h4, h5, h6⟩ := g.back hx hne hd
    obtain rfl : e = d := by omega
    have I := ih y h4 h5
    rw [h6, List.reverse_cons, List.foldl_append]
    show CsInv n s o0 t (e + 1) x (csStep n _ (i : Int))
    obtain ⟨st, hst⟩ : ∃ st, st = (pb (treeN n) s e y).reverse.foldl (csStep n) (o0, t) := ⟨_, rfl⟩
    rw [← hst] at I ⊢
    obtain ⟨q, hq, e2, hqf, e3⟩ := tree_pipe hi
    rw [e3] at h2 h3
    have hq0 : st.1.getD q 0 = 0 := by
      have := I.zero x hx hne (by omega)
      rw [h1, Int.toNat_natCast, e2, Int.toNat_natCast] at this
      exact this
    have hpp := netB_pipe hb (List.getElem_mem hq)
    have hc1 : (csStep n st i).1 = st.1.set q (if n.pipes[q].fr = (y : Int) then 1 else -1) := by
      unfold csStep
      simp only [Int.toNat_natCast, e2, pAt_nat hi, e3, I.at_]
    have hc2 : (csStep n st i).2 = n.pipes[q].fr + n.pipes[q].to - y := by
      unfold csStep
      simp only [pAt_nat hi, e3, I.at_]
    have hends := oth_ends h2
    rw [h3] at hends
    refine ⟨by rw [hc2]; omega, by rw [hc1]; simpa using I.len, fun z => ?_, fun j hj hf => ?_, fun z hz1 hz2 hz3 => ?_, fun j => ?_⟩
    · rw [hc1, outAt_set I.len hq, hq0, pAt_nat hq, I.out z, Int.add_assoc]
      congr 1
      unfold inc
      rcases hends with ⟨h7, h8⟩ | ⟨h7, h8⟩
      · have hxy : ¬ ((x : Int) = (y : Int)) := by omega
        rw [h7, h8, if_neg hxy]
        have a1 : ((x : Int) = z) ↔ z = (x : Int) := ⟨Eq.symm, Eq.symm⟩
        have a2 : ((y : Int) = z) ↔ z = (y : Int) := ⟨Eq.symm, Eq.symm⟩
        simp only [a1, a2]
        omega
      · rw [h7, h8, if_pos (rfl : (y : Int) = (y : Int))]
        have a1 : ((x : Int) = z) ↔ z = (x : Int) := ⟨Eq.symm, Eq.symm⟩
        have a2 : ((y : Int) = z) ↔ z = (y : Int) := ⟨Eq.symm, Eq.symm⟩
        simp only [a1, a2]
        omega
    · rw [hc1, getD_set_ne' (fun e => hf (by rw [← e]; exact hqf))]
      exact I.off j hj hf
    · have hzx : z ≠ x := fun e => by subst e; omega
      obtain ⟨k, hk, f1, _⟩ := g.up hz1 hz2
      rw [Int.toNat_natCast] at f1
      have hki : k ≠ i := fun e => by
        have hzr := g.rng _ hz1
        have hxr := g.rng _ hx
        exact hzx (g.ent_inj (x := z) (y := x) (by omega) (by omega) (by omega) (by omega))
      have hkl : k < (forest n).length := by simpa [treeN] using hk
      have hil : i < (forest n).length := by simpa [treeN] using hi
      have := I.zero z hz1 hz2 (by omega)
      rw [hc1, getD_set_ne']
      · exact this
      · intro e4
        apply hki
        apply forest_get_inj hkl hil
        obtain ⟨q2, _, e5, _⟩ := tree_pipe hk
        rw [f1, Int.toNat_natCast, e5, Int.toNat_natCast] at e4
        rw [e5, e2]; omega
    · rw [hc1]
      by_cases e4 : q = j
      · subst e4
        rw [getD_set_same' (by rw [I.len]; exact hq)]
        split <;> omega
      · rw [getD_set_ne' e4]; exact I.bnd j
theorem cyS_spec {n : Net} (hb : netB n = true) {c : Nat} (hc : c < n.pipes.length) (hch : (c : Int) ∉ forest n) :
    (cyS n c).length = n.pipes.length ∧ (∀ x : Nat, x < n.nodes.length → outAt n (cyS n c) x = 0) ∧ (∀ i, i < n.pipes.length → (i : Int) ∉ forest n → (cyS n c).getD i 0 = if i = c then 1 else 0) ∧ ∀ i, -1 ≤ (cyS n c).getD i 0 ∧ (cyS n c).getD i 0 ≤ 1 := by
  obtain ⟨f0, f1, t0, t1, hne⟩ := netB_pipe hb (List.getElem_mem hc)
  have hbt := netB_tree hb
  have g := good_srch hbt (v := n.pipes[c].to) t0 t1
  obtain ⟨f, hf⟩ : ∃ f : Nat, n.pipes[c].fr = f := ⟨n.pipes[c].fr.toNat, by omega⟩
  have at' : atF n.pipes[c].to n.pipes[c] = true := atF_iff.2 (Or.inr rfl)
  have ot : oth n.pipes[c] n.pipes[c].to = n.pipes[c].fr := by unfold oth; rw [if_neg hne]
  have hr : Reach (treeN n) n.pipes[c].to f := (tree_reach hb _ _).2 (by rw [← hf]; exact Reach.refl.step ⟨c, hc, at', ot⟩)
  have hm := (srch_iff hbt t0 t1 f).2 hr
  have hnn := g.nn hm
  rw [Int.toNat_natCast] at hnn
  obtain ⟨D, hD⟩ : ∃ D : Nat, (srch (treeN n) n.pipes[c].to).dist.getD f 0 = D := ⟨((srch (treeN n) n.pipes[c].to).dist.getD f 0).toNat, by omega⟩
  have hcne : ∀ i, (i : Nat) ≠ c → ((List.replicate n.pipes.length (0 : Int)).set c 1).getD i 0 = 0 := fun i h => by rw [getD_set_ne' (fun e => h e.symm), rep0]
  have hcc : ((List.replicate n.pipes.length (0 : Int)).set c 1).getD c 0 = 1 := getD_set_same' (by simpa using hc)
  have I := cs_path hb g (o0 := (List.replicate n.pipes.length 0).set c 1) (by simp) (fun i hi h => hcne i (fun e => hch (by rw [← e]; exact h))) (fun i => by
    by_cases e : i = c
    · subst e; rw [hcc]; omega
    · rw [hcne i e]; omega) D f hm hD
  have hcy : cyS n c = ((pb (treeN n) (srch (treeN n) n.pipes[c].to) D f).reverse.foldl (csStep n) ((List.replicate n.pipes.length 0).set c 1, n.pipes[c].to)).1 := by
    unfold cyS csIni pathOf
    rw [pAt_nat hc, hf, Int.toNat_natCast, Int.toNat_natCast, hD, Int.toNat_natCast]
  rw [hcy]
  refine ⟨I.len, fun x hx => ?_, fun i hi hfo => ?_, I.bnd⟩
  · rw [I.out, outAt_set (by simp) hc, outAt_zero, rep0, pAt_nat hc]
    unfold inc
    rw [hf]
    have a1 : ((x : Int) = n.pipes[c].to) ↔ n.pipes[c].to = (x : Int) := ⟨Eq.symm, Eq.symm⟩
    have a2 : ((x : Int) = (f : Int)) ↔ (f : Int) = (x : Int) := ⟨Eq.symm, Eq.symm⟩
    simp only [a1, a2]
    omega
  · rw [I.off i hi hfo]
    by_cases e : i = c
    · subst e; rw [if_pos rfl, hcc]
    · rw [if_neg e, hcne i e]
theorem cyc_eq {n : Net} (hb : netB n = true) {c : Nat} (hc : c < n.pipes.length) (hch : (c : Int) ∉ forest n) : cyI n c = cyS n c := by
  obtain ⟨h1, h2, h3⟩ := cyI_spec hb hc hch
  obtain ⟨g1, g2, g3, _⟩ := cyS_spec hb hc hch
  exact flow_eq hb h1 g1 (fun i hi hf => by rw [h3 i hi hf, g3 i hi hf]) (fun x hx => by rw [h2 x hx, g2 x hx])

end Go.Proofs.Ytdapdaadglaoiaa
