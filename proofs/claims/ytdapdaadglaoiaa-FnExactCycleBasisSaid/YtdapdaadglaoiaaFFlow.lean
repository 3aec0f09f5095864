/- What forestFlows computes, plain: it balances even supplies. No program. -/
import Derived.Test.YtdapdaadglaoiaaFlow
namespace Go.Proofs.Ytdapdaadglaoiaa
open Go.RowKit

/-- One node of forestFlows: its entry takes what is left at it, and its parent gets it. -/
def ffStep (n : Net) (s : Sr) (st : List Int × List Int) (x : Int) : List Int × List Int :=
  (st.1.set (s.ent.getD x.toNat 0).toNat (if (pAt n (s.ent.getD x.toNat 0)).to = x then - st.2.getD x.toNat 0 else st.2.getD x.toNat 0),
   st.2.set (oth (pAt n (s.ent.getD x.toNat 0)) x).toNat (st.2.getD (oth (pAt n (s.ent.getD x.toNat 0)) x).toNat 0 + st.2.getD x.toNat 0))
def backOf (s : Sr) : List Int := (s.order.drop 1).reverse
def ffRoot (n : Net) (st : List Int × List Int) (r : Nat) : List Int × List Int := (backOf (srch n r)).foldl (ffStep n (srch n r)) st
def ffIter (n : Net) (sup : List Int) : Nat → List Int × List Int
  | 0 => (List.replicate n.pipes.length 0, sup)
  | k + 1 => if isRoot n k = true then ffRoot n (ffIter n sup k) k else ffIter n sup k
def fflows (n : Net) (sup : List Int) : List Int := (ffIter n sup n.nodes.length).1
def sumL (L : List Int) (xs : List Int) : Int := (xs.map (fun x => L.getD x.toNat 0)).sum
theorem sumL_set_out {L : List Int} {xs : List Int} {y : Nat} {v : Int} (h : ∀ x ∈ xs, x.toNat ≠ y) : sumL (L.set y v) xs = sumL L xs := by
  unfold sumL
  rw [List.map_congr_left (fun x hx => getD_set_ne' (fun e => h x hx e.symm))]
theorem sumL_set {L : List Int} {xs : List Int} (hnd : xs.Nodup) (hpos : ∀ x ∈ xs, 0 ≤ x) {y : Int} (hy : y ∈ xs) (hl : y.toNat < L.length) (v : Int) : sumL (L.set y.toNat v) xs = sumL L xs + (v - L.getD y.toNat 0) := by
  induction xs with
  | nil => cases hy
  | cons a xs ih =>
    have hnd' := List.nodup_cons.1 hnd
    by_cases e : a = y
    · subst e
      have h1 : sumL (L.set a.toNat v) xs = sumL L xs := sumL_set_out (fun x hx e => by
        have h1 := hpos x (List.mem_cons_of_mem _ hx)
        have h2 := hpos a (by simp)
        have h3 : x = a := by omega
        exact hnd'.1 (h3 ▸ hx))
      show (L.set a.toNat v).getD a.toNat 0 + sumL (L.set a.toNat v) xs = L.getD a.toNat 0 + sumL L xs + _
      rw [h1, getD_set_same' hl]; omega
    · have hy' : y ∈ xs := (List.mem_cons.1 hy).resolve_left (fun h => e h.symm)
      show (L.set y.toNat v).getD a.toNat 0 + sumL (L.set y.toNat v) xs = L.getD a.toNat 0 + sumL L xs + _
      have h1 := hpos a (by simp)
      have h2 := hpos y hy
      rw [ih hnd'.2 (fun x hx => hpos x (List.mem_cons_of_mem _ hx)) hy', getD_set_ne' (by omega)]; omega

structure FK (n : Net) (sup : List Int) (r : Nat) (j : Nat) (st : List Int × List Int) : Prop where
  lf : st.1.length = n.pipes.length
  ll : st.2.length = n.nodes.length
  lo : ∀ x, x < n.nodes.length → rootN n x < r → outAt n st.1 x = sup.getD x 0
  hi : ∀ x, x < n.nodes.length → r < rootN n x → outAt n st.1 x = 0 ∧ st.2.getD x 0 = sup.getD x 0 ∧ (isRoot n x = false → st.1.getD (entN n x) 0 = 0)
  dn : ∀ x, x < n.nodes.length → rootN n x = r → (x : Int) ∉ (srch n r).order.take j → outAt n st.1 x = sup.getD x 0
  up : ∀ x, x < n.nodes.length → rootN n x = r → (x : Int) ∈ (srch n r).order.take j → outAt n st.1 x = sup.getD x 0 - st.2.getD x 0 ∧ (isRoot n x = false → st.1.getD (entN n x) 0 = 0)
  sm : sumL st.2 ((srch n r).order.take j) = sumL sup (srch n r).order
  sp : ∀ i, i < n.pipes.length → st.1.getD i 0 ≠ 0 → (i : Int) ∈ forest n
theorem fk_step {n : Net} (hb : netB n = true) {sup : List Int} {r : Nat} (hr : r < n.nodes.length) (hroot : isRoot n r = true) {j : Nat} (hj0 : 0 < j) (hj : j < (srch n r).order.length) {st : List Int × List Int} (h : FK n sup r (j + 1) st) :
    FK n sup r j (ffStep n (srch n r) st (srch n r).order[j]) := by
  have g := good_srch hb (v := (r : Int)) (by omega) (by omega)
  obtain ⟨i, e1, hi, a1, q, hq, hqj, hoq, hd⟩ := g.tree j hj hj0
  have hxm := List.getElem_mem hj
  have hxr := g.rng _ hxm
  obtain ⟨x, hx⟩ : ∃ x : Nat, (srch n r).order[j] = x := ⟨((srch n r).order[j]).toNat, by omega⟩
  have hqm := List.getElem_mem hq
  have hqr := g.rng _ hqm
  obtain ⟨y, hy⟩ : ∃ y : Nat, (srch n r).order[q] = y := ⟨((srch n r).order[q]).toNat, by omega⟩
  have htake : (srch n r).order.take (j + 1) = (srch n r).order.take j ++ [(x : Int)] := by rw [List.take_succ_eq_append_getElem hj, hx]
  rw [hx] at e1 a1 hoq hxm hxr ⊢
  rw [hy] at hoq hqm hqr
  rw [Int.toNat_natCast] at e1
  have hxN : x < n.nodes.length := by omega
  have hyN : y < n.nodes.length := by omega
  have rx : rootN n x = r := root_unique hb hr hxN hroot ((srch_iff hb (by omega) (by omega) x).1 hxm)
  have ry : rootN n y = r := root_unique hb hr hyN hroot ((srch_iff hb (by omega) (by omega) y).1 hqm)
  have hxy : x ≠ y := by
    have := (oth_rng hb hi a1).2.2.2.2
    rw [hoq] at this; omega
  have hnd : ((srch n r).order.take (j + 1)).Nodup := g.nd.sublist (List.take_sublist _ _)
  have hxt : (x : Int) ∉ (srch n r).order.take j := by
    rw [htake] at hnd
    intro hm
    exact (List.nodup_append.1 hnd).2.2 _ hm _ (by simp) rfl
  have hyt : (y : Int) ∈ (srch n r).order.take j := List.mem_take_iff_getElem.2 ⟨q, by omega, hy⟩
  have hne : (x : Int) ≠ r := fun e => by
    have h0 := g.head
    have : (srch n r).order[0]'g.pos = (srch n r).order[j] := by rw [h0, hx, e]
    have := (List.nodup_iff_pairwise_ne.1 g.nd)
    rw [List.pairwise_iff_getElem] at this
    exact this 0 j g.pos hj hj0 (by assumption)
  have hxnr : isRoot n x = false := by
    cases hc : isRoot n x
    · rfl
    · have := root_unique hb hxN hxN hc .refl
      omega
  have hen : entN n x = i := by unfold entN; rw [rx, e1]; rfl
  have hF0 : st.1.getD i 0 = 0 := by
    have := (h.up x hxN rx (by rw [htake]; simp)).2 hxnr
    rw [hen] at this; exact this
  obtain ⟨l, hl⟩ : ∃ l, l = st.2.getD x 0 := ⟨_, rfl⟩
  have hpp := netB_pipe hb (List.getElem_mem hi)
  have hst1 : (ffStep n (srch n r) st x).1 = st.1.set i (if n.pipes[i].to = x then -l else l) := by
    unfold ffStep; simp only [Int.toNat_natCast, e1, pAt_nat hi, ← hl]
  have hst2 : (ffStep n (srch n r) st x).2 = st.2.set y (st.2.getD y 0 + l) := by
    unfold ffStep; simp only [Int.toNat_natCast, e1, pAt_nat hi, hoq, ← hl]
  have hout : ∀ z : Nat, outAt n (ffStep n (srch n r) st x).1 z = outAt n st.1 z + l * ((if z = x then 1 else 0) - (if z = y then 1 else 0)) := by
    intro z
    rw [hst1, outAt_set h.lf hi, hF0, pAt_nat hi]
    congr 1
    unfold inc
    rcases oth_ends a1 with ⟨h3, h4⟩ | ⟨h3, h4⟩
    · have h5 : n.pipes[i].to = y := by omega
      rw [h3, h5, if_neg (by omega : ¬ (y : Int) = x)]
      have e3 : ((x : Int) = z) ↔ z = x := by omega
      have e4 : ((y : Int) = z) ↔ z = y := by omega
      simp only [e3, e4]
      rw [Int.sub_zero]
    · have h5 : n.pipes[i].fr = y := by omega
      rw [h3, h5, if_pos rfl]
      have e3 : ((x : Int) = z) ↔ z = x := by omega
      have e4 : ((y : Int) = z) ↔ z = y := by omega
      simp only [e3, e4]
      rw [Int.sub_zero, Int.neg_mul, ← Int.mul_neg]
      congr 1
      omega
  have hoth : ∀ z : Nat, z ≠ x → z ≠ y → outAt n (ffStep n (srch n r) st x).1 z = outAt n st.1 z := fun z h1 h2 => by rw [hout, if_neg h1, if_neg h2]; omega
  have hent : ∀ z : Nat, z < n.nodes.length → isRoot n z = false → z ≠ x → (ffStep n (srch n r) st x).1.getD (entN n z) 0 = st.1.getD (entN n z) 0 := fun z hz h1 h2 => by
    rw [hst1, getD_set_ne' (fun e => h2 (entN_inj hb hz hxN h1 hxnr (by omega)))]
  refine ⟨by rw [hst1]; simpa using h.lf, by rw [hst2]; simpa using h.ll, ?_, ?_, ?_, ?_, ?_, ?_⟩
  · intro z hz h1
    rw [hoth z (fun e => by subst e; omega) (fun e => by subst e; omega)]
    exact h.lo z hz h1
  · intro z hz h1
    have hzx : z ≠ x := fun e => by subst e; omega
    have hzy : z ≠ y := fun e => by subst e; omega
    obtain ⟨h2, h3, h4⟩ := h.hi z hz h1
    rw [hoth z hzx hzy]
    refine ⟨h2, ?_, fun h5 => by rw [hent z hz h5 hzx]; exact h4 h5⟩
    rw [hst2, getD_set_ne' (fun e => hzy e.symm)]; exact h3
  · intro z hz h1 h2
    by_cases hzx : z = x
    · subst hzx
      rw [hout, if_pos rfl, if_neg hxy, (h.up z hz rx (by rw [htake]; simp)).1]
      omega
    · have hzy : z ≠ y := fun e => h2 (by rw [e]; exact hyt)
      rw [hoth z hzx hzy]
      refine h.dn z hz h1 (fun h3 => ?_)
      rw [htake] at h3
      rcases List.mem_append.1 h3 with h3 | h3
      · exact h2 h3
      · simp at h3; omega
  · intro z hz h1 h2
    have hzx : z ≠ x := fun e => hxt (by rw [← e]; exact h2)
    obtain ⟨h3, h4⟩ := h.up z hz h1 (by rw [htake]; exact List.mem_append_left _ h2)
    refine ⟨?_, fun h5 => by rw [hent z hz h5 hzx]; exact h4 h5⟩
    by_cases hzy : z = y
    · subst hzy
      rw [hout, if_neg hzx, if_pos rfl, hst2, getD_set_same' (by rw [h.ll]; omega), h3]
      omega
    · rw [hoth z hzx hzy, hst2, getD_set_ne' (fun e => hzy e.symm)]; exact h3
  · rw [hst2]
    have hpos : ∀ z ∈ (srch n r).order.take j, 0 ≤ z := fun z hz => (g.rng z (List.mem_of_mem_take hz)).1
    have hs := sumL_set (L := st.2) (List.Nodup.sublist (List.take_sublist j _) g.nd) hpos hyt (by rw [Int.toNat_natCast, h.ll]; omega) (st.2.getD y 0 + l)
    rw [Int.toNat_natCast] at hs
    rw [hs, ← h.sm, htake]
    unfold sumL
    rw [List.map_append, List.sum_append]
    simp only [List.map_cons, List.map_nil, List.sum_cons, List.sum_nil, Int.toNat_natCast, ← hl]
    omega
  · intro k hk h1
    rw [hst1] at h1
    by_cases e : i = k
    · subst e
      rw [← hen]
      obtain ⟨_, _, hf, _⟩ := entN_spec hb hxN hxnr
      exact hf
    · rw [getD_set_ne' e] at h1
      exact h.sp k hk h1
theorem back_len (s : Sr) : (backOf s).length = s.order.length - 1 := by simp [backOf]
theorem back_get (s : Sr) (m : Nat) (h : m < (backOf s).length) : ∃ h2 : s.order.length - 1 - m < s.order.length, (backOf s)[m] = s.order[s.order.length - 1 - m] := by
  rw [back_len] at h
  refine ⟨by omega, ?_⟩
  have : (backOf s)[m]? = some s.order[s.order.length - 1 - m] := by
    unfold backOf
    rw [List.getElem?_reverse (by simp; omega), List.getElem?_drop]
    rw [List.getElem?_eq_getElem (by simp; omega)]
    congr 2
    simp; omega
  have h2 : m < (backOf s).length := by rw [back_len]; exact h
  rw [List.getElem?_eq_getElem h2] at this
  simpa using this
theorem fk_back {n : Net} (hb : netB n = true) {sup : List Int} {r : Nat} (hr : r < n.nodes.length) (hroot : isRoot n r = true) {st : List Int × List Int} (h : FK n sup r (srch n r).order.length st) (m : Nat) (hm : m ≤ (backOf (srch n r)).length) :
    FK n sup r ((srch n r).order.length - m) (((backOf (srch n r)).take m).foldl (ffStep n (srch n r)) st) := by
  induction m with
  | zero => exact h
  | succ m ih =>
    have hl := back_len (srch n r)
    obtain ⟨h2, e2⟩ := back_get (srch n r) m (by omega)
    rw [List.take_succ_eq_append_getElem (by omega), List.foldl_append]
    show FK n sup r _ (ffStep n (srch n r) _ (backOf (srch n r))[m])
    rw [e2]
    have e3 : (srch n r).order.length - m = ((srch n r).order.length - 1 - m) + 1 := by omega
    have e4 : (srch n r).order.length - (m + 1) = (srch n r).order.length - 1 - m := by omega
    have := ih (by omega)
    rw [e3] at this
    rw [e4]
    exact fk_step hb hr hroot (by omega) h2 this
structure FJ (n : Net) (sup : List Int) (k : Nat) (st : List Int × List Int) : Prop where
  lf : st.1.length = n.pipes.length
  ll : st.2.length = n.nodes.length
  lo : ∀ x, x < n.nodes.length → rootN n x < k → outAt n st.1 x = sup.getD x 0
  hi : ∀ x, x < n.nodes.length → k ≤ rootN n x → outAt n st.1 x = 0 ∧ st.2.getD x 0 = sup.getD x 0 ∧ (isRoot n x = false → st.1.getD (entN n x) 0 = 0)
  sp : ∀ i, i < n.pipes.length → st.1.getD i 0 ≠ 0 → (i : Int) ∈ forest n
theorem fj_iter {n : Net} (hb : netB n = true) {sup : List Int} (hl : sup.length = n.nodes.length) (heven : ∀ r, r < n.nodes.length → isRoot n r = true → sumL sup (srch n r).order = 0) (k : Nat) (hk : k ≤ n.nodes.length) : FJ n sup k (ffIter n sup k) := by
  induction k with
  | zero =>
    refine ⟨by simp [ffIter], hl, fun x _ h => by omega, fun x hx _ => ⟨outAt_zero _ _ _, rfl, fun _ => ?_⟩, fun i hi h => ?_⟩
    · show (List.replicate n.pipes.length (0 : Int)).getD _ 0 = 0
      simp only [List.getD, List.getElem?_replicate]; split <;> rfl
    · exfalso; apply h
      show (List.replicate n.pipes.length (0 : Int)).getD _ 0 = 0
      simp only [List.getD, List.getElem?_replicate]; split <;> rfl
  | succ k ih =>
    have ih := ih (by omega)
    rw [ffIter]
    split
    next hroot =>
      have g := good_srch hb (v := (k : Int)) (by omega) (by omega)
      have hmem : ∀ x, x < n.nodes.length → rootN n x = k → (x : Int) ∈ (srch n k).order := fun x hx hr => by
        obtain ⟨_, _, _, h4⟩ := rootN_spec hb hx
        rw [hr] at h4
        exact (srch_iff hb (by omega) (by omega) x).2 h4
      have h0 : FK n sup k (srch n k).order.length (ffIter n sup k) := by
        refine ⟨ih.lf, ih.ll, ih.lo, fun x hx h => ih.hi x hx (by omega), fun x hx h1 h2 => ?_, fun x hx h1 _ => ?_, ?_, ih.sp⟩
        · rw [List.take_length] at h2
          exact absurd (hmem x hx h1) h2
        · obtain ⟨h3, h4, h5⟩ := ih.hi x hx (by omega)
          exact ⟨by omega, h5⟩
        · rw [List.take_length]
          unfold sumL
          rw [List.map_congr_left (fun x hx => ?_)]
          have hxr := g.rng x hx
          obtain ⟨z, rfl⟩ : ∃ z : Nat, x = z := ⟨x.toNat, by omega⟩
          rw [Int.toNat_natCast]
          exact (ih.hi z (by omega) (by rw [root_unique hb (by omega) (by omega) hroot ((srch_iff hb (by omega) (by omega) z).1 hx)]; exact Nat.le_refl _)).2.1
      have h1 := fk_back hb (by omega) hroot h0 (backOf (srch n k)).length (Nat.le_refl _)
      rw [List.take_length] at h1
      have hone : (srch n k).order.length - (backOf (srch n k)).length = 1 := by rw [back_len]; have := g.pos; omega
      rw [hone] at h1
      have ht1 : (srch n k).order.take 1 = [(k : Int)] := by
        rw [List.take_succ_eq_append_getElem g.pos, g.head]; rfl
      have hroot' : rootN n k = k := root_unique hb (by omega) (by omega) hroot .refl
      have hlk : (ffRoot n (ffIter n sup k) k).2.getD k 0 = 0 := by
        have hs := h1.sm
        rw [ht1, heven k (by omega) hroot] at hs
        unfold sumL at hs
        simp only [List.map_cons, List.map_nil, List.sum_cons, List.sum_nil, Int.toNat_natCast] at hs
        unfold ffRoot; omega
      refine ⟨h1.lf, h1.ll, fun x hx h => ?_, fun x hx h => h1.hi x hx (by omega), h1.sp⟩
      rcases (by omega : rootN n x < k ∨ rootN n x = k) with h2 | h2
      · exact h1.lo x hx h2
      · by_cases e : x = k
        · subst e
          have := (h1.up x hx h2 (by rw [ht1]; simp)).1
          unfold ffRoot at hlk ⊢
          rw [this, hlk]; omega
        · exact h1.dn x hx h2 (by rw [ht1]; simp; omega)
    next hroot =>
      have hnr : ∀ x, x < n.nodes.length → rootN n x ≠ k := fun x hx e => by
        obtain ⟨_, _, h3, _⟩ := rootN_spec hb hx
        rw [e] at h3
        exact hroot h3
      refine ⟨ih.lf, ih.ll, fun x hx h => ih.lo x hx (by have := hnr x hx; omega), fun x hx h => ih.hi x hx (by omega), ih.sp⟩
theorem fflows_spec {n : Net} (hb : netB n = true) {sup : List Int} (hl : sup.length = n.nodes.length) (heven : ∀ r, r < n.nodes.length → isRoot n r = true → sumL sup (srch n r).order = 0) :
    (fflows n sup).length = n.pipes.length ∧ (∀ x : Nat, x < n.nodes.length → outAt n (fflows n sup) x = sup.getD x 0) ∧ ∀ i, i < n.pipes.length → (fflows n sup).getD i 0 ≠ 0 → (i : Int) ∈ forest n := by
  have h := fj_iter hb hl heven n.nodes.length (Nat.le_refl _)
  refine ⟨h.lf, fun x hx => h.lo x hx ?_, h.sp⟩
  obtain ⟨_, h2, _⟩ := rootN_spec hb hx
  omega

end Go.Proofs.Ytdapdaadglaoiaa
