/- The first wrong line of a text, plain. No walk. -/
import Derived.Test.YtdbgncinaacheaaGreatDoorRd
namespace Go.Proofs.YtdbgncinaacheaaGreatDoor
open Go.RowKit Go.Lib

/-- The first k lines, each with its newline. -/
def pre (s : Txt) (k : Nat) : Txt := lns ((lnL s).take k)
noncomputable def okB (s : Txt) : Bool := (rdNet s).isSome
noncomputable def fwL (s : Txt) : Int := match (List.range (lnL s).length).find? (fun k => !(okB (pre s (k + 1)))) with
  | some k => (k : Int)
  | none => if lnR s = [] then -1 else ((lnL s).length : Int)
noncomputable def fwA (s : Txt) : Int := if 4000 < s.length then 0 else if s = [] then 0 else fwL s
def fwB (s : Txt) : Int := if 4000 < s.length then 3 else 0
theorem okB_nil : okB [] = false := by rw [okB, rdNet_nil]; rfl
theorem fwL_hit {s : Txt} (k : Nat) (hk : k < (lnL s).length) (h : okB (pre s (k + 1)) = false) (hf : ∀ j, j < k → okB (pre s (j + 1)) = true) : fwL s = k := by
  have : (List.range (lnL s).length).find? (fun k => !(okB (pre s (k + 1)))) = some k := by
    rw [List.find?_range_eq_some]
    refine ⟨by simp [h], List.mem_range.2 hk, fun j hj => by simp [hf j hj]⟩
  rw [fwL, this]
theorem fwL_end {s : Txt} (hf : ∀ j, j < (lnL s).length → okB (pre s (j + 1)) = true) : fwL s = if lnR s = [] then -1 else ((lnL s).length : Int) := by
  have : (List.range (lnL s).length).find? (fun k => !(okB (pre s (k + 1)))) = none := by
    rw [List.find?_range_eq_none]
    intro j hj
    simp [hf j hj]
  rw [fwL, this]
theorem fwL_cases (s : Txt) : (∃ k, k < (lnL s).length ∧ okB (pre s (k + 1)) = false ∧ (∀ j, j < k → okB (pre s (j + 1)) = true) ∧ fwL s = (k : Int)) ∨
    ((∀ j, j < (lnL s).length → okB (pre s (j + 1)) = true) ∧ fwL s = if lnR s = [] then -1 else ((lnL s).length : Int)) := by
  by_cases h : ∃ k, k < (lnL s).length ∧ okB (pre s (k + 1)) = false
  · obtain ⟨k, hk⟩ := h
    induction k using Nat.strongRecOn with
    | ind k ih =>
      by_cases hf : ∀ j, j < k → okB (pre s (j + 1)) = true
      · exact Or.inl ⟨k, hk.1, hk.2, hf, fwL_hit k hk.1 hk.2 hf⟩
      · have ⟨j, hj⟩ := Classical.not_forall.1 hf
        have ⟨hj1, hj2⟩ := Classical.not_imp.1 hj
        exact ih j hj1 ⟨by omega, by simpa using hj2⟩
  · have hf : ∀ j, j < (lnL s).length → okB (pre s (j + 1)) = true := fun j hj => by
      cases hb : okB (pre s (j + 1)) with
      | true => rfl
      | false => exact absurd ⟨j, hj, hb⟩ h
    exact Or.inr ⟨hf, fwL_end hf⟩

/-! ### The lines of a network, from the first on, are networks -/
theorem nodesB_take {ns : List Nd} (h : nodesB ns = true) (m : Nat) : nodesB (ns.take m) = true := nodesB_mk fun i hi => by
  have hi' : i < ns.length := by simp at hi; omega
  have him : i < m := by simp at hi; omega
  have := nodesB_at h i hi'
  unfold nodeAtB at this ⊢
  rw [getD_eq hi] ; rw [getD_eq hi'] at this
  rw [List.getElem_take, List.take_take, Nat.min_eq_left (by omega)]
  exact this
theorem netB_nodes {n : Net} (h : netB n = true) (m : Nat) (h1 : 1 ≤ m) (h2 : m ≤ n.nodes.length) : netB ⟨n.nodes.take m, []⟩ = true := by
  obtain ⟨_, b, _, hn, _⟩ := netB_t h
  simp only [netB, Bool.and_eq_true, decide_eq_true_eq]
  refine ⟨⟨⟨inB_mk ?_ ?_, by simp⟩, nodesB_take hn m⟩, by simp [pipesB]⟩
  · simp only [List.length_take]; omega
  · simp only [List.length_take]; omega
theorem netB_pipes {n : Net} (h : netB n = true) (m : Nat) : netB ⟨n.nodes, n.pipes.take m⟩ = true := by
  obtain ⟨a, b, c, hn, hp⟩ := netB_t h
  simp only [netB, Bool.and_eq_true, decide_eq_true_eq]
  refine ⟨⟨⟨inB_mk (by omega) (by omega), by simp only [List.length_take]; omega⟩, hn⟩, List.all_eq_true.2 fun x hx => List.all_eq_true.1 hp x (List.mem_of_mem_take hx)⟩
theorem ok_pre {n : Net} (h : netB n = true) (k : Nat) (_ : k < (netL n).length) : okB (pre (netTx n) (k + 1)) = true := by
  rw [pre, (netTx_ln h).1]
  by_cases hn : k + 1 ≤ n.nodes.length
  · have e : (netL n).take (k + 1) = netL ⟨n.nodes.take (k + 1), []⟩ := by
      simp only [netL, List.map_nil, List.append_nil]
      rw [List.take_append_of_le_length (by simpa using hn), List.map_take]
    rw [e]
    show okB (netTx _) = true
    rw [okB, rdNet_ok (netB_nodes h (k + 1) (by omega) hn)]; rfl
  · have e : (netL n).take (k + 1) = netL ⟨n.nodes, n.pipes.take (k + 1 - n.nodes.length)⟩ := by
      simp only [netL]
      rw [List.take_append, List.map_take]
      simp only [List.length_map]
      rw [List.take_of_length_le (by simp; omega)]
    rw [e]
    show okB (netTx _) = true
    rw [okB, rdNet_ok (netB_pipes h _)]; rfl
theorem fwL_net {n : Net} (h : netB n = true) : fwL (netTx n) = -1 := by
  rw [fwL_end (fun j hj => ok_pre h j (by rwa [(netTx_ln h).1] at hj)), if_pos (netTx_ln h).2]
/-- The lines before the first wrong one are a network's; the whole text is none. -/
theorem fw_facts {s : Txt} {k : Nat} (hB : fwB s = 0) (hA : fwA s = (k : Int)) : k ≤ (lnL s).length ∧ okB (pre s k) = decide (0 < k) ∧ okB s = false := by
  unfold fwB at hB
  have hl : ¬ 4000 < s.length := fun h => by rw [if_pos h] at hB; cases hB
  unfold fwA at hA
  rw [if_neg hl] at hA
  by_cases h0 : s = []
  · rw [if_pos h0] at hA
    have : k = 0 := by omega
    subst this; subst h0
    exact ⟨by omega, okB_nil, okB_nil⟩
  · rw [if_neg h0] at hA
    have hpre : ∀ m, (∀ j, j < m → okB (pre s (j + 1)) = true) → okB (pre s m) = decide (0 < m) := fun m hm => by
      cases m with
      | zero => exact okB_nil
      | succ m => rw [hm m (by omega)]; simp
    have hall : ∀ n, rdNet s = some n → (∀ j, j < (lnL s).length → okB (pre s (j + 1)) = true) ∧ lnR s = [] := fun n hn => by
      obtain ⟨h1, h2⟩ := rdNet_t hn
      rw [← h2]
      exact ⟨fun j hj => ok_pre h1 j (by rwa [(netTx_ln h1).1] at hj), (netTx_ln h1).2⟩
    rcases fwL_cases s with ⟨m, hm, hb, hf, e⟩ | ⟨hf, e⟩
    · rw [e] at hA
      have : m = k := by omega
      subst this
      refine ⟨by omega, hpre m hf, ?_⟩
      cases hr : okB s with
      | false => rfl
      | true =>
        obtain ⟨n, hn⟩ := Option.isSome_iff_exists.1 hr
        have := (hall n hn).1 m hm
        rw [hb] at this; cases this
    · rw [e] at hA
      by_cases hR : lnR s = []
      · rw [if_pos hR] at hA; omega
      · rw [if_neg hR] at hA
        have : (lnL s).length = k := by omega
        refine ⟨by omega, hpre k (fun j hj => hf j (by omega)), ?_⟩
        cases hr : okB s with
        | false => rfl
        | true =>
          obtain ⟨n, hn⟩ := Option.isSome_iff_exists.1 hr
          exact absurd (hall n hn).2 hR

/-! ### The place behind the first k lines -/
theorem pre_text (s : Txt) (k : Nat) : ∃ r, s = pre s k ++ r := by
  refine ⟨lns ((lnL s).drop k) ++ lnR s, ?_⟩
  rw [← List.append_assoc, pre, ← lns_app, List.take_append_drop]
  exact (ln_text s).symm
theorem pre_len (s : Txt) (k : Nat) : (pre s k).length ≤ s.length := by
  obtain ⟨r, hr⟩ := pre_text s k
  have := congrArg List.length hr
  simp at this; omega
theorem pre_take (s : Txt) (k : Nat) : s.take (pre s k).length = pre s k := by
  obtain ⟨r, hr⟩ := pre_text s k
  have : (pre s k ++ r).take (pre s k).length = pre s k := List.take_left
  rwa [← hr] at this
theorem cnt_lns {L : List Txt} (h : ∀ l ∈ L, (10 : UInt8) ∉ l) : (lns L).count 10 = L.length := by
  induction L with
  | nil => rfl
  | cons l L ih =>
    have h1 : (lns (l :: L)) = l ++ ([10] ++ lns L) := by simp [lns]
    rw [h1, List.count_append, List.count_append, List.count_eq_zero.2 (h l (by simp)), ih (fun m hm => h m (List.mem_cons_of_mem _ hm))]
    simp; omega
theorem cnt_pre {s : Txt} {k : Nat} (hk : k ≤ (lnL s).length) : (pre s k).count 10 = k := by
  rw [pre, cnt_lns (fun l hl => (ln_free s).1 l (List.mem_of_mem_take hl))]
  simp; omega
theorem cnt_lt {s : Txt} {k a : Nat} (hk : k ≤ (lnL s).length) (ha : a < (pre s k).length) : (s.take a).count 10 < k := by
  have hk0 : 0 < k := by
    rcases Nat.eq_zero_or_pos k with h | h
    · subst h; simp [pre, lns] at ha
    · exact h
  have e : ∃ q, pre s k = q ++ [10] := by
    have h1 : (lnL s).take k = (lnL s).take (k - 1) ++ [(lnL s)[k - 1]] := by
      have := List.take_succ_eq_append_getElem (l := lnL s) (i := k - 1) (by omega)
      rwa [Nat.sub_add_cancel hk0] at this
    refine ⟨lns ((lnL s).take (k - 1)) ++ (lnL s)[k - 1], ?_⟩
    rw [pre, h1, lns_app]
    simp [lns]
  obtain ⟨q, hq⟩ := e
  have hc := cnt_pre hk
  rw [hq, List.count_append] at hc
  have h2 : q.count 10 = k - 1 := by simp at hc; omega
  obtain ⟨r, hr⟩ := pre_text s k
  have ha' : a ≤ q.length := by rw [hq] at ha; simp at ha; omega
  have h3 : s.take a = q.take a := by
    rw [hr, hq, List.append_assoc, List.take_append_of_le_length ha']
  rw [h3]
  have h4 : (q.take a).count 10 ≤ q.count 10 := List.Sublist.count_le _ (List.take_sublist _ _)
  omega

/-! ### How long the texts are -/
theorem itoa_le {v : Int} (h0 : 0 ≤ v) (k : Nat) (h : v.toNat < 10 ^ (k + 1)) : (itoa v).length ≤ k + 1 := by
  obtain ⟨n, rfl⟩ : ∃ n : Nat, v = n := ⟨v.toNat, by omega⟩
  rw [itoa_nonneg, decDigits_length]
  exact nDigits_le (by simpa using h)
theorem nm_le {x : Nd} (h : nodeB x = true) : (nm x).length ≤ 8 := by
  have := (nameB_sz (nodeB_parts h).1).2
  show x.name.data.toList.length ≤ 8
  rw [Array.length_toList]; exact this
theorem ndL_le {x : Nd} (h : nodeB x = true) : (ndL x).length ≤ 33 := by
  obtain ⟨hn, h0, h1, h2⟩ := nodeB_parts h
  have a1 := itoa_le h0 8 (by omega)
  have a2 := itoa_le (v := x.high) (by omega) 8 (by omega)
  have a3 := nm_le h
  rw [ndL_app]
  simp only [List.length_append, List.length_cons, List.length_nil]
  omega
theorem ppL_le {n : Net} (h : netB n = true) {p : Pp} (hp : p ∈ n.pipes) : (ppL n.nodes p).length ≤ 41 := by
  obtain ⟨i, hi, rfl⟩ := List.getElem_of_mem hp
  obtain ⟨f0, f1, t0, t1, _, k0, k1, v0, v1, l0, l1⟩ := pipeB_t (pipesB_at (netB_t h).2.2.2.2 i hi)
  obtain ⟨_, _, _, hn, _⟩ := netB_t h
  obtain ⟨z1, e1⟩ := nmAt_in f0 f1
  obtain ⟨z2, e2⟩ := nmAt_in t0 t1
  have b1 := nm_le (nodesB_mem hn _ (List.getElem_mem z1))
  have b2 := nm_le (nodesB_mem hn _ (List.getElem_mem z2))
  have a1 := itoa_le (v := n.pipes[i].k) (by omega) 3 (by omega)
  have a2 := itoa_le (v := n.pipes[i].vol) (by omega) 6 (by omega)
  have a3 := itoa_le (v := n.pipes[i].lim) (by omega) 4 (by omega)
  simp only [ppL, glue, wPipe, e1, e2, List.length_append, List.length_cons, List.length_nil]
  omega
theorem lns_le {L : List Txt} {m : Nat} (h : ∀ l ∈ L, l.length ≤ m) : (lns L).length ≤ L.length * (m + 1) := by
  induction L with
  | nil => simp [lns]
  | cons l L ih =>
    have h1 : (lns (l :: L)) = l ++ ([10] ++ lns L) := by simp [lns]
    rw [h1]
    have := ih (fun x hx => h x (List.mem_cons_of_mem _ hx))
    have := h l (by simp)
    simp only [List.length_append, List.length_cons, List.length_nil, Nat.add_mul, Nat.one_mul]
    omega
theorem netTx_le {n : Net} (h : netB n = true) : (netTx n).length ≤ 2496 := by
  obtain ⟨_, b, c, hn, _⟩ := netB_t h
  rw [netTx, netL, lns_app, List.length_append]
  have h1 := lns_le (L := n.nodes.map ndL) (m := 33) (fun l hl => by obtain ⟨x, hx, rfl⟩ := List.mem_map.1 hl; exact ndL_le (nodesB_mem hn x hx))
  have h2 := lns_le (L := n.pipes.map (ppL n.nodes)) (m := 41) (fun l hl => by obtain ⟨p, hp, rfl⟩ := List.mem_map.1 hl; exact ppL_le h hp)
  rw [List.length_map] at h1 h2
  omega
/-- The whole text's answers. -/
def txN (n : Net) : Txt := if netB n = true then netTx n else []
theorem fw_txN (n : Net) : fwB (txN n) = 0 ∧ fwA (txN n) = if netB n = true then -1 else 0 := by
  unfold txN
  by_cases h : netB n = true
  · rw [if_pos h, if_pos h]
    have := netTx_le h
    refine ⟨by rw [fwB, if_neg (by omega)], ?_⟩
    rw [fwA, if_neg (by omega), if_neg (netTx_ne h), fwL_net h]
  · rw [if_neg h, if_neg h]
    exact ⟨rfl, rfl⟩
theorem rd_txN (n : Net) : rdNet (txN n) = if netB n = true then some n else none := by
  unfold txN
  by_cases h : netB n = true
  · rw [if_pos h, if_pos h, rdNet_ok h]
  · rw [if_neg h, if_neg h, rdNet_nil]

end Go.Proofs.YtdbgncinaacheaaGreatDoor
