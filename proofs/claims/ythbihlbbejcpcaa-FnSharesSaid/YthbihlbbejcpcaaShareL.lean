/- Shares add up to their total, and each differs from the exact share by less than 1. Plain Lean. -/
import Derived.Test.YthbihlbbejcpcaaShare
namespace Go.Proofs.Ythbihlbbejcpcaa.Sh

def pos : List Int → Int
  | [] => 0
  | a :: l => max a 0 + pos l
theorem pos_set (l : List Int) (b : Nat) (x : Int) (h : b < l.length) : pos (l.set b x) = pos l - max (l.getD b 0) 0 + max x 0 := by
  induction l generalizing b with
  | nil => simp at h
  | cons a l ih =>
    cases b with
    | zero => simp [pos]; omega
    | succ b =>
      simp only [List.set_cons_succ, pos, List.getD_cons_succ]
      rw [ih b (by simpa using h)]; omega
theorem pos_some {l : List Int} (h : 0 < pos l) : ∃ i, i < l.length ∧ 0 < l.getD i 0 := by
  induction l with
  | nil => simp [pos] at h
  | cons a l ih =>
    simp only [pos] at h
    by_cases ha : 0 < a
    · exact ⟨0, by simp, by simpa using ha⟩
    · obtain ⟨i, h1, h2⟩ := ih (by omega)
      exact ⟨i + 1, by simpa using h1, by simpa using h2⟩
theorem pos_eq {l : List Int} (h : ∀ x ∈ l, 0 ≤ x) : pos l = l.sum := by
  induction l with
  | nil => simp [pos]
  | cons a l ih =>
    simp only [pos, List.sum_cons]
    rw [ih (fun x hx => h x (List.mem_cons_of_mem _ hx))]
    have := h a List.mem_cons_self; omega
theorem sum_set (l : List Int) (b : Nat) (h : b < l.length) : (l.set b (l.getD b 0 + 1)).sum = l.sum + 1 := by
  induction l generalizing b with
  | nil => simp at h
  | cons a l ih =>
    cases b with
    | zero => simp; omega
    | succ b =>
      simp only [List.set_cons_succ, List.sum_cons, List.getD_cons_succ]
      rw [ih b (by simpa using h)]; omega
theorem getD_set (l : List Int) (b i : Nat) (x : Int) (h : b < l.length) : (l.set b x).getD i 0 = if b = i then x else l.getD i 0 := by
  by_cases e : b = i
  · subst e
    rw [if_pos rfl, List.getD_eq_getElem?_getD, List.getElem?_set_self h, Option.getD_some]
  · rw [if_neg e, List.getD_eq_getElem?_getD, List.getElem?_set_ne e, ← List.getD_eq_getElem?_getD]

structure Inv (S left : Int) (s0 r0 : List Int) (j : Nat) (p : List Int × List Int) : Prop where
  l1 : p.1.length = s0.length
  l2 : p.2.length = s0.length
  each : ∀ i, i < s0.length → (p.2.getD i 0 = r0.getD i 0 ∧ p.1.getD i 0 = s0.getD i 0) ∨ (p.2.getD i 0 = -1 ∧ p.1.getD i 0 = s0.getD i 0 + 1 ∧ 0 < r0.getD i 0)
  pot : S * left - j * (S - 1) ≤ pos p.2
  tot : p.1.sum = s0.sum + j

theorem inv_step {S left : Int} {s0 r0 : List Int} (hS : 0 < S) (hr : ∀ i, r0.getD i 0 ≤ S - 1) {j : Nat} (hj : (j : Int) < left) {p : List Int × List Int} (h : Inv S left s0 r0 j p) :
    Inv S left s0 r0 (j + 1) (step p) := by
  have hjS : (j : Int) * (S - 1) = j * S - j := by rw [Int.mul_sub]; omega
  have hle : ((j : Int) + 1) * S ≤ left * S := Int.mul_le_mul_of_nonneg_right (by omega) (by omega)
  have hpp : 0 < pos p.2 := by
    have := h.pot
    rw [hjS, Int.mul_comm S left] at this
    rw [Int.add_mul] at hle
    omega
  obtain ⟨i0, hi0, hp0⟩ := pos_some hpp
  have hb : best p.2 < p.2.length := best_lt (by omega)
  have hmax : p.2.getD i0 0 ≤ p.2.getD (best p.2) 0 := bestTo_max p.2 (p.2.length - 1) i0 (by omega)
  have hb1 : best p.2 < p.1.length := by rw [h.l1, ← h.l2]; exact hb
  have hb0 : best p.2 < s0.length := by rw [← h.l2]; exact hb
  have hbe := h.each (best p.2) hb0
  have hbr : p.2.getD (best p.2) 0 = r0.getD (best p.2) 0 ∧ p.1.getD (best p.2) 0 = s0.getD (best p.2) 0 := by
    rcases hbe with h1 | h1
    · exact h1
    · omega
  refine ⟨by simp [step, h.l1], by simp [step, h.l2], fun i hi => ?_, ?_, ?_⟩
  · simp only [step]
    rw [getD_set _ _ _ _ hb, getD_set _ _ _ _ hb1]
    by_cases e : best p.2 = i
    · subst e
      rw [if_pos rfl, if_pos rfl]
      exact Or.inr ⟨rfl, by omega, by omega⟩
    · rw [if_neg e, if_neg e]; exact h.each i hi
  · simp only [step]
    rw [pos_set _ _ _ hb]
    have h1 := h.pot
    have h2 := hr (best p.2)
    rw [hbr.1] at *
    have : ((j + 1 : Nat) : Int) * (S - 1) = j * (S - 1) + (S - 1) := by
      rw [Int.natCast_add, Int.add_mul]; simp
    rw [this]
    omega
  · simp only [step]
    rw [sum_set _ _ hb1, h.tot]; omega

theorem inv_iter {S left : Int} {s0 r0 : List Int} (hS : 0 < S) (hl : r0.length = s0.length) (hr : ∀ i, r0.getD i 0 ≤ S - 1) (hn : ∀ x ∈ r0, 0 ≤ x) (hsum : r0.sum = S * left) :
    ∀ j : Nat, (j : Int) ≤ left → Inv S left s0 r0 j (iter (s0, r0) j)
  | 0, _ => ⟨rfl, hl, fun i _ => Or.inl ⟨rfl, rfl⟩, by simp [iter, pos_eq hn, hsum], by simp [iter]⟩
  | j + 1, h => inv_step hS hr (by omega) (inv_iter hS hl hr hn hsum j (by omega))

/-- The law of shares. -/
theorem shares_law (total : Int) (ws : List Int) (ht : 0 ≤ total) (hw : ∀ x ∈ ws, 0 ≤ x) (hs : 0 < ws.sum) :
    (shares total ws).length = ws.length ∧ (shares total ws).sum = total ∧
    (∀ i (h1 : i < (shares total ws).length) (h2 : i < ws.length), (ws[i] = 0 → (shares total ws)[i] = 0) ∧
      -ws.sum < (shares total ws)[i] * ws.sum - total * ws[i] ∧ (shares total ws)[i] * ws.sum - total * ws[i] < ws.sum ∧ 0 ≤ (shares total ws)[i] ∧ (shares total ws)[i] ≤ 2 * total + 1) := by
  have hre := re_nonneg (total := total) hs ws
  have hss := sh_sum total ws.sum ws
  have hpart := sh_part ht hs (ws := ws) (Int.le_refl _)
  have hlsh : (sh total ws.sum ws).length = ws.length := by simp [sh]
  have hlre : (re total ws.sum ws).length = ws.length := by simp [re]
  have hsum : (re total ws.sum ws).sum = ws.sum * left total ws.sum ws := by
    unfold left; rw [Int.mul_sub, Int.mul_comm ws.sum total]; omega
  have hrd : ∀ i, (re total ws.sum ws).getD i 0 ≤ ws.sum - 1 := fun i => by
    by_cases hi : i < (re total ws.sum ws).length
    · have := (hre _ (List.getElem_mem hi)).2
      simp only [List.getD_eq_getElem?_getD, List.getElem?_eq_getElem hi, Option.getD_some]; omega
    · simp only [List.getD_eq_getElem?_getD, List.getElem?_eq_none (by omega : (re total ws.sum ws).length ≤ i), Option.getD_none]; omega
  have hleft : 0 ≤ left total ws.sum ws := by unfold left; omega
  have inv := inv_iter (s0 := sh total ws.sum ws) hs (by rw [hlre, hlsh]) hrd (fun x hx => (hre x hx).1) hsum (left total ws.sum ws).toNat (by omega)
  have hle := sh_le ht hs hw rfl
  have hnn := sh_nonneg ht hs hw
  refine ⟨by rw [shares, inv.l1, hlsh], ?_, fun i h1 h2 => ?_⟩
  · rw [shares, inv.tot]; unfold left; omega
  · have hi : i < (sh total ws.sum ws).length := by omega
    have he := inv.each i hi
    have hgs : (iter (sh total ws.sum ws, re total ws.sum ws) (left total ws.sum ws).toNat).1.getD i 0 = (shares total ws)[i] := by
      show (shares total ws).getD i 0 = _
      simp [List.getD, h1]
    have hg1 : (sh total ws.sum ws).getD i 0 = total * ws[i] / ws.sum := by simp [sh, List.getD, h2]
    have hg2 : (re total ws.sum ws).getD i 0 = total * ws[i] % ws.sum := by simp [re, List.getD, h2]
    rw [hgs, hg1, hg2] at he
    have d1 := Int.mul_ediv_add_emod (total * ws[i]) ws.sum
    have d2 := Int.emod_nonneg (total * ws[i]) (b := ws.sum) (by omega)
    have d3 := Int.emod_lt_of_pos (total * ws[i]) hs
    have b1 : 0 ≤ total * ws[i] / ws.sum := Int.ediv_nonneg (Int.mul_nonneg ht (hw _ (List.getElem_mem h2))) (by omega)
    have b2 : total * ws[i] / ws.sum ≤ total := hle _ (by simp only [sh, List.mem_map]; exact ⟨ws[i], List.getElem_mem h2, rfl⟩)
    rw [Int.mul_comm] at d1
    generalize total * ws[i] / ws.sum = q at *
    generalize hm : total * ws[i] % ws.sum = m at *
    generalize (shares total ws)[i] = s at *
    rcases he with ⟨e1, e2⟩ | ⟨e1, e2, e3⟩
    · refine ⟨fun h0 => ?_, ?_, ?_, by omega, by omega⟩
      · rw [h0] at d1; simp at d1
        rw [e2]
        have hq : q * ws.sum = 0 := by
          have : 0 ≤ q * ws.sum := Int.mul_nonneg b1 (by omega)
          omega
        rcases Int.mul_eq_zero.1 hq with h | h
        · exact h
        · omega
      · rw [e2]; omega
      · rw [e2]; omega
    · refine ⟨fun h0 => ?_, ?_, ?_, by omega, by omega⟩
      · rw [h0] at hm; simp at hm; omega
      · rw [e2, Int.add_mul]; omega
      · rw [e2, Int.add_mul]; omega

end Go.Proofs.Ythbihlbbejcpcaa.Sh
