/- What flows out of each node, plain: the walked lists and the sums; the cycle of a chord is a flow list and a circulation. No program. -/
import Derived.Test.YtdapdaadglaoiaaChF
import Derived.Test.YtdapdaadglaoiaaCycOf
namespace Go.Proofs.Ytdapdaadglaoiaa
open Go.RowKit

theorem outs_get {n : Net} (hb : netB n = true) (f : List Int) (k : Nat) (hk : k ≤ n.pipes.length) (x : Nat) (hx : x < n.nodes.length) :
    (outs n f k).getD x 0 = ((List.range k).map (fun i => f.getD i 0 * inc (pAt n i) x)).sum := by
  induction k with
  | zero =>
    simp only [outs, List.getD, List.getElem?_replicate]
    rw [if_pos hx]; rfl
  | succ k ih =>
    have hlt : k < n.pipes.length := by omega
    obtain ⟨f0, f1, t0, t1, hne⟩ := netB_pipe hb (List.getElem_mem hlt)
    obtain ⟨a, ha⟩ : ∃ a : Nat, n.pipes[k].fr = a := ⟨n.pipes[k].fr.toNat, by omega⟩
    obtain ⟨b, hbb⟩ : ∃ b : Nat, n.pipes[k].to = b := ⟨n.pipes[k].to.toNat, by omega⟩
    have hab : a ≠ b := by omega
    have hal : a < (outs n f k).length := by rw [outs_len]; omega
    have hbl : b < (outs n f k).length := by rw [outs_len]; omega
    have ih := ih (by omega)
    rw [outs_step hlt ha hbb hab rfl rfl rfl, List.range_succ, List.map_append, List.sum_append, ← ih]
    simp only [List.map_cons, List.map_nil, List.sum_cons, List.sum_nil, Int.add_zero]
    rw [pAt_nat hlt]
    unfold inc
    rw [ha, hbb]
    by_cases e1 : b = x
    · subst e1
      rw [gset_same (by simpa using hbl), if_neg (by omega), if_pos rfl]
      omega
    · rw [gset_ne e1]
      by_cases e2 : a = x
      · subst e2
        rw [gset_same hal, if_pos rfl, if_neg (by omega)]
        omega
      · rw [gset_ne e2, if_neg (by omega), if_neg (by omega)]
        omega
theorem cirB_mk {n : Net} {f : List Int} (hb : netB n = true) (hf : flowB n f = true) (h0 : ∀ x : Nat, x < n.nodes.length → outAt n f x = 0) : cirB n f = true := by
  unfold cirB
  rw [hb, hf, Bool.true_and, Bool.true_and]
  apply allB_mk
  intro i hi
  have hi' : i < n.nodes.length := by rw [outs_len] at hi; exact hi
  have h1 := outs_get hb f n.pipes.length (Nat.le_refl _) i hi'
  have h2 := h0 i hi'
  unfold outAt at h2
  rw [h2] at h1
  have h3 : (outs n f n.pipes.length)[i] = 0 := by rw [← h1]; simp [List.getD, hi]
  rw [h3]
  rfl
theorem flowB_cyI {n : Net} (hb : netB n = true) {c : Nat} (hc : c < n.pipes.length) (hf : (c : Int) ∉ forest n) : flowB n (cyI n c) = true := by
  have h1 := cyI_len hb hc hf
  have h4 := (cyS_spec hb hc hf).2.2.2
  rw [← cyc_eq hb hc hf] at h4
  unfold flowB
  rw [Bool.and_eq_true, decide_eq_true_eq]
  refine ⟨h1, allB_mk fun i hi => ?_⟩
  have h5 := h4 i
  have e : (cyI n c).getD i 0 = (cyI n c)[i] := by simp [List.getD, hi]
  rw [e] at h5
  exact inB_mk (by omega) (by omega)
theorem cfTo_all_len (n : Net) (f : List Int) : (cfTo n f (chords n).length).length = (chords n).length := by unfold cfTo; simp
theorem cfTo_get (n : Net) (f : List Int) {i : Nat} (h : i < (cfTo n f (chords n).length).length) (h' : i < (chords n).length) : (cfTo n f (chords n).length)[i] = f.getD ((chords n)[i]).toNat 0 := by
  simp [cfTo]
/-- What the law wants to know of a chord's cycle. -/
theorem cyc_law {n : Net} (hb : netB n = true) {c : Nat} (hc : c < n.pipes.length) (hf : (c : Int) ∉ forest n) :
    cfR n (cyI n c) = (cfTo n (cyI n c) (chords n).length, 0) ∧ cirB n (cyI n c) = true ∧ ∀ i (h : i < (cfTo n (cyI n c) (chords n).length).length) (h' : i < (chords n).length), (cfTo n (cyI n c) (chords n).length)[i] = if (chords n)[i] = (c : Int) then 1 else 0 := by
  have hF := flowB_cyI hb hc hf
  obtain ⟨h1, h2, h3⟩ := cyI_spec hb hc hf
  refine ⟨?_, cirB_mk hb hF h2, fun i h h' => ?_⟩
  · unfold cfR flCode
    rw [if_pos hb, if_pos hF, if_pos rfl]
  · rw [cfTo_get n _ h h']
    obtain ⟨d, e, h4, h5⟩ := chords_mem.1 (List.getElem_mem h')
    rw [e, Int.toNat_natCast, h3 d h4 h5]
    by_cases hd : d = c
    · subst hd; rw [if_pos rfl, if_pos rfl]
    · rw [if_neg hd, if_neg (by omega)]

end Go.Proofs.Ytdapdaadglaoiaa
