/- The other end of a pipe (plain). -/
import Derived.Test.YtdapdaadglaoiaaLawB
namespace Go.Proofs.Ytdapdaadglaoiaa
open Go.RowKit

theorem selP_mk {f : Pp → Bool} {ps : List Pp} {k : Nat} (hk : k < ps.length) (hf : f ps[k] = true) : (selP f ps ps.length).contains (k : Int) = true := by
  rw [List.contains_iff_mem]
  unfold selP
  rw [List.mem_map]
  refine ⟨k, ?_, rfl⟩
  rw [List.mem_filter, List.mem_range]
  exact ⟨hk, by simpa [List.getD, hk] using hf⟩
theorem pe_facts {n : Net} {x v : Int} (h : oeB n x v = 0) : ∃ k, oeA n x v = k ∧ oeB n x k = 0 ∧ oeA n x k = v
    ∧ nbR n v = (nbTo n v n.nodes.length, 0) ∧ (nbTo n v n.nodes.length).contains k = true
    ∧ pbR n k v = (selP (betF k v) n.pipes n.pipes.length, 0) ∧ (selP (betF k v) n.pipes n.pipes.length).contains x = true
    ∧ paR n k = (selP (atF k) n.pipes n.pipes.length, 0) ∧ (selP (atF k) n.pipes n.pipes.length).contains x = true := by
  have hh := h
  unfold oeB at hh
  split at hh
  case isFalse => simp at hh
  next hb =>
  split at hh
  case isFalse => simp at hh
  next hin =>
  split at hh
  case isFalse => simp at hh
  next hat =>
  obtain ⟨hx, hv⟩ := hin
  have hx' : 0 ≤ x ∧ x ≤ (n.pipes.length : Int) - 1 := by simpa [inB] using hx
  have hv' : 0 ≤ v ∧ v ≤ (n.nodes.length : Int) - 1 := by simpa [inB] using hv
  obtain ⟨X, rfl⟩ : ∃ X : Nat, x = X := ⟨x.toNat, by omega⟩
  have hX : X < n.pipes.length := by omega
  rw [pAt_nat hX] at hat
  have ha : atF v n.pipes[X] = true := by
    unfold atF
    simp only [Bool.or_eq_true, beq_iff_eq]; exact hat
  have hp := netB_pipe hb (List.getElem_mem hX)
  obtain ⟨b1, b2, b3, _⟩ := oth_back ha hp.2.2.2.2
  obtain ⟨r1, r2, _⟩ := oth_rng hb hX ha
  obtain ⟨k, hk⟩ : ∃ k, oth n.pipes[X] v = k := ⟨_, rfl⟩
  rw [hk] at b1 b2 b3 r1 r2
  have hbt : betF k v n.pipes[X] = true := (betF_iff hp.2.2.2.2).2 ⟨b1, b2⟩
  have hk2 : (pAt n X).fr = k ∨ (pAt n X).to = k := by
    rw [pAt_nat hX]
    unfold atF at b1
    simpa only [Bool.or_eq_true, beq_iff_eq] using b1
  have e1 : oeB n X k = 0 := by
    unfold oeB
    rw [if_pos hb, if_pos ⟨hx, inB_mk r1 (by omega)⟩, if_pos hk2]
  obtain ⟨c1, _⟩ := codeNs_pair hb r1 r2 hv'.1 (show v < n.nodes.length by omega)
  obtain ⟨c2, _⟩ := codeNs_pair hb hv'.1 (show v < n.nodes.length by omega) r1 r2
  obtain ⟨_, c3⟩ := codeNs_pair hb r1 r2 hv'.1 (show v < n.nodes.length by omega)
  refine ⟨k, ?_, e1, ?_, by rw [nbR, if_pos c1], ?_, by rw [pbR, if_pos c3], selP_mk hX hbt, by rw [paR, if_pos c2], selP_mk hX b1⟩
  · rw [oeA, if_pos h, pAt_nat hX, hk]
  · rw [oeA, if_pos e1, pAt_nat hX, b2]
  · rw [List.contains_iff_mem]
    exact (nb_mem hb).2 ⟨X, hX, ha, hk⟩

end Go.Proofs.Ytdapdaadglaoiaa
