/- What IsNetwork says. -/
import Derived.Test.YtdbgncinaacheaaGreatDoorIsNode
import Derived.Test.YtdbgncinaacheaaGreatDoorIdx
namespace Go.Proofs.YtdbgncinaacheaaGreatDoor
open Go.RowKit

def nodeAtB (ns : List Nd) (i : Nat) : Bool := nodeB (ns.getD i zN) && decide (nIdx (ns.take i) (ns.getD i zN).name < 0)
def nodesB (ns : List Nd) : Bool := (List.range ns.length).all (nodeAtB ns)
def pipeB (m : Nat) (p : Pp) : Bool := inB p.fr 0 ((m : Int) - 1) && inB p.to 0 ((m : Int) - 1) && !(p.fr == p.to) && inB p.k 1 1000 && inB p.vol 0 1000000 && inB p.lim 1 30000
def pipesB (m : Nat) (ps : List Pp) : Bool := ps.all (pipeB m)
def netB (n : Net) : Bool := inB n.nodes.length 1 24 && decide (n.pipes.length ≤ 40) && nodesB n.nodes && pipesB n.nodes.length n.pipes

theorem getD_eq {ns : List Nd} {i : Nat} (h : i < ns.length) : ns.getD i zN = ns[i] := by simp [List.getD, h]
theorem nodesB_mk {ns : List Nd} (h : ∀ i, i < ns.length → nodeAtB ns i = true) : nodesB ns = true := List.all_eq_true.2 fun i hi => h i (List.mem_range.1 hi)
theorem nodesB_no {ns : List Nd} (i : Nat) (hi : i < ns.length) (h : nodeAtB ns i = false) : nodesB ns = false := by
  cases hb : nodesB ns
  · rfl
  · have := List.all_eq_true.1 hb i (List.mem_range.2 hi); rw [h] at this; cases this
theorem nodesB_at {ns : List Nd} (h : nodesB ns = true) (i : Nat) (hi : i < ns.length) : nodeAtB ns i = true := List.all_eq_true.1 h i (List.mem_range.2 hi)
theorem pipesB_mk {m : Nat} {ps : List Pp} (h : ∀ i (hi : i < ps.length), pipeB m ps[i] = true) : pipesB m ps = true := List.all_eq_true.2 fun x hx => by
  obtain ⟨i, hi, rfl⟩ := List.getElem_of_mem hx
  exact h i hi
theorem pipesB_no {m : Nat} {ps : List Pp} (i : Nat) (hi : i < ps.length) (h : pipeB m ps[i] = false) : pipesB m ps = false := by
  cases hb : pipesB m ps
  · rfl
  · have := List.all_eq_true.1 hb ps[i] (List.getElem_mem hi); rw [h] at this; cases this
theorem pipesB_at {m : Nat} {ps : List Pp} (h : pipesB m ps = true) (i : Nat) (hi : i < ps.length) : pipeB m ps[i] = true := List.all_eq_true.1 h _ (List.getElem_mem hi)
theorem pipeB_t {m : Nat} {p : Pp} (h : pipeB m p = true) : 0 ≤ p.fr ∧ p.fr < m ∧ 0 ≤ p.to ∧ p.to < m ∧ p.fr ≠ p.to ∧ 1 ≤ p.k ∧ p.k ≤ 1000 ∧ 0 ≤ p.vol ∧ p.vol ≤ 1000000 ∧ 1 ≤ p.lim ∧ p.lim ≤ 30000 := by
  simp only [pipeB, Bool.and_eq_true, Bool.not_eq_true', beq_eq_false_iff_ne] at h
  obtain ⟨⟨⟨⟨⟨h1, h2⟩, h3⟩, h4⟩, h5⟩, h6⟩ := h
  have := inB_t h1; have := inB_t h2; have := inB_t h4; have := inB_t h5; have := inB_t h6
  omega
theorem netB_t {n : Net} (h : netB n = true) : 1 ≤ n.nodes.length ∧ n.nodes.length ≤ 24 ∧ n.pipes.length ≤ 40 ∧ nodesB n.nodes = true ∧ pipesB n.nodes.length n.pipes = true := by
  simp only [netB, Bool.and_eq_true, decide_eq_true_eq] at h
  obtain ⟨⟨⟨h1, h2⟩, h3⟩, h4⟩ := h
  have := inB_t h1
  exact ⟨by omega, by omega, h2, h3, h4⟩
/-- The pipes of a valid network lead between its nodes. -/
theorem netB_pipe {n : Net} (h : netB n = true) {p : Pp} (hp : p ∈ n.pipes) : 0 ≤ p.fr ∧ p.fr < n.nodes.length ∧ 0 ≤ p.to ∧ p.to < n.nodes.length ∧ p.fr ≠ p.to := by
  obtain ⟨i, hi, rfl⟩ := List.getElem_of_mem hp
  have := pipeB_t (pipesB_at (netB_t h).2.2.2.2 i hi)
  omega

theorem isNodeOf_any (nv pv : Value) (ns : List Nd) (x : Int) (w : World) (hn : RowsAt encN 3 w nv ns) (hpv : ∃ a n c, pv = .slice a n c) :
    Calls Tryz.prog 42 #[.agg #[nv, pv], .int .i64 x] w fun e w' => e = .returned (.bool (inB x 0 ((ns.length : Int) - 1))) ∧ Below w.heap.size w w' := by
  obtain ⟨a1, n1, k1, rfl⟩ := hpv
  obtain ⟨a0, k0, rfl⟩ := hn.shape
  have hl := hn.1
  go_enter Tryz.func42, Tryz.ntmps42
  go_wp2_with (go_at_call 40; refine (within_any _ _ _ _).mono ?_; rintro e w' ⟨rfl, rfl⟩)
  go_ret
  exact ⟨rfl, below_new _ _⟩

end Go.Proofs.YtdbgncinaacheaaGreatDoor
