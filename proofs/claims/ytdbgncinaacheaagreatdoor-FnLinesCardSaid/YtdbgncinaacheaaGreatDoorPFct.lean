/- What the lines of pipes read. -/
import Derived.Test.YtdbgncinaacheaaGreatDoorLine
namespace Go.Proofs.YtdbgncinaacheaaGreatDoor
open Go.RowKit
open Go.Lib hiding intOf

theorem ppL_tbS {ns : List Nd} {p : Pp} {a b : ByteArray} (ha : tb (nmAt ns p.fr) = a) (hb : tb (nmAt ns p.to) = b) : tb (ppL ns p) = ⟨#[112, 105, 112, 101, 32]⟩ ++ a ++ ⟨#[32]⟩ ++ b ++ tb (wordsT [p.k, p.vol, p.lim]) := by
  have e : ppL ns p = [112, 105, 112, 101, 32] ++ nmAt ns p.fr ++ [32] ++ nmAt ns p.to ++ wordsT [p.k, p.vol, p.lim] := by simp [ppL, glue, wPipe, wordsT]
  rw [e]
  simp only [← tb_app]
  rw [ha, hb]
  rfl
theorem ppL_tbI {ns : List Nd} {p : Pp} {a b : ByteArray} (ha : tb (nmAt ns p.fr) = a) (hb : tb (nmAt ns p.to) = b) : tb (ppL ns p) = ⟨#[112, 105, 112, 101, 32]⟩ ++ a ++ ⟨#[32]⟩ ++ b ++ ⟨#[32]⟩ ++ tb (join ([p.k, p.vol, p.lim].map itoa) [32]) := by
  have e : ppL ns p = [112, 105, 112, 101, 32] ++ nmAt ns p.fr ++ [32] ++ nmAt ns p.to ++ [32] ++ join ([p.k, p.vol, p.lim].map itoa) [32] := by simp [ppL, glue, wPipe, join_cons, joinTail]
  rw [e]
  simp only [← tb_app]
  rw [ha, hb]
  rfl
/-- The facts of a pipe of a valid network. -/
theorem pipe_facts {n : Net} (hb : netB n = true) {p : Pp} (hp : p ∈ n.pipes) : ∃ f t : Nat, ∃ hf : f < n.nodes.length, ∃ ht : t < n.nodes.length, p.fr = f ∧ p.to = t ∧ tb (nmAt n.nodes p.fr) = n.nodes[f].name ∧ tb (nmAt n.nodes p.to) = n.nodes[t].name ∧
    n.nodes[f].name.size ≤ 8 ∧ n.nodes[t].name.size ≤ 8 ∧ 0 ≤ p.k ∧ p.k ≤ 1000 ∧ 0 ≤ p.vol ∧ p.vol ≤ 1000000 ∧ 0 ≤ p.lim ∧ p.lim ≤ 30000 := by
  obtain ⟨i, hi, rfl⟩ := List.getElem_of_mem hp
  obtain ⟨f0, f1, t0, t1, _, k0, k1, v0, v1, l0, l1⟩ := pipeB_t (pipesB_at (netB_t hb).2.2.2.2 i hi)
  obtain ⟨_, _, _, hn, _⟩ := netB_t hb
  obtain ⟨hf, e1⟩ := nmAt_in f0 f1
  obtain ⟨ht, e2⟩ := nmAt_in t0 t1
  refine ⟨n.pipes[i].fr.toNat, n.pipes[i].to.toNat, hf, ht, by omega, by omega, ?_, ?_, (nameB_sz (nodeB_parts (nodesB_mem hn _ (List.getElem_mem hf))).1).2, (nameB_sz (nodeB_parts (nodesB_mem hn _ (List.getElem_mem ht))).1).2, by omega, by omega, by omega, by omega, by omega, by omega⟩
  · rw [e1]; exact tb_of _
  · rw [e2]; exact tb_of _

end Go.Proofs.YtdbgncinaacheaaGreatDoor
