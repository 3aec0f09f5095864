/- Turning a pipe twice; a network without a pipe (plain). -/
import Derived.Test.YtdapdaadglaoiaaDelS
import Derived.Test.YtdapdaadglaoiaaBridge
import Derived.Test.YtdapdaadglaoiaaPipesAt
namespace Go.Proofs.Ytdapdaadglaoiaa
open Go.RowKit

theorem OutN.eq {f : Nat} {args : Array Value} {w : World} {p : Net × Int} {T : Net} {c : Int} (h : Calls Try.prog f args w (OutN w p)) (E : p = (T, c)) :
    Calls Try.prog f args w fun e w' => ∃ nv pv, e = .returned (.tuple #[.agg #[nv, pv], .int .i64 c]) ∧ NetApart w.heap.size w'.heap.size w' nv pv T ∧ (CapOk nv ∧ CapOk pv) ∧ Below w.heap.size w w' := by
  subst E; exact h
theorem OutI.eq {f : Nat} {args : Array Value} {w : World} {p : List Int × Int} {T : List Int} {c : Int} (h : Calls Try.prog f args w (OutI w p)) (E : p = (T, c)) :
    Calls Try.prog f args w fun e w' => ∃ r, e = .returned (.tuple #[r, .int .i64 c]) ∧ Slc (fun b => w.heap.size ≤ b ∧ b < w'.heap.size) w' r T ∧ Below w.heap.size w w' := by
  subst E; exact h
theorem pipeB_turn (m : Nat) (p : Pp) : pipeB m (turnP p) = pipeB m p := by
  have h : (p.to == p.fr) = (p.fr == p.to) := by
    rw [Bool.eq_iff_iff, beq_iff_eq, beq_iff_eq]; exact ⟨Eq.symm, Eq.symm⟩
  unfold pipeB turnP
  rw [h, Bool.and_comm (inB p.to 0 _)]
theorem netB_turn {n : Net} (hb : netB n = true) (k : Nat) (hk : k < n.pipes.length) : netB (turnN n k) = true := by
  obtain ⟨h1, h2, h3, h4, h5⟩ := netB_t hb
  refine netB_mk h1 h2 (by simpa [turnN] using h3) h4 ?_
  refine pipesB_mk (fun i hi => ?_)
  have hi' : i < n.pipes.length := by simpa [turnN] using hi
  simp only [turnN, List.getElem_set]
  split
  · rw [pipeB_turn]
    have : n.pipes.getD k zP = n.pipes[k] := by simp [List.getD, hk]
    rw [this]; exact pipesB_at h5 k hk
  · exact pipesB_at h5 i hi'
theorem turn_turn {n : Net} {x : Int} (h : codeOf n n.pipes.length x = 0) : tpR n x = (turnN n x.toNat, 0) ∧ tpR (turnN n x.toNat) x = (n, 0) ∧ wpR n x = (dropNet n x.toNat, 0) ∧ (dropNet n x.toNat).pipes.length + 1 = n.pipes.length := by
  obtain ⟨hb, h0, h1⟩ := codeOf_zero h
  have hk : x.toNat < n.pipes.length := by omega
  have hl : (turnN n x.toNat).pipes.length = n.pipes.length := by simp [turnN]
  have hc : codeOf (turnN n x.toNat) (turnN n x.toNat).pipes.length x = 0 := by
    unfold codeOf at h ⊢
    rw [hb] at h
    rw [netB_turn hb _ hk, hl]
    exact h
  refine ⟨by rw [tpR, if_pos h], ?_, by rw [wpR, if_pos h], ?_⟩
  · rw [tpR, if_pos hc]
    have : turnN (turnN n x.toNat) x.toNat = n := by
      cases n with
      | mk ns ps =>
        have hk' : x.toNat < ps.length := hk
        simp only [turnN, List.getD, List.getElem?_eq_getElem hk', Option.getD_some, turnP, List.getElem?_set_self hk', List.set_set]
        congr 1
        exact List.set_getElem_self hk'
    rw [this]
  · simp only [dropNet, List.length_append, List.length_take, List.length_drop]; omega

end Go.Proofs.Ytdapdaadglaoiaa
