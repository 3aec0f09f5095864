/- A node found by its new name; renamed back (plain). -/
import Derived.Test.YtdapdaadglaoiaaRename
import Derived.Test.YtdapdaadglaoiaaNamed
import Derived.Test.YtdapdaadglaoiaaBridge
namespace Go.Proofs.Ytdapdaadglaoiaa
open Go.RowKit

theorem ren_back {n : Net} {x : Int} {s : ByteArray} (hc : codeNs n [x] = 0) (hb2 : netB (renN n x.toNat s) = true) :
    x.toNat < n.nodes.length ∧ rnR n x s = (renN n x.toNat s, 0) ∧ nnA (renN n x.toNat s) s = x ∧ nnB (renN n x.toNat s) s = 0 ∧ rnR (renN n x.toNat s) x (n.nodes.getD x.toNat zN).name = (n, 0) := by
  obtain ⟨hb, h0, h1⟩ := codeNs_one' hc
  have hk : x.toNat < n.nodes.length := by omega
  have hl : (renN n x.toNat s).nodes.length = n.nodes.length := by simp [renN]
  have hidx : nIdx (renN n x.toNat s).nodes s = x := by
    have hat := nodesB_at (netB_t hb2).2.2.2.1 x.toNat (by rw [hl]; exact hk)
    unfold nodeAtB at hat
    simp only [Bool.and_eq_true, decide_eq_true_eq] at hat
    have hname : ((renN n x.toNat s).nodes.getD x.toNat zN).name = s := by simp [renN, List.getD, hk]
    rw [hname] at hat
    have := nIdx_hit (ns := (renN n x.toNat s).nodes) (s := s) x.toNat (by rw [hl]; exact hk) (by
      rw [← getD_eq (by rw [hl]; exact hk), hname]; exact sEq_iff.2 rfl) (fun j hj hjk => by
      rcases nIdx_cases ((renN n x.toNat s).nodes.take x.toNat) s with ⟨_, h⟩ | ⟨i, hi, h2, _⟩
      · have := h j (by rw [List.length_take]; omega)
        simpa using this
      · rw [h2] at hat; omega)
    rw [this]; omega
  have hc2 : codeNs (renN n x.toNat s) [x] = 0 := by
    unfold codeNs at hc ⊢
    rw [hb] at hc
    rw [hb2, hl]
    exact hc
  have hren : renN (renN n x.toNat s) x.toNat (n.nodes.getD x.toNat zN).name = n := by
    cases n with
    | mk ns ps =>
      have hk' : x.toNat < ns.length := hk
      simp only [renN, List.getD, List.getElem?_eq_getElem hk', Option.getD_some, List.getElem?_set_self hk', List.set_set]
      congr 1
      exact List.set_getElem_self hk'
  refine ⟨hk, by rw [rnR, if_pos hc, if_pos hb2], ?_, ?_, ?_⟩
  · rw [nnA, if_pos hb2, hidx, if_neg (by omega)]
  · rw [nnB, if_pos hb2, hidx, if_neg (by omega)]
  · rw [rnR, if_pos hc2, hren, if_pos hb]

end Go.Proofs.Ytdapdaadglaoiaa
