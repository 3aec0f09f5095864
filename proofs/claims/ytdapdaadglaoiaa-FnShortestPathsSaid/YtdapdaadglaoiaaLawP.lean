/- A shortest path leads from its beginning to its end (plain). -/
import Derived.Test.YtdapdaadglaoiaaPathB
import Derived.Test.YtdapdaadglaoiaaCode
namespace Go.Proofs.Ytdapdaadglaoiaa
open Go.RowKit

def atK (n : Net) (v : Int) (P : List Int) (k : Nat) : Int := (P.take k).foldl (fun x e => oth (pAt n e) x) v
theorem atK_succ (n : Net) (v : Int) (P : List Int) (k : Nat) (h : k < P.length) : atK n v P (k + 1) = oth (pAt n P[k]) (atK n v P k) := by
  unfold atK
  rw [List.take_succ_eq_append_getElem h, List.foldl_append]; rfl
theorem atK_append (n : Net) (v : Int) (P Q : List Int) (k : Nat) (h : k ≤ P.length) : atK n v (P ++ Q) k = atK n v P k := by
  unfold atK
  rw [List.take_append_of_le_length h]
theorem path_ok {n : Net} (hb : netB n = true) {v : Int} {s : Sr} (g : Good n v s) (d : Nat) : ∀ x : Nat, (x : Int) ∈ s.order → s.dist.getD x 0 = d →
    atK n v (pb n s d x).reverse d = x ∧ ∀ k, k ≤ d → 0 ≤ atK n v (pb n s d x).reverse k ∧ atK n v (pb n s d x).reverse k ≤ 1000 ∧
      (k < d → oeB n ((pb n s d x).reverse.getD k 0) (atK n v (pb n s d x).reverse k) = 0 ∧ oeA n ((pb n s d x).reverse.getD k 0) (atK n v (pb n s d x).reverse k) = atK n v (pb n s d x).reverse (k + 1)) := by
  induction d with
  | zero =>
    intro x hx hd
    have hxv : (x : Int) = v := g.zero hx (by rw [Int.toNat_natCast]; exact hd)
    have hr := g.rng _ hx
    have hnl := netB_t hb
    refine ⟨by rw [hxv]; rfl, fun k hk => ⟨?_, ?_, fun h => by omega⟩⟩
    · obtain rfl : k = 0 := by omega
      show 0 ≤ v
      omega
    · obtain rfl : k = 0 := by omega
      show v ≤ 1000
      omega
  | succ d ih =>
    intro x hx hd
    have hne : (x : Int) ≠ v := fun e => by
      have h0 := g.d0
      rw [← e, Int.toNat_natCast] at h0
      omega
    obtain ⟨i, y, e, hip, he, h1, h2, h3, h4, h5, h6⟩ := g.back hx hne hd
    obtain rfl : d = e := by omega
    obtain ⟨i1, i2⟩ := ih y h4 h5
    have hP : (pb n s (d + 1) x).reverse = (pb n s d y).reverse ++ [(i : Int)] := by rw [h6, List.reverse_cons]
    have hl : (pb n s d y).reverse.length = d := by simp [pb_len]
    have hnl := netB_t hb
    have hyr := g.rng _ h4
    have hxr := g.rng _ hx
    have hy2 : atF (y : Int) n.pipes[i] = true := by rw [← h3]; exact oth_at h2
    have hxy : oth n.pipes[i] y = x := by rw [← h3]; exact oth_oth h2
    have hlast : (pb n s (d + 1) x).reverse.getD d 0 = i := by rw [hP]; simp [List.getD, hl]
    have hat : atK n v (pb n s (d + 1) x).reverse d = y := by rw [hP, atK_append _ _ _ _ _ (by omega)]; exact i1
    have hend : atK n v (pb n s (d + 1) x).reverse (d + 1) = x := by
      rw [atK_succ _ _ _ _ (by simp [pb_len]), hat]
      have : (pb n s (d + 1) x).reverse[d]'(by simp [pb_len]) = i := by
        have h := hlast
        simpa [List.getD, pb_len] using h
      rw [this, pAt_nat hip]
      exact hxy
    have hoe : oeB n (i : Int) y = 0 := by
      have e1 : inB (i : Int) 0 ((n.pipes.length : Int) - 1) = true := inB_mk (by omega) (by omega)
      have e2 : inB (y : Int) 0 ((n.nodes.length : Int) - 1) = true := inB_mk (by omega) (by omega)
      unfold oeB
      rw [if_pos hb, if_pos ⟨e1, e2⟩, pAt_nat hip, if_pos (atF_iff.1 hy2)]
    refine ⟨hend, fun k hk => ?_⟩
    by_cases hkd : k < d
    · obtain ⟨j1, j2, j3⟩ := i2 k (by omega)
      obtain ⟨j4, j5⟩ := j3 hkd
      rw [hP, atK_append _ _ _ _ _ (by omega), atK_append _ _ _ _ _ (by omega)]
      refine ⟨j1, j2, fun _ => ?_⟩
      have : ((pb n s d y).reverse ++ [(i : Int)]).getD k 0 = (pb n s d y).reverse.getD k 0 := by
        simp only [List.getD]
        rw [List.getElem?_append_left (by omega)]
      rw [this]
      exact ⟨j4, j5⟩
    · by_cases hkd2 : k = d
      · subst hkd2
        rw [hat]
        refine ⟨by omega, by omega, fun _ => ?_⟩
        rw [hlast, hend]
        exact ⟨hoe, by rw [oeA, if_pos hoe, pAt_nat hip]; exact hxy⟩
      · obtain rfl : k = d + 1 := by omega
        rw [hend]
        exact ⟨by omega, by omega, fun h => by omega⟩

end Go.Proofs.Ytdapdaadglaoiaa
