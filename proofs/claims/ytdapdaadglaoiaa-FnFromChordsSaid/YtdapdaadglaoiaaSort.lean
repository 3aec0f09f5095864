/- slices.Sort of a slice of integers that the call has made. -/
import Derived.Test.YtdapdaadglaoiaaSrt
import Derived.Test.YtdapdaadglaoiaaOwn
import Derived.Sort.OwnSortedInts
namespace Go.Proofs.Ytdapdaadglaoiaa
open Go.RowKit

theorem OwnI.lower {T : TypeId} {B B' : Nat} {w : World} {v : Value} {zs : List Int} (h : OwnI T B w v zs) (hB : B' ≤ B) : OwnI T B' w v zs := by
  obtain ⟨h1, h2⟩ := h
  refine ⟨h1, ?_⟩
  rcases h2 with h2 | ⟨g, cap, cur, hv, hb, r⟩
  · exact Or.inl h2
  · exact Or.inr ⟨g, cap, cur, hv, by omega, r⟩

/-- Ascending. -/
def sortZ (zs : List Int) : List Int := zs.mergeSort fun x y => decide (x ≤ y)
theorem sortZ_perm (zs : List Int) : (sortZ zs).Perm zs := List.mergeSort_perm zs _
theorem sortZ_len (zs : List Int) : (sortZ zs).length = zs.length := (sortZ_perm zs).length_eq
theorem sortZ_sorted (zs : List Int) : (sortZ zs).Pairwise (fun a b => a ≤ b) := by
  have := List.pairwise_mergeSort (le := fun x y : Int => decide (x ≤ y)) (fun a b c h1 h2 => by simp only [decide_eq_true_eq] at *; omega) (fun a b => by simp only [Bool.or_eq_true, decide_eq_true_eq]; omega) zs
  exact this.imp (fun h => by simpa using h)

theorem sort_any (T : TypeId) (B : Nat) (v : Value) (zs : List Int) (w : World) (h : OwnI T B w v zs) (hl : zs.length ≤ 1000000) :
    Calls Try.prog 106 #[v] w fun e w' => e = .returned (.tuple #[]) ∧ OwnI T B w' v (sortZ zs) ∧ Kept (fun b => v.ownBlock = some b) w w' := by
  rcases h.2 with ⟨rfl, h0⟩ | ⟨g, cap, cur, rfl, hb, hh, h1, h2, h3, h4⟩
  · have hz : zs = [] := List.eq_nil_of_length_eq_zero h0
    subst hz
    have hc : Calls Try.prog 106 #[.slice none 0 0] w fun e w' => e = .returned (.tuple #[]) ∧ w' = w := AnyM.slices_Sort_int_none srt none 0 w
    refine hc.mono ?_
    rintro e w' ⟨rfl, rfl⟩
    exact ⟨rfl, by simpa [sortZ] using h, Kept.refl _ _⟩
  · have hlt : g < w.heap.size := by
      rcases Nat.lt_or_ge g w.heap.size with h | h
      · exact h
      · simp [Array.getElem?_eq_none h] at hh
    have h4' : cur.toList.take zs.length = zs.map (Value.int .i64) := by simpa using h4
    have hc : Calls Try.prog 106 #[.slice (some ⟨g, 0, none⟩) zs.length cap] w _ := AnyM.slices_Sort_int srt g 0 cap zs w (holds_of_blockI hh h4') hlt (by omega)
    refine hc.mono ?_
    rintro e w' ⟨rfl, n, os, rfl⟩
    refine ⟨rfl, ?_, ?_⟩
    · have := ownsRow_sortedI (n := n) (os := os) (ss := zs) (ts := sortZ zs) (sortZ_len zs) hb hh h1 h2 h3
      unfold OwnI
      rw [sortZ_len]
      exact this
    · have := grownBy_sortedI (w := w) (g := g) (n := n) (os := os) (sortZ zs).toArray
      exact ⟨this.os, this.tape, this.output, this.size, fun k hk hx => this.block k hk (fun e => hx e.symm)⟩

end Go.Proofs.Ytdapdaadglaoiaa
