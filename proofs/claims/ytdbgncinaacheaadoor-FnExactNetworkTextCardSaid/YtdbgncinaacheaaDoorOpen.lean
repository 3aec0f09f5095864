/- A network, a node, that came in: what the reading tells of memory. Any program. -/
import Derived.Test.YtdbgncinaacheaaDoorNet
import Derived.ProofKit
import Derived.Deep.Slices
import Derived.Lib.SmallJoins
namespace Go.Proofs.YtdbgncinaacheaaDoor
open Go.ChangeShapes Go.WideShapes Go.ChangeAt Go.RowKit Go.Deep Go.Joins
open Go.ChangeMaps (open_string shut_string)

section
variable {H : Type} {enc : TypeId × Value → H} {P : Program} {w : World} {base : Nat} {spare : Nat → Bool} {held : Bool}

theorem list_of {α : Type} [Inhabited α] (n : Nat) (p : Nat → α → Prop) (h : ∀ i, i < n → ∃ x, p i x) : ∃ xs : List α, xs.length = n ∧ ∀ i (hi : i < xs.length), p i xs[i] := by
  obtain ⟨f, hf⟩ := choose_lt h
  refine ⟨(List.range n).map f, by simp, fun i hi => ?_⟩
  simp only [List.getElem_map, List.getElem_range]
  exact hf i (by simpa using hi)

instance : Inhabited Nd := ⟨⟨ByteArray.empty, 0, 0⟩⟩
instance : Inhabited Pp := ⟨⟨0, 0, 0, 0, 0⟩⟩

/-- A slice of structs of which each element's cells are known to be some x's. -/
theorem open_rows {α : Type} [Inhabited α] (en : α → List Value) (sz : Nat) (hsz : 0 < sz) (hen : ∀ x, (en x).length = sz) (Q : α → Prop) {t e : TypeId} {fuel : Nat} {v : Value} {x : DataW H × List MemPlace} (ht : P.underlying t = some (.slice e)) (ce : P.cellsOf e = sz)
    (hel : ∀ n cs d, DataW.trod enc P w base spare held n e cs = some d → cs.length = sz → ∃ x, cs = en x ∧ Q x)
    (h : DataW.trod enc P w base spare held fuel t [v] = some x) : ∃ xs, RowsAt en sz w v xs ∧ ∀ x ∈ xs, Q x := by
  rcases open_slice ht h with ⟨h0, _⟩ | ⟨a, len, cap, m, n, D, Pl, h0, hb, hl, hm, hmm, _, hx⟩
  · obtain rfl : v = .slice none 0 0 := by simpa using h0
    exact ⟨[], RowsAt.nil en sz w, by simp⟩
  · obtain rfl : v = .slice (some a) len cap := by simpa using h0
    have hlm : len ≤ m := by rw [hmm]; split <;> omega
    obtain ⟨xs, hxl, hxs⟩ := list_of len (fun i x => w.cells? base (a.add (i * sz)) sz = some (en x) ∧ Q x) (fun i hi => by
      obtain ⟨cs', h1, h2⟩ := hx i (by omega)
      rw [ce] at h1
      obtain ⟨_, hlen, _⟩ := World.cells?_some h1
      obtain ⟨y, hy, hq⟩ := hel n cs' _ h2 hlen
      exact ⟨y, by rw [h1, hy], hq⟩)
    refine ⟨xs, ⟨by rw [hxl]; unfold maxLen at hm; omega, some a, cap, by rw [hxl], ?_⟩, fun y hy => ?_⟩
    · rcases Nat.eq_zero_or_pos len with h0 | h0
      · exact Or.inl (List.eq_nil_of_length_eq_zero (by omega))
      · right
        have hcell : ∀ i (hi : i < xs.length) j (hj : j < sz), w.cell? (a.add (i * sz + j)) = (en xs[i])[j]? := by
          intro i hi j hj
          obtain ⟨_, _, hc⟩ := World.cells?_some (hxs i hi).1
          have := hc j hj
          rw [add_add] at this
          exact this
        have c0 := hcell 0 (by omega) 0 hsz
        rw [List.getElem?_eq_getElem (by rw [hen]; exact hsz)] at c0
        simp only [Nat.zero_mul, Nat.add_zero] at c0
        have hsp : a.spot = none := by
          have e : a.add 0 = a := by simp [Addr.add]
          rw [e] at c0
          exact spot_none c0
        have hblk : a.block < w.heap.size := by
          have := World.block_lt_of_cell? _ _ c0
          rw [add_eq hsp] at this; exact this
        refine ⟨a.block, a.off, ?_, hblk, fun i hi j hj => ?_⟩
        · cases a; simp at hsp; simp [hsp]
        · have hj' : j < sz := by rw [← hen xs[i]]; exact hj
          have := hcell i hi j hj'
          rw [add_eq hsp, List.getElem?_eq_getElem hj] at this
          rw [← this, Nat.add_assoc]
    · obtain ⟨i, hi, rfl⟩ := List.getElem_of_mem hy
      exact (hxs i hi).2

theorem node_cells {e : TypeId} {f0 f1 f2 : Field} (he : P.underlying e = some (.struct #[f0, f1, f2])) (o0 : f0.offset = 0) (o1 : f1.offset = 1) (o2 : f2.offset = 2)
    (c0 : P.cellsOf f0.type = 1) (c1 : P.cellsOf f1.type = 1) (c2 : P.cellsOf f2.type = 1) (u0 : P.underlying f0.type = some .string) (u1 : P.underlying f1.type = some (.int .i64)) (u2 : P.underlying f2.type = some (.int .i64))
    (n : Nat) (cs : List Value) (d : DataW H × List MemPlace) (h : DataW.trod enc P w base spare held n e cs = some d) (hl : cs.length = 3) : ∃ x : Nd, cs = encN x ∧ x.name.size ≤ 9223372036854775807 := by
  obtain ⟨xs, k, hk, hxy, _, hxl, hf⟩ := DataW.trod_struct he h
  match xs, hxl, cs, hl with
  | [y0, y1, y2], _, [v0, v1, v2], _ =>
    have g0 := hf 0 f0 rfl
    have g1 := hf 1 f1 rfl
    have g2 := hf 2 f2 rfl
    simp [o0, o1, o2, c0, c1, c2] at g0 g1 g2
    obtain ⟨s, e0, _, hs⟩ := DataW.trod_string u0 g0
    obtain ⟨l, e1, _, _⟩ := DataW.trod_int u1 g1
    obtain ⟨hh, e2, _, _⟩ := DataW.trod_int u2 g2
    simp at e0 e1 e2
    subst e0 e1 e2
    exact ⟨⟨s, l, hh⟩, rfl, by simpa [maxLen] using hs⟩

theorem pipe_cells {e : TypeId} {f0 f1 f2 f3 f4 : Field} (he : P.underlying e = some (.struct #[f0, f1, f2, f3, f4])) (o0 : f0.offset = 0) (o1 : f1.offset = 1) (o2 : f2.offset = 2) (o3 : f3.offset = 3) (o4 : f4.offset = 4)
    (c0 : P.cellsOf f0.type = 1) (c1 : P.cellsOf f1.type = 1) (c2 : P.cellsOf f2.type = 1) (c3 : P.cellsOf f3.type = 1) (c4 : P.cellsOf f4.type = 1) (u0 : P.underlying f0.type = some (.int .i64)) (u1 : P.underlying f1.type = some (.int .i64)) (u2 : P.underlying f2.type = some (.int .i64)) (u3 : P.underlying f3.type = some (.int .i64)) (u4 : P.underlying f4.type = some (.int .i64))
    (n : Nat) (cs : List Value) (d : DataW H × List MemPlace) (h : DataW.trod enc P w base spare held n e cs = some d) (hl : cs.length = 5) : ∃ x : Pp, cs = encP x ∧ True := by
  obtain ⟨xs, k, hk, hxy, _, hxl, hf⟩ := DataW.trod_struct he h
  match xs, hxl, cs, hl with
  | [y0, y1, y2, y3, y4], _, [v0, v1, v2, v3, v4], _ =>
    have g0 := hf 0 f0 rfl
    have g1 := hf 1 f1 rfl
    have g2 := hf 2 f2 rfl
    have g3 := hf 3 f3 rfl
    have g4 := hf 4 f4 rfl
    simp [o0, o1, o2, o3, o4, c0, c1, c2, c3, c4] at g0 g1 g2 g3 g4
    obtain ⟨a0, e0, _, _⟩ := DataW.trod_int u0 g0
    obtain ⟨a1, e1, _, _⟩ := DataW.trod_int u1 g1
    obtain ⟨a2, e2, _, _⟩ := DataW.trod_int u2 g2
    obtain ⟨a3, e3, _, _⟩ := DataW.trod_int u3 g3
    obtain ⟨a4, e4, _, _⟩ := DataW.trod_int u4 g4
    simp at e0 e1 e2 e3 e4
    subst e0 e1 e2 e3 e4
    exact ⟨⟨a0, a1, a2, a3, a4⟩, rfl, trivial⟩
end

end Go.Proofs.YtdbgncinaacheaaDoor
