/- strings.Builder: what is written, and what stays while other memory is made. -/
import Derived.Test.YtdbgncinaacheaaDoorLay
namespace Go.Proofs.YtdbgncinaacheaaDoor
open Go.RowKit Go.Lib

theorem wri : Lays.n166 Tryd.prog joi_ren := { joi with }
theorem bst : Lays.n169 Tryd.prog joi_ren := { joi with }
/-- The builder in block b holds the text l. -/
def Bld (b : Nat) (l : Txt) (w : World) : Prop := IsBuilder 98 5 b b (byteCells l) w
theorem Bld.below {b : Nat} {l : Txt} {w w' : World} (h : Bld b l w) (hb : Below w.heap.size w w') : Bld b l w' := by
  have one : ∀ p, BuilderAt 98 5 b b p (byteCells l) w → BuilderAt 98 5 b b p (byteCells l) w' := fun p hp => by
    have hlt := hp.lt
    obtain ⟨h1, v, h2, h3, h4⟩ := hp
    refine ⟨h1, v, by rw [hb.block b hlt]; exact h2, ?_, h4⟩
    obtain ⟨g1, g2⟩ := h3
    refine ⟨g1, ?_⟩
    rcases g2 with g2 | ⟨g, cap, cur, hv, hbb, hh, r⟩
    · exact Or.inl g2
    · refine Or.inr ⟨g, cap, cur, hv, hbb, ?_, r⟩
      have hlt : g < w.heap.size := by
        rcases Nat.lt_or_ge g w.heap.size with h1 | h1
        · exact h1
        · simp [Array.getElem?_eq_none h1] at hh
      rw [hb.block g hlt]; exact hh
  rcases h with h | h
  · exact Or.inl (one _ h)
  · exact Or.inr (one _ h)
theorem bld_new (w : World) : Bld w.heap.size [] (w.alloc (.cells #[.pointer none, .slice none 0 0] 98)) := fresh_isBuilder _ _ w
theorem Bld.lt {b : Nat} {l : Txt} {w : World} (h : Bld b l w) : b < w.heap.size := by
  rcases h with h | h
  · exact h.lt
  · exact h.lt
theorem writeString_any (b : Nat) (l m : Txt) (w : World) (h : Bld b l w) (hlen : l.length + m.length ≤ 140737488355328) :
    Calls Tryd.prog 78 #[.pointer (some ⟨b, 0, none⟩), .string (tb m)] w fun e w' => e = .returned (.tuple #[.int .i64 (tb m).size, .nilIface]) ∧ Bld b (l ++ m) w' ∧ Below b w w' := by
  refine (Any.Builder_WriteString wri extra_j b b (byteCells l) (tb m) w h (by rw [byteCells_length, tb_size]; exact hlen) (Nat.le_of_lt h.lt)).mono ?_
  rintro e w' ⟨rfl, h1, h2⟩
  refine ⟨rfl, Or.inr ?_, h2⟩
  rw [strCells_eq, tb_data, ← byteCells_append] at h1
  exact h1
theorem builderString_any (b : Nat) (l : Txt) (w : World) (h : Bld b l w) :
    Calls Tryd.prog 79 #[.pointer (some ⟨b, 0, none⟩)] w fun e w' => e = .returned (.string (tb l)) ∧ Below b w w' :=
  Any.Builder_String_any bst extra_j b b l w h (Nat.le_of_lt h.lt)

end Go.Proofs.YtdbgncinaacheaaDoor
