/- Slices of strings: where they lie, what is appended. -/
import Derived.Test.YtdbgncinaacheaaGreatDoorRows2
import Derived.Test.YtdbgncinaacheaaGreatDoorRd
namespace Go.Proofs.YtdbgncinaacheaaGreatDoor
open Go.RowKit

def encS (s : ByteArray) : List Value := [.string s]
theorem lenS : ∀ x, (encS x).length = 1 := fun _ => rfl
theorem oneS : ∀ x, ∀ u ∈ encS x, u.oneCell' = true := fun x u hu => by
  simp only [encS, List.mem_cons, List.not_mem_nil, or_false] at hu
  subst hu; rfl
theorem infoS : (Tryz.prog.info? 9).map (fun i => (i.zero, i.size, i.bytes)) = some (some (.string ByteArray.empty), 1, 16) := by kernel_rfl
section
variable {w w' : World} {v : Value} {xs : List ByteArray}
theorem cellsS {b o : Nat} {x : ByteArray} (h : w.cell? ⟨b, o, none⟩ = some (.string x)) : CellsAt w b o (encS x) := fun j hj => by
  match j, hj with
  | 0, _ => exact h
  | j + 1, h => simp [encS] at h
theorem RowsAt.strs {a : Option Addr} {n cap : Nat} (h : RowsAt encS 1 w (.slice a n cap) xs) (h0 : 0 < xs.length) :
    ∃ b off, a = some ⟨b, off, none⟩ ∧ b < w.heap.size ∧ ∀ i (hi : i < xs.length), w.cell? ⟨b, off + i, none⟩ = some (.string xs[i]) := by
  obtain ⟨b, off, ha, hl, hc⟩ := h.at' h0
  refine ⟨b, off, ha, hl, fun i hi => ?_⟩
  have := hc i hi 0 (by simp [encS])
  simpa [encS] using this
theorem strs_mk {b off cap : Nat} (hl : b < w.heap.size) (hm : xs.length ≤ 9223372036854775807) (hc : ∀ i (hi : i < xs.length), w.cell? ⟨b, off + i, none⟩ = some (.string xs[i])) : RowsAt encS 1 w (.slice (some ⟨b, off, none⟩) xs.length cap) xs :=
  ⟨hm, _, cap, rfl, Or.inr ⟨b, off, rfl, hl, fun i hi => cellsS (by rw [Nat.mul_one]; exact hc i hi)⟩⟩
/-- All but the first k. -/
theorem RowsAt.drop {b off n cap : Nat} (h : RowsAt encS 1 w (.slice (some ⟨b, off, none⟩) n cap) xs) (k : Nat) (hk : k < xs.length) (cap' : Nat) : RowsAt encS 1 w (.slice (some ⟨b, off + k, none⟩) (n - k) cap') (xs.drop k) := by
  obtain ⟨b', off', ha, hl, hc⟩ := h.strs (by omega)
  simp only [Option.some.injEq, Addr.mk.injEq, and_true] at ha
  obtain ⟨rfl, rfl⟩ := ha
  have hn := h.len
  have e : n - k = (xs.drop k).length := by simp [hn]
  rw [e]
  refine strs_mk hl (by have := h.1; simp; omega) (fun i hi => ?_)
  rw [List.getElem_drop, Nat.add_assoc]
  exact hc (k + i) (by simp at hi; omega)
/-- One string in a block of its own. -/
theorem strs_one (w : World) (T : TypeId) (s : ByteArray) : RowsAt encS 1 (w.alloc (.cells #[.string s] T)) (.slice (some ⟨w.heap.size, 0, none⟩) 1 1) [s] :=
  strs_mk (xs := [s]) (by simp) (by simp) (fun i hi => by
    obtain rfl : i = 0 := by simpa using hi
    rw [World.cell?_alloc_new]; rfl)
end
section
variable {ops : Array Oper} {rest : List Oper} {o : Oper} {a : Act} {Q : Exit → Act → World → Prop} {w : World}
theorem wpList_appS (hgd : o.guard = none) (s x : Operand) (ho : o.op = .call { callee := .builtin .append, args := #[s, x], argTypes := #[41, 41] })
    (B : Nat) (v src : Value) (xs ys : List ByteArray) (hs : a.eval s = v) (hx : a.eval x = src) (hown : OwnR encS 1 9 B w v xs) (hsrc : RowsAt encS 1 w src ys) (hlen : xs.length + ys.length ≤ 1000000000000) (hB : B ≤ w.heap.size)
    (h : ∀ v' w', OwnR encS 1 9 B w' v' (xs ++ ys) → Kept (fun b => v.ownBlock = some b) w w' → (v'.ownBlock = v.ownBlock ∨ v'.ownBlock = some w.heap.size) → wpList Tryz.prog ops Q rest (a.put o.dst v') w') : wpList Tryz.prog ops Q (o :: rest) a w :=
  wpList_plain hgd fun _ hK => wp_app_rows lenS oneS s x 41 ho B 9 _ 16 Tryz.underlying41 infoS rfl (by decide) v src xs ys hs hx hown hsrc (by omega) (by omega) hB fun v' w' h1 h2 h3 => hK _ _ (h v' w' h1 h2 h3)
theorem step_appS {K : Act → World → Prop} {E : Prop} (hgd : o.guard = none) (s x : Operand) (ho : o.op = .call { callee := .builtin .append, args := #[s, x], argTypes := #[41, 41] })
    (B : Nat) (v src : Value) (xs ys : List ByteArray) (hs : a.eval s = v) (hx : a.eval x = src) (hown : OwnR encS 1 9 B w v xs) (hsrc : RowsAt encS 1 w src ys) (hlen : xs.length + ys.length ≤ 1000000000000) (hB : B ≤ w.heap.size)
    (h : ∀ v' w', OwnR encS 1 9 B w' v' (xs ++ ys) → Kept (fun b => v.ownBlock = some b) w w' → (v'.ownBlock = v.ownBlock ∨ v'.ownBlock = some w.heap.size) → K (a.put o.dst v') w') :
    if Region.wanted o (yielded ops a.tmps) = true then Oper.wp Tryz.prog o a w K Q else E := by
  have hw : Region.wanted o (yielded ops a.tmps) = true := by simp [Region.wanted, hgd]
  rw [if_pos hw]
  exact wp_app_rows lenS oneS s x 41 ho B 9 _ 16 Tryz.underlying41 infoS rfl (by decide) v src xs ys hs hx hown hsrc (by omega) (by omega) hB h
end

end Go.Proofs.YtdbgncinaacheaaGreatDoor
