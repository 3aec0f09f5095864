/- Slices of structs that the call itself makes and appends to. -/
import Derived.Test.YtdbgncinaacheaaGreatDoorMark
import Derived.Laws.AppendOwnNone
import Derived.Maps.AppendAt
namespace Go.Proofs.YtdbgncinaacheaaGreatDoor
open Go.RowKit

section
variable {α : Type} {en : α → List Value} {sz : Nat}
theorem flat_len (hen : ∀ x, (en x).length = sz) (xs : List α) : (xs.flatMap en).length = xs.length * sz := by
  induction xs with
  | nil => simp
  | cons a xs ih => rw [List.flatMap_cons, List.length_append, ih, hen, List.length_cons, Nat.add_mul]; omega
theorem flat_get (hen : ∀ x, (en x).length = sz) (xs : List α) (i j : Nat) (hi : i < xs.length) (hj : j < sz) : (xs.flatMap en)[i * sz + j]? = (en xs[i])[j]? := by
  induction xs generalizing i with
  | nil => simp at hi
  | cons a xs ih =>
    rw [List.flatMap_cons]
    cases i with
    | zero => rw [Nat.zero_mul, Nat.zero_add, List.getElem?_append_left (by rw [hen]; exact hj)]; rfl
    | succ i =>
      have e : (i + 1) * sz + j = sz + (i * sz + j) := by rw [Nat.add_mul]; omega
      rw [List.getElem?_append_right (by rw [hen]; omega), hen, e, Nat.add_sub_cancel_left]
      simp only [List.getElem_cons_succ]
      exact ih i (by simpa using hi)
/-- The cells of rows, flat. -/
theorem rows_news (hen : ∀ x, (en x).length = sz) (hsz : 0 < sz) {w : World} {b off : Nat} {xs : List α} (h : ∀ i (h : i < xs.length), CellsAt w b (off + i * sz) (en xs[i])) :
    ∀ j u, (xs.flatMap en)[j]? = some u → w.cell? ((⟨b, off, none⟩ : Addr).add j) = some u := by
  intro j u hu
  have hj : j < xs.length * sz := by
    rw [← flat_len hen]
    rcases Nat.lt_or_ge j (xs.flatMap en).length with h1 | h1
    · exact h1
    · rw [List.getElem?_eq_none h1] at hu; cases hu
  have hi : j / sz < xs.length := Nat.div_lt_of_lt_mul (by rw [Nat.mul_comm]; exact hj)
  have hm := Nat.mod_lt j hsz
  have e : j = (j / sz) * sz + j % sz := by rw [Nat.mul_comm]; exact (Nat.div_add_mod j sz).symm
  rw [e, flat_get hen xs _ _ hi hm] at hu
  have hl : j % sz < (en xs[j / sz]).length := by rw [hen]; exact hm
  have hc := h (j / sz) hi (j % sz) hl
  rw [List.getElem?_eq_getElem hl] at hu
  rw [add_eq rfl]
  simp only
  rw [(by omega : off + j = off + j / sz * sz + j % sz), hc]
  exact hu

/-- The slice v is the call's own (blocks from B on) and holds the rows xs. -/
def OwnR (en : α → List Value) (sz : Nat) (T : TypeId) (B : Nat) (w : World) (v : Value) (xs : List α) : Prop := w.ownsRow B T sz v xs.length (xs.flatMap en)
theorem OwnR.nil (en : α → List Value) (sz : Nat) (T : TypeId) (B : Nat) (w : World) : OwnR en sz T B w (.slice none 0 0) [] := World.ownsRow_nil w B T sz
theorem OwnR.made (en : α → List Value) (sz : Nat) (T : TypeId) (B : Nat) (w : World) (hB : B ≤ w.heap.size) : OwnR en sz T B (w.alloc (.cells #[] T)) (.slice (some ⟨w.heap.size, 0, none⟩) 0 0) ([] : List α) :=
  World.ownsRow_lit w #[] 0 hB (by simp [maxLen]) (by simp)
theorem OwnR.kept {T : TypeId} {B : Nat} {X : Nat → Prop} {w w' : World} {v : Value} {xs : List α} (h : OwnR en sz T B w v xs) (hk : Kept X w w') (hX : ∀ b, v.ownBlock = some b → ¬ X b) : OwnR en sz T B w' v xs := by
  obtain ⟨h1, h2⟩ := h
  refine ⟨h1, ?_⟩
  rcases h2 with h2 | ⟨g, cap, cur, hv, hb, hh, r⟩
  · exact Or.inl h2
  · refine Or.inr ⟨g, cap, cur, hv, hb, ?_, r⟩
    have hlt : g < w.heap.size := by
      rcases Nat.lt_or_ge g w.heap.size with h1 | h1
      · exact h1
      · simp [Array.getElem?_eq_none h1] at hh
    rw [hk.block g hlt (hX g (by rw [hv]; rfl))]; exact hh
theorem OwnR.below {T : TypeId} {B : Nat} {w w' : World} {v : Value} {xs : List α} (h : OwnR en sz T B w v xs) (hb : Below w.heap.size w w') : OwnR en sz T B w' v xs :=
  h.kept (Kept.of_below (X := fun _ => False) hb) (fun _ _ e => e)
theorem OwnR.lt {T : TypeId} {B : Nat} {w : World} {v : Value} {xs : List α} (h : OwnR en sz T B w v xs) : ∀ k, v.ownBlock = some k → B ≤ k ∧ k < w.heap.size := World.ownsRow.lt h
theorem OwnR.lower {T : TypeId} {B B' : Nat} {w : World} {v : Value} {xs : List α} (h : OwnR en sz T B w v xs) (hB : B' ≤ B) : OwnR en sz T B' w v xs := by
  obtain ⟨h1, h2⟩ := h
  refine ⟨h1, ?_⟩
  rcases h2 with h2 | ⟨g, cap, cur, hv, hb, r⟩
  · exact Or.inl h2
  · exact Or.inr ⟨g, cap, cur, hv, by omega, r⟩
/-- Where it lies, and its cells. -/
theorem OwnR.shape {T : TypeId} {B : Nat} {w : World} {v : Value} {xs : List α} (hen : ∀ x, (en x).length = sz) (h : OwnR en sz T B w v xs) :
    ∃ a cap, v = .slice a xs.length cap ∧ xs.length ≤ cap ∧ (xs = [] ∨ ∃ g, a = some ⟨g, 0, none⟩ ∧ v.ownBlock = some g ∧ B ≤ g ∧ g < w.heap.size ∧ (∀ o, w.frozen? ⟨g, o, none⟩ = false) ∧ ∀ i (h : i < xs.length), CellsAt w g (i * sz) (en xs[i])) := by
  rcases h.2 with ⟨rfl, h0⟩ | ⟨g, cap, cur, rfl, hb, hh, hc, _⟩
  · have : xs = [] := List.eq_nil_of_length_eq_zero h0
    subst this
    exact ⟨none, 0, rfl, Nat.le_refl _, Or.inl rfl⟩
  · refine ⟨_, cap, rfl, hc, Or.inr ⟨g, rfl, rfl, hb, (World.ownsRow.lt h g rfl).2, fun o => World.ownsRow.frozenAt h o, fun i hi j hj => ?_⟩⟩
    have hj' : j < sz := by rw [← hen xs[i]]; exact hj
    have hlt : i * sz + j < xs.length * sz := by
      have : (i + 1) * sz ≤ xs.length * sz := Nat.mul_le_mul_right _ hi
      rw [Nat.add_mul] at this; omega
    rw [World.ownsRow.cellAt h _ hlt, flat_get hen xs i j hi hj', List.getElem?_eq_getElem hj]
theorem OwnR.rows {T : TypeId} {B : Nat} {w : World} {v : Value} {xs : List α} (hen : ∀ x, (en x).length = sz) (h : OwnR en sz T B w v xs) (hm : xs.length ≤ 9223372036854775807) :
    RowsOwn en sz (fun b => v.ownBlock = some b ∧ B ≤ b ∧ b < w.heap.size) w v xs ∧ CapOk v := by
  obtain ⟨a, cap, rfl, hc, h⟩ := h.shape hen
  refine ⟨⟨hm, a, cap, rfl, ?_⟩, CapOk.mk hc⟩
  rcases h with h | ⟨g, rfl, ho, hb, hl, hf, hcc⟩
  · exact Or.inl h
  · exact Or.inr ⟨g, 0, rfl, hl, ⟨ho, hb, hl⟩, hf, fun i hi => by rw [Nat.zero_add]; exact hcc i hi⟩
theorem OwnR.own {T : TypeId} {B : Nat} {w : World} {v : Value} {xs : List α} (hen : ∀ x, (en x).length = sz) (h : OwnR en sz T B w v xs) (hm : xs.length ≤ 9223372036854775807) :
    RowsOwn en sz (fun b => B ≤ b ∧ b < w.heap.size) w v xs ∧ CapOk v := ⟨(h.rows hen hm).1.mono (fun _ _ hb => hb.2), (h.rows hen hm).2⟩

/-- append(v, src...), v the call's own: the rows of src come behind. -/
theorem run_append_rows {P : Program} (hen : ∀ x, (en x).length = sz) (hone : ∀ x, ∀ u ∈ en x, u.oneCell' = true) (w : World) (B : Nat) (t ty e : TypeId) (z : Value) (bytes : Nat) (ht : P.underlying t = some (.slice e)) (hinfo : (P.info? e).map (fun i => (i.zero, i.size, i.bytes)) = some (some z, sz, bytes))
    (hzs : z.cells.size = sz) (hsz : 0 < sz) (v src : Value) (xs ys : List α) (hown : OwnR en sz e B w v xs) (hsrc : RowsAt en sz w src ys) (hlen : (xs.length + ys.length) * bytes ≤ 140737488355328) (h63 : xs.length + ys.length ≤ 1000000000000000) (hB : B ≤ w.heap.size) :
    ∃ v' w', (Builtin.append_ #[t, t] ty #[v, src]).run P w = .ok v' w' ∧ OwnR en sz e B w' v' (xs ++ ys) ∧ Kept (fun b => v.ownBlock = some b) w w' ∧ (v'.ownBlock = v.ownBlock ∨ v'.ownBlock = some w.heap.size) := by
  obtain ⟨i, hi, hz, hs, hby⟩ := info_parts hinfo
  obtain ⟨hm, a, cap, rfl, hsrc⟩ := hsrc
  cases a with
  | none =>
    have hy : ys = [] := by
      rcases hsrc with h | ⟨_, _, h, _⟩
      · exact h
      · cases h
    subst hy
    refine ⟨v, w, ?_, by simpa using hown, Kept.refl _ _, Or.inl rfl⟩
    rcases hown.2 with ⟨rfl, h0⟩ | ⟨g, cap', cur, rfl, _, _, hnc, _⟩
    · simp only [List.length_nil]
      simp [Builtin.append_, run_underlying ht, sizeOf, typeInfo, hi, Builtin.lenOf, Builtin.firstCells]
    · simp only [List.length_nil]
      simp [Builtin.append_, run_underlying ht, sizeOf, typeInfo, hi, Builtin.lenOf, Builtin.firstCells, hnc, storeCells]
  | some ad =>
    have hnews : ∀ j u, (ys.flatMap en)[j]? = some u → w.cell? (ad.add j) = some u := by
      rcases hsrc with h | ⟨b, off, h, _, hc⟩
      · subst h; intro j u hu; simp at hu
      · simp only [Option.some.injEq] at h
        subst h
        exact rows_news hen hsz hc
    obtain ⟨v', w', hr, h2, h3, _, h5⟩ := run_append_own_at (P := P) w B t ty e i z sz bytes ht hi hz hs hby hzs hsz v xs.length (xs.flatMap en) hown ad ys.length cap (ys.flatMap en) (flat_len hen ys) hnews
      (fun u hu => by obtain ⟨x, _, hx⟩ := List.mem_flatMap.1 hu; exact hone x u hx) (by unfold maxLen; omega) hlen hB
    refine ⟨v', w', hr, ?_, ⟨h3.os, h3.tape, h3.output, h3.size, fun k hk hx => h3.block k hk (fun e => hx e.symm)⟩, h5⟩
    unfold OwnR
    rw [List.length_append, List.flatMap_append]
    exact h2

theorem wp_app_rows {P : Program} (hen : ∀ x, (en x).length = sz) (hone : ∀ x, ∀ u ∈ en x, u.oneCell' = true) {w : World} {o : Oper} {a : Act} {K : Act → World → Prop} {Q : Exit → Act → World → Prop} (s x : Operand) (t : TypeId)
    (ho : o.op = .call { callee := .builtin .append, args := #[s, x], argTypes := #[t, t] }) (B : Nat) (e : TypeId) (z : Value) (bytes : Nat) (ht : P.underlying t = some (.slice e)) (hinfo : (P.info? e).map (fun i => (i.zero, i.size, i.bytes)) = some (some z, sz, bytes))
    (hzs : z.cells.size = sz) (hsz : 0 < sz) (v src : Value) (xs ys : List α) (hs : a.eval s = v) (hx : a.eval x = src) (hown : OwnR en sz e B w v xs) (hsrc : RowsAt en sz w src ys) (hlen : (xs.length + ys.length) * bytes ≤ 140737488355328) (h63 : xs.length + ys.length ≤ 1000000000000000) (hB : B ≤ w.heap.size)
    (h : ∀ v' w', OwnR en sz e B w' v' (xs ++ ys) → Kept (fun b => v.ownBlock = some b) w w' → (v'.ownBlock = v.ownBlock ∨ v'.ownBlock = some w.heap.size) → K (a.put o.dst v') w') : o.wp P a w K Q := by
  obtain ⟨v', w', hr, h2, h3, h4⟩ := run_append_rows (P := P) hen hone w B t o.type e z bytes ht hinfo hzs hsz v src xs ys hown hsrc hlen h63 hB
  unfold Oper.wp execOp
  simp only [ho, resolve, invoke, builtin, Sem.run_bind, Sem.run_pure, Result.andThen_ok, List.map_toArray, List.map_cons, List.map_nil, hs, hx, hr]
  exact h v' w' h2 h3 h4
end

theorem oneN : ∀ x, ∀ u ∈ encN x, u.oneCell' = true := fun x u hu => by
  simp only [encN, List.mem_cons, List.not_mem_nil, or_false] at hu
  rcases hu with rfl | rfl | rfl <;> rfl
theorem oneP : ∀ x, ∀ u ∈ encP x, u.oneCell' = true := fun x u hu => by
  simp only [encP, List.mem_cons, List.not_mem_nil, or_false] at hu
  rcases hu with rfl | rfl | rfl | rfl | rfl <;> rfl
theorem lenN : ∀ x, (encN x).length = 3 := fun _ => rfl
theorem lenP : ∀ x, (encP x).length = 5 := fun _ => rfl

section
variable {ops : Array Oper} {rest : List Oper} {o : Oper} {a : Act} {Q : Exit → Act → World → Prop} {w : World}
theorem wpList_appN (hgd : o.guard = none) (s x : Operand) (ho : o.op = .call { callee := .builtin .append, args := #[s, x], argTypes := #[31, 31] })
    (B : Nat) (v src : Value) (xs ys : List Nd) (hs : a.eval s = v) (hx : a.eval x = src) (hown : OwnR encN 3 25 B w v xs) (hsrc : RowsAt encN 3 w src ys) (hlen : xs.length + ys.length ≤ 1000000000000) (hB : B ≤ w.heap.size)
    (h : ∀ v' w', OwnR encN 3 25 B w' v' (xs ++ ys) → Kept (fun b => v.ownBlock = some b) w w' → (v'.ownBlock = v.ownBlock ∨ v'.ownBlock = some w.heap.size) → wpList Tryz.prog ops Q rest (a.put o.dst v') w') : wpList Tryz.prog ops Q (o :: rest) a w :=
  wpList_plain hgd fun _ hK => wp_app_rows lenN oneN s x 31 ho B 25 _ 32 Tryz.underlying31 infoN rfl (by decide) v src xs ys hs hx hown hsrc (by omega) (by omega) hB fun v' w' h1 h2 h3 => hK _ _ (h v' w' h1 h2 h3)
theorem wpList_appP (hgd : o.guard = none) (s x : Operand) (ho : o.op = .call { callee := .builtin .append, args := #[s, x], argTypes := #[32, 32] })
    (B : Nat) (v src : Value) (xs ys : List Pp) (hs : a.eval s = v) (hx : a.eval x = src) (hown : OwnR encP 5 54 B w v xs) (hsrc : RowsAt encP 5 w src ys) (hlen : xs.length + ys.length ≤ 1000000000000) (hB : B ≤ w.heap.size)
    (h : ∀ v' w', OwnR encP 5 54 B w' v' (xs ++ ys) → Kept (fun b => v.ownBlock = some b) w w' → (v'.ownBlock = v.ownBlock ∨ v'.ownBlock = some w.heap.size) → wpList Tryz.prog ops Q rest (a.put o.dst v') w') : wpList Tryz.prog ops Q (o :: rest) a w :=
  wpList_plain hgd fun _ hK => wp_app_rows lenP oneP s x 32 ho B 54 _ 40 Tryz.underlying32 infoP rfl (by decide) v src xs ys hs hx hown hsrc (by omega) (by omega) hB fun v' w' h1 h2 h3 => hK _ _ (h v' w' h1 h2 h3)
/-- .. at a step of a region that draws its order. -/
theorem step_appN {K : Act → World → Prop} {E : Prop} (hgd : o.guard = none) (s x : Operand) (ho : o.op = .call { callee := .builtin .append, args := #[s, x], argTypes := #[31, 31] })
    (B : Nat) (v src : Value) (xs ys : List Nd) (hs : a.eval s = v) (hx : a.eval x = src) (hown : OwnR encN 3 25 B w v xs) (hsrc : RowsAt encN 3 w src ys) (hlen : xs.length + ys.length ≤ 1000000000000) (hB : B ≤ w.heap.size)
    (h : ∀ v' w', OwnR encN 3 25 B w' v' (xs ++ ys) → Kept (fun b => v.ownBlock = some b) w w' → (v'.ownBlock = v.ownBlock ∨ v'.ownBlock = some w.heap.size) → K (a.put o.dst v') w') :
    if Region.wanted o (yielded ops a.tmps) = true then Oper.wp Tryz.prog o a w K Q else E := by
  have hw : Region.wanted o (yielded ops a.tmps) = true := by simp [Region.wanted, hgd]
  rw [if_pos hw]
  exact wp_app_rows lenN oneN s x 31 ho B 25 _ 32 Tryz.underlying31 infoN rfl (by decide) v src xs ys hs hx hown hsrc (by omega) (by omega) hB h
theorem step_appP {K : Act → World → Prop} {E : Prop} (hgd : o.guard = none) (s x : Operand) (ho : o.op = .call { callee := .builtin .append, args := #[s, x], argTypes := #[32, 32] })
    (B : Nat) (v src : Value) (xs ys : List Pp) (hs : a.eval s = v) (hx : a.eval x = src) (hown : OwnR encP 5 54 B w v xs) (hsrc : RowsAt encP 5 w src ys) (hlen : xs.length + ys.length ≤ 1000000000000) (hB : B ≤ w.heap.size)
    (h : ∀ v' w', OwnR encP 5 54 B w' v' (xs ++ ys) → Kept (fun b => v.ownBlock = some b) w w' → (v'.ownBlock = v.ownBlock ∨ v'.ownBlock = some w.heap.size) → K (a.put o.dst v') w') :
    if Region.wanted o (yielded ops a.tmps) = true then Oper.wp Tryz.prog o a w K Q else E := by
  have hw : Region.wanted o (yielded ops a.tmps) = true := by simp [Region.wanted, hgd]
  rw [if_pos hw]
  exact wp_app_rows lenP oneP s x 32 ho B 54 _ 40 Tryz.underlying32 infoP rfl (by decide) v src xs ys hs hx hown hsrc (by omega) (by omega) hB h
end

end Go.Proofs.YtdbgncinaacheaaGreatDoor
