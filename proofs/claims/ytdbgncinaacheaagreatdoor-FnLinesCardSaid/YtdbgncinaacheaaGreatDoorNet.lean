/- Networks: the data, and what it means that a network lies in memory. No program. -/
import Derived.Test.YtdbgncinaacheaaGreatDoorMem
namespace Go.Proofs.YtdbgncinaacheaaGreatDoor
open Go.RowKit

structure Nd where
  name : ByteArray
  low : Int
  high : Int
structure Pp where
  fr : Int
  to : Int
  k : Int
  vol : Int
  lim : Int
structure Net where
  nodes : List Nd
  pipes : List Pp

/-- The zero node, the zero pipe. -/
def zN : Nd := ⟨ByteArray.empty, 0, 0⟩
def zP : Pp := ⟨0, 0, 0, 0, 0⟩

/-- The cells at o, o + 1, .. of block b hold l. -/
def CellsAt (w : World) (b o : Nat) (l : List Value) : Prop := ∀ j (h : j < l.length), w.cell? ⟨b, o + j, none⟩ = some l[j]

/-- The slice value v reads in w as xs, each element sz cells. -/
def RowsAt {α : Type} (enc : α → List Value) (sz : Nat) (w : World) (v : Value) (xs : List α) : Prop :=
  xs.length ≤ 9223372036854775807 ∧ ∃ a cap, v = .slice a xs.length cap ∧ (xs = [] ∨ ∃ b off, a = some ⟨b, off, none⟩ ∧ b < w.heap.size ∧ ∀ i (h : i < xs.length), CellsAt w b (off + i * sz) (enc xs[i]))
theorem below_undrew {w w' : World} (h : Below w.drew.heap.size w.drew w') : Below w.heap.size w w' := ⟨h.os, h.tape, h.output, h.size, h.block⟩
/-- A slice's capacity is at least its length. -/
def CapOk (v : Value) : Prop := ∀ a n c, v = .slice a n c → n ≤ c
theorem CapOk.mk {a : Option Addr} {n c : Nat} (h : n ≤ c) : CapOk (.slice a n c) := fun _ _ _ e => by simp only [Value.slice.injEq] at e; omega
theorem CapOk.le {a : Option Addr} {n c : Nat} (h : CapOk (.slice a n c)) : n ≤ c := h _ _ _ rfl
/-- .. its block is one of X, and may be written. -/
def RowsOwn {α : Type} (enc : α → List Value) (sz : Nat) (X : Nat → Prop) (w : World) (v : Value) (xs : List α) : Prop :=
  xs.length ≤ 9223372036854775807 ∧ ∃ a cap, v = .slice a xs.length cap ∧ (xs = [] ∨ ∃ b off, a = some ⟨b, off, none⟩ ∧ b < w.heap.size ∧ X b ∧ (∀ o, w.frozen? ⟨b, o, none⟩ = false) ∧ ∀ i (h : i < xs.length), CellsAt w b (off + i * sz) (enc xs[i]))

section
variable {α : Type} {enc : α → List Value} {sz : Nat} {X Y : Nat → Prop} {w w' : World} {v : Value} {xs : List α}
theorem CellsAt.kept {b o : Nat} {l : List Value} (h : CellsAt w b o l) (hb : w'.heap[b]? = w.heap[b]?) : CellsAt w' b o l := fun j hj => by
  rw [World.cell?_of_block (w := w) (a := ⟨b, o + j, none⟩) hb]; exact h j hj
theorem RowsOwn.at (h : RowsOwn enc sz X w v xs) : RowsAt enc sz w v xs := by
  obtain ⟨hm, a, cap, hv, h⟩ := h
  refine ⟨hm, a, cap, hv, ?_⟩
  rcases h with h | ⟨b, off, ha, hl, _, _, h⟩
  · exact Or.inl h
  · exact Or.inr ⟨b, off, ha, hl, h⟩
theorem RowsAt.below (h : RowsAt enc sz w v xs) (hb : Below w.heap.size w w') : RowsAt enc sz w' v xs := by
  obtain ⟨hm, a, cap, hv, h⟩ := h
  refine ⟨hm, a, cap, hv, ?_⟩
  rcases h with h | ⟨b, off, ha, hl, h⟩
  · exact Or.inl h
  · exact Or.inr ⟨b, off, ha, Nat.lt_of_lt_of_le hl hb.size, fun i hi => (h i hi).kept (hb.block b hl)⟩
theorem RowsOwn.kept (h : RowsOwn enc sz X w v xs) (hk : Kept Y w w') (hX : ∀ b, b < w.heap.size → X b → ¬ Y b) : RowsOwn enc sz X w' v xs := by
  obtain ⟨hm, a, cap, hv, h⟩ := h
  refine ⟨hm, a, cap, hv, ?_⟩
  rcases h with h | ⟨b, off, ha, hl, hp, hf, h⟩
  · exact Or.inl h
  · have hb := hk.block b hl (hX b hl hp)
    refine Or.inr ⟨b, off, ha, Nat.lt_of_lt_of_le hl hk.size, hp, fun o => ?_, fun i hi => (h i hi).kept hb⟩
    rw [World.frozen?_of_block (w := w) (a := ⟨b, o, none⟩) hb]; exact hf o
theorem RowsOwn.below (h : RowsOwn enc sz X w v xs) (hb : Below w.heap.size w w') : RowsOwn enc sz X w' v xs :=
  h.kept (Kept.of_below (X := fun _ => False) hb) (fun _ _ _ e => e)
theorem RowsOwn.mono (h : RowsOwn enc sz X w v xs) (hq : ∀ b, b < w.heap.size → X b → Y b) : RowsOwn enc sz Y w v xs := by
  obtain ⟨hm, a, cap, hv, h⟩ := h
  refine ⟨hm, a, cap, hv, ?_⟩
  rcases h with h | ⟨b, off, ha, hl, hp, hf, h⟩
  · exact Or.inl h
  · exact Or.inr ⟨b, off, ha, hl, hq b hl hp, hf, h⟩
theorem RowsOwn.nil (enc : α → List Value) (sz : Nat) (X : Nat → Prop) (w : World) : RowsOwn enc sz X w (.slice none 0 0) [] := ⟨by simp, none, 0, rfl, Or.inl rfl⟩
theorem RowsAt.nil (enc : α → List Value) (sz : Nat) (w : World) : RowsAt enc sz w (.slice none 0 0) [] := ⟨by simp, none, 0, rfl, Or.inl rfl⟩
theorem RowsAt.empty (enc : α → List Value) (sz : Nat) (w : World) (a : Option Addr) (cap : Nat) : RowsAt enc sz w (.slice a 0 cap) [] := ⟨by simp, a, cap, rfl, Or.inl rfl⟩
theorem RowsAt.len {a : Option Addr} {n cap : Nat} (h : RowsAt enc sz w (.slice a n cap) xs) : n = xs.length := by
  obtain ⟨_, a', cap', hv, _⟩ := h
  simp at hv; exact hv.2.1
theorem RowsAt.le {a : Option Addr} {n cap : Nat} (h : RowsAt enc sz w (.slice a n cap) xs) : n ≤ 9223372036854775807 := by rw [h.len]; exact h.1
theorem RowsAt.shape (h : RowsAt enc sz w v xs) : ∃ a cap, v = .slice a xs.length cap := by obtain ⟨_, a, cap, hv, _⟩ := h; exact ⟨a, cap, hv⟩
theorem RowsAt.at' {a : Option Addr} {n cap : Nat} (h : RowsAt enc sz w (.slice a n cap) xs) (h0 : 0 < xs.length) :
    ∃ b off, a = some ⟨b, off, none⟩ ∧ b < w.heap.size ∧ ∀ i (h : i < xs.length), CellsAt w b (off + i * sz) (enc xs[i]) := by
  obtain ⟨hm, a', cap', hv, h⟩ := h
  simp only [Value.slice.injEq] at hv
  obtain ⟨rfl, _, rfl⟩ := hv
  rcases h with h | h
  · simp [h] at h0
  · exact h
theorem RowsOwn.at' {a : Option Addr} {n cap : Nat} (h : RowsOwn enc sz X w (.slice a n cap) xs) (h0 : 0 < xs.length) :
    ∃ b off, a = some ⟨b, off, none⟩ ∧ b < w.heap.size ∧ X b ∧ (∀ o, w.frozen? ⟨b, o, none⟩ = false) ∧ ∀ i (h : i < xs.length), CellsAt w b (off + i * sz) (enc xs[i]) := by
  obtain ⟨hm, a', cap', hv, h⟩ := h
  simp only [Value.slice.injEq] at hv
  obtain ⟨rfl, _, rfl⟩ := hv
  rcases h with h | h
  · simp [h] at h0
  · exact h
/-- The first k elements. -/
theorem RowsAt.take {a : Option Addr} {n cap : Nat} (h : RowsAt enc sz w (.slice a n cap) xs) (k : Nat) (hk : k ≤ xs.length) (cap' : Nat) : RowsAt enc sz w (.slice a k cap') (xs.take k) := by
  rcases Nat.eq_zero_or_pos k with h0 | h0
  · subst h0; simpa using RowsAt.empty enc sz w a cap'
  · obtain ⟨b, off, ha, hl, hc⟩ := h.at' (by omega)
    have hl' : (xs.take k).length = k := by simp; omega
    refine ⟨by have := h.1; omega, a, cap', by rw [hl'], Or.inr ⟨b, off, ha, hl, fun i hi => ?_⟩⟩
    have := hc i (by omega)
    simpa using this
end

def encN (x : Nd) : List Value := [.string x.name, .int .i64 x.low, .int .i64 x.high]
def encP (x : Pp) : List Value := [.int .i64 x.fr, .int .i64 x.to, .int .i64 x.k, .int .i64 x.vol, .int .i64 x.lim]
theorem cellsN {w : World} {b o : Nat} {x : Nd} (h : CellsAt w b o (encN x)) : w.cell? ⟨b, o, none⟩ = some (.string x.name) ∧ w.cell? ⟨b, o + 1, none⟩ = some (.int .i64 x.low) ∧ w.cell? ⟨b, o + 2, none⟩ = some (.int .i64 x.high) :=
  ⟨h 0 (by simp [encN]), h 1 (by simp [encN]), h 2 (by simp [encN])⟩
theorem cellsP {w : World} {b o : Nat} {x : Pp} (h : CellsAt w b o (encP x)) : w.cell? ⟨b, o, none⟩ = some (.int .i64 x.fr) ∧ w.cell? ⟨b, o + 1, none⟩ = some (.int .i64 x.to) ∧ w.cell? ⟨b, o + 2, none⟩ = some (.int .i64 x.k) ∧ w.cell? ⟨b, o + 3, none⟩ = some (.int .i64 x.vol) ∧ w.cell? ⟨b, o + 4, none⟩ = some (.int .i64 x.lim) :=
  ⟨h 0 (by simp [encP]), h 1 (by simp [encP]), h 2 (by simp [encP]), h 3 (by simp [encP]), h 4 (by simp [encP])⟩
theorem cellsN_mk {w : World} {b o : Nat} {x : Nd} (h0 : w.cell? ⟨b, o, none⟩ = some (.string x.name)) (h1 : w.cell? ⟨b, o + 1, none⟩ = some (.int .i64 x.low)) (h2 : w.cell? ⟨b, o + 2, none⟩ = some (.int .i64 x.high)) : CellsAt w b o (encN x) := by
  intro j hj
  match j, hj with
  | 0, _ => exact h0
  | 1, _ => exact h1
  | 2, _ => exact h2
  | j + 3, h => simp [encN] at h; omega
theorem cellsP_mk {w : World} {b o : Nat} {x : Pp} (h0 : w.cell? ⟨b, o, none⟩ = some (.int .i64 x.fr)) (h1 : w.cell? ⟨b, o + 1, none⟩ = some (.int .i64 x.to)) (h2 : w.cell? ⟨b, o + 2, none⟩ = some (.int .i64 x.k)) (h3 : w.cell? ⟨b, o + 3, none⟩ = some (.int .i64 x.vol)) (h4 : w.cell? ⟨b, o + 4, none⟩ = some (.int .i64 x.lim)) : CellsAt w b o (encP x) := by
  intro j hj
  match j, hj with
  | 0, _ => exact h0
  | 1, _ => exact h1
  | 2, _ => exact h2
  | 3, _ => exact h3
  | 4, _ => exact h4
  | j + 5, h => simp [encP] at h; omega

/-- Names are of a size that a string can have. -/
def NamesOk (ns : List Nd) : Prop := ∀ x ∈ ns, x.name.size ≤ 9223372036854775807
/-- The network n lies in w: nv its nodes, pv its pipes. -/
def NetAt (w : World) (nv pv : Value) (n : Net) : Prop := RowsAt encN 3 w nv n.nodes ∧ NamesOk n.nodes ∧ RowsAt encP 5 w pv n.pipes
def NetOwn (X : Nat → Prop) (w : World) (nv pv : Value) (n : Net) : Prop := RowsOwn encN 3 X w nv n.nodes ∧ NamesOk n.nodes ∧ RowsOwn encP 5 X w pv n.pipes
/-- Nodes and pipes lie in blocks lo .. hi - 1, apart from one another. -/
def NetSep (lo hi : Nat) (w : World) (nv pv : Value) (n : Net) : Prop := ∃ m, lo ≤ m ∧ m ≤ hi ∧ RowsOwn encN 3 (fun b => lo ≤ b ∧ b < m) w nv n.nodes ∧ NamesOk n.nodes ∧ RowsOwn encP 5 (fun b => m ≤ b ∧ b < hi) w pv n.pipes
theorem NetSep.own {lo hi : Nat} {w : World} {nv pv : Value} {n : Net} (h : NetSep lo hi w nv pv n) : NetOwn (fun b => lo ≤ b ∧ b < hi) w nv pv n := by
  obtain ⟨m, h1, h2, h3, h4, h5⟩ := h
  exact ⟨h3.mono (fun b _ hb => ⟨hb.1, by omega⟩), h4, h5.mono (fun b _ hb => ⟨by omega, hb.2⟩)⟩
theorem NetSep.kept {lo hi : Nat} {Y : Nat → Prop} {w w' : World} {nv pv : Value} {n : Net} (h : NetSep lo hi w nv pv n) (hk : Kept Y w w') (hX : ∀ b, lo ≤ b → b < hi → ¬ Y b) : NetSep lo hi w' nv pv n := by
  obtain ⟨m, h1, h2, h3, h4, h5⟩ := h
  exact ⟨m, h1, h2, h3.kept hk (fun b _ hb => hX b hb.1 (by omega)), h4, h5.kept hk (fun b _ hb => hX b (by omega) hb.2)⟩
theorem NetSep.below {lo hi : Nat} {w w' : World} {nv pv : Value} {n : Net} (h : NetSep lo hi w nv pv n) (hb : Below w.heap.size w w') : NetSep lo hi w' nv pv n := by
  obtain ⟨m, h1, h2, h3, h4, h5⟩ := h
  exact ⟨m, h1, h2, h3.below hb, h4, h5.below hb⟩
theorem NetOwn.at {X : Nat → Prop} {w : World} {nv pv : Value} {n : Net} (h : NetOwn X w nv pv n) : NetAt w nv pv n := ⟨h.1.at, h.2.1, h.2.2.at⟩
theorem NetAt.below {w w' : World} {nv pv : Value} {n : Net} (h : NetAt w nv pv n) (hb : Below w.heap.size w w') : NetAt w' nv pv n := ⟨h.1.below hb, h.2.1, h.2.2.below hb⟩
theorem NetOwn.below {X : Nat → Prop} {w w' : World} {nv pv : Value} {n : Net} (h : NetOwn X w nv pv n) (hb : Below w.heap.size w w') : NetOwn X w' nv pv n := ⟨h.1.below hb, h.2.1, h.2.2.below hb⟩
theorem NetOwn.kept {X Y : Nat → Prop} {w w' : World} {nv pv : Value} {n : Net} (h : NetOwn X w nv pv n) (hk : Kept Y w w') (hX : ∀ b, b < w.heap.size → X b → ¬ Y b) : NetOwn X w' nv pv n := ⟨h.1.kept hk hX, h.2.1, h.2.2.kept hk hX⟩
theorem NetOwn.mono {X Y : Nat → Prop} {w : World} {nv pv : Value} {n : Net} (h : NetOwn X w nv pv n) (hq : ∀ b, b < w.heap.size → X b → Y b) : NetOwn Y w nv pv n := ⟨h.1.mono hq, h.2.1, h.2.2.mono hq⟩
theorem below_of_alloc {w w' : World} (o : Obj) (h : Below (w.heap.size + 1) (w.alloc o) w') : Below w.heap.size w w' :=
  ((Below.refl _ _).alloc (Nat.le_refl _) o).trans (h.mono (by omega))

theorem RowsOwn.set_of {α : Type} {en : α → List Value} {sz : Nat} {X : Nat → Prop} {w w' : World} {b off n cap : Nat} {xs : List α} (h : RowsOwn en sz X w (.slice (some ⟨b, off, none⟩) n cap) xs) (hen : ∀ y, (en y).length = sz) (i : Nat) (hi : i < xs.length) (x : α)
    (hc : CellsAt w' b (off + i * sz) (en x)) (ho : ∀ o, (o < off + i * sz ∨ off + i * sz + sz ≤ o) → w'.cell? ⟨b, o, none⟩ = w.cell? ⟨b, o, none⟩) (hf : ∀ o, w'.frozen? ⟨b, o, none⟩ = w.frozen? ⟨b, o, none⟩) (hs : w.heap.size ≤ w'.heap.size) :
    RowsOwn en sz X w' (.slice (some ⟨b, off, none⟩) n cap) (xs.set i x) := by
  obtain ⟨b', off', ha, hl, hx, hfr, hcc⟩ := h.at' (by omega)
  simp only [Option.some.injEq, Addr.mk.injEq, and_true] at ha
  obtain ⟨rfl, rfl⟩ := ha
  have hn := h.at.len
  refine ⟨by simpa using h.1, _, cap, by simp [hn], Or.inr ⟨b, off, rfl, Nat.lt_of_lt_of_le hl hs, hx, fun o => by rw [hf]; exact hfr o, fun j hj => ?_⟩⟩
  have hj' : j < xs.length := by simpa using hj
  by_cases e : i = j
  · subst e
    simpa using hc
  · rw [List.getElem_set_ne e]
    intro m hm
    have hm' : m < sz := by rw [← hen xs[j]]; exact hm
    rw [ho]
    · exact hcc j hj' m hm
    · rcases Nat.lt_or_gt_of_ne e with h1 | h1
      · right
        have : (i + 1) * sz ≤ j * sz := Nat.mul_le_mul_right _ (by omega)
        rw [Nat.add_mul] at this; omega
      · left
        have : (j + 1) * sz ≤ i * sz := Nat.mul_le_mul_right _ (by omega)
        rw [Nat.add_mul] at this; omega
theorem cell_set_ne {w : World} {b o o' : Nat} {u : Value} (h : o ≠ o') : (w.setCell ⟨b, o, none⟩ u).cell? ⟨b, o', none⟩ = w.cell? ⟨b, o', none⟩ :=
  World.cell?_setCell_other w ⟨b, o, none⟩ ⟨b, o', none⟩ u (fun e => h (congrArg Addr.off e))
theorem cell_set_same {w : World} {b o : Nat} {u u' : Value} (h : w.cell? ⟨b, o, none⟩ = some u') : (w.setCell ⟨b, o, none⟩ u).cell? ⟨b, o, none⟩ = some u := World.cell?_setCell_same _ _ _ h

theorem RowsOwn.setN {X : Nat → Prop} {w : World} {b off n cap : Nat} {xs : List Nd} (h : RowsOwn encN 3 X w (.slice (some ⟨b, off, none⟩) n cap) xs) (i : Nat) (hi : i < xs.length) (x : Nd) :
    RowsOwn encN 3 X (((w.setCell ⟨b, off + i * 3, none⟩ (.string x.name)).setCell ⟨b, off + i * 3 + 1, none⟩ (.int .i64 x.low)).setCell ⟨b, off + i * 3 + 2, none⟩ (.int .i64 x.high)) (.slice (some ⟨b, off, none⟩) n cap) (xs.set i x) := by
  obtain ⟨b', off', ha, hl, hx, hfr, hcc⟩ := h.at' (by omega)
  simp only [Option.some.injEq, Addr.mk.injEq, and_true] at ha
  obtain ⟨rfl, rfl⟩ := ha
  obtain ⟨c0, c1, c2⟩ := cellsN (hcc i hi)
  refine h.set_of (fun _ => rfl) i hi x (cellsN_mk ?_ ?_ ?_) (fun o ho => ?_) (fun o => by simp) (by simp)
  · rw [cell_set_ne (by omega), cell_set_ne (by omega), cell_set_same c0]
  · rw [cell_set_ne (by omega), cell_set_same (by rw [cell_set_ne (by omega)]; exact c1)]
  · rw [cell_set_same (by rw [cell_set_ne (by omega), cell_set_ne (by omega)]; exact c2)]
  · rw [cell_set_ne (by omega), cell_set_ne (by omega), cell_set_ne (by omega)]
theorem RowsOwn.setP {X : Nat → Prop} {w : World} {b off n cap : Nat} {xs : List Pp} (h : RowsOwn encP 5 X w (.slice (some ⟨b, off, none⟩) n cap) xs) (i : Nat) (hi : i < xs.length) (x : Pp) :
    RowsOwn encP 5 X (((((w.setCell ⟨b, off + i * 5, none⟩ (.int .i64 x.fr)).setCell ⟨b, off + i * 5 + 1, none⟩ (.int .i64 x.to)).setCell ⟨b, off + i * 5 + 2, none⟩ (.int .i64 x.k)).setCell ⟨b, off + i * 5 + 3, none⟩ (.int .i64 x.vol)).setCell ⟨b, off + i * 5 + 4, none⟩ (.int .i64 x.lim)) (.slice (some ⟨b, off, none⟩) n cap) (xs.set i x) := by
  obtain ⟨b', off', ha, hl, hx, hfr, hcc⟩ := h.at' (by omega)
  simp only [Option.some.injEq, Addr.mk.injEq, and_true] at ha
  obtain ⟨rfl, rfl⟩ := ha
  obtain ⟨c0, c1, c2, c3, c4⟩ := cellsP (hcc i hi)
  refine h.set_of (fun _ => rfl) i hi x (cellsP_mk ?_ ?_ ?_ ?_ ?_) (fun o ho => ?_) (fun o => by simp) (by simp)
  · rw [cell_set_ne (by omega), cell_set_ne (by omega), cell_set_ne (by omega), cell_set_ne (by omega), cell_set_same c0]
  · rw [cell_set_ne (by omega), cell_set_ne (by omega), cell_set_ne (by omega), cell_set_same (by rw [cell_set_ne (by omega)]; exact c1)]
  · rw [cell_set_ne (by omega), cell_set_ne (by omega), cell_set_same (by rw [cell_set_ne (by omega), cell_set_ne (by omega)]; exact c2)]
  · rw [cell_set_ne (by omega), cell_set_same (by rw [cell_set_ne (by omega), cell_set_ne (by omega), cell_set_ne (by omega)]; exact c3)]
  · rw [cell_set_same (by rw [cell_set_ne (by omega), cell_set_ne (by omega), cell_set_ne (by omega), cell_set_ne (by omega)]; exact c4)]
  · rw [cell_set_ne (by omega), cell_set_ne (by omega), cell_set_ne (by omega), cell_set_ne (by omega), cell_set_ne (by omega)]

end Go.Proofs.YtdbgncinaacheaaGreatDoor
