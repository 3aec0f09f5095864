/- Words on memory: a slice that reads as integers. No program. -/
import Derived.WalkKit
import Derived.OpenShut
import Derived.Deep.QuietTactic
import Derived.Deep.OwnRows
namespace Go.Proofs.YtdbgncinaacheaaGreatDoor
open Go.RowKit

/-- The slice value v reads in w as the integers zs of kind k. -/
def Ints (k : IntKind) (w : World) (v : Value) (zs : List Int) : Prop :=
  zs.length ≤ 140737488351232 ∧ ∃ a cap, v = .slice a zs.length cap ∧ (zs = [] ∨ ∃ b off, a = some ⟨b, off, none⟩ ∧ ∀ i (h : i < zs.length), w.cell? ⟨b, off + i, none⟩ = some (.int k zs[i]))

theorem Ints.below {k : IntKind} {w w' : World} {v : Value} {zs : List Int} (h : Ints k w v zs) (hb : Below w.heap.size w w') : Ints k w' v zs := by
  obtain ⟨hm, a, cap, hv, h⟩ := h
  refine ⟨hm, a, cap, hv, ?_⟩
  rcases h with h | ⟨b, off, ha, h⟩
  · exact Or.inl h
  · refine Or.inr ⟨b, off, ha, fun i hi => ?_⟩
    have := h i hi
    rw [hb.cell (p := ⟨b, off + i, none⟩) (World.block_lt_of_cell? _ _ this)]
    exact this

theorem take_sum_succ (zs : List Int) (k : Nat) (h : k < zs.length) : (zs.take (k + 1)).sum = (zs.take k).sum + zs[k] := by
  rw [List.take_succ_eq_append_getElem h, List.sum_append]; simp

/-- Of the blocks that were there only those in X may have turned. -/
structure Kept (X : Nat → Prop) (w w' : World) : Prop where
  os : w'.os = w.os
  tape : w'.tape = w.tape
  output : w'.output = w.output
  size : w.heap.size ≤ w'.heap.size
  block : ∀ k, k < w.heap.size → ¬ X k → w'.heap[k]? = w.heap[k]?

theorem Kept.refl (X : Nat → Prop) (w : World) : Kept X w w := ⟨rfl, rfl, rfl, Nat.le_refl _, fun _ _ _ => rfl⟩
theorem Kept.trans {X : Nat → Prop} {a b c : World} (h : Kept X a b) (k : Kept X b c) : Kept X a c :=
  ⟨k.os.trans h.os, k.tape.trans h.tape, k.output.trans h.output, Nat.le_trans h.size k.size, fun i hi hx => (k.block i (Nat.lt_of_lt_of_le hi h.size) hx).trans (h.block i hi hx)⟩
theorem Kept.mono {X Y : Nat → Prop} {a b : World} (h : Kept X a b) (hxy : ∀ k, k < a.heap.size → X k → Y k) : Kept Y a b :=
  ⟨h.os, h.tape, h.output, h.size, fun i hi hy => h.block i hi (fun hx => hy (hxy i hi hx))⟩
theorem Kept.below {X : Nat → Prop} {B : Nat} {a b : World} (h : Kept X a b) (hB : B ≤ a.heap.size) (hX : ∀ k, X k → B ≤ k) : Below B a b :=
  ⟨h.os, h.tape, h.output, h.size, fun i hi => h.block i (by omega) (fun hx => by have := hX i hx; omega)⟩
theorem Kept.of_below {X : Nat → Prop} {a b : World} (h : Below a.heap.size a b) : Kept X a b := ⟨h.os, h.tape, h.output, h.size, fun i hi _ => h.block i hi⟩
theorem Kept.drew {X : Nat → Prop} {a b : World} (h : Kept X a b) : Kept X a b.drew := ⟨h.os, h.tape, h.output, h.size, h.block⟩
theorem Kept.drewN {X : Nat → Prop} {a b : World} (h : Kept X a b) (n : Nat) : Kept X a (b.drewN n) := ⟨h.os, h.tape, h.output, h.size, h.block⟩
theorem Kept.alloc {X : Nat → Prop} {a b : World} (h : Kept X a b) (o : Obj) : Kept X a (b.alloc o) :=
  h.trans ⟨rfl, rfl, rfl, by simp, fun k hk _ => Below.heap_alloc _ _ _ hk⟩
theorem Kept.setCell {X : Nat → Prop} {a b : World} (h : Kept X a b) {p : Addr} (hp : X p.block) (u : Value) : Kept X a (b.setCell p u) :=
  h.trans ⟨rfl, rfl, rfl, by simp [World.setCell], fun k _ hx => Below.heap_setCell _ _ _ _ (fun e => hx (e ▸ hp))⟩
theorem Kept.cell {X : Nat → Prop} {w w' : World} (h : Kept X w w') {p : Addr} {v : Value} (hv : w.cell? p = some v) (hp : ¬ X p.block) : w'.cell? p = some v :=
  (World.cell?_of_block (w := w) (h.block p.block (World.block_lt_of_cell? _ _ hv) hp)).trans hv

/-- A slice of bytes. -/
def Bytes (w : World) (a : Option Addr) (len B : Nat) : Prop :=
  len ≤ 140737488351232 ∧ (len = 0 ∨ ∃ b off, a = some ⟨b, off, none⟩ ∧ b < B ∧ ∀ i, i < len → ∃ x : Int, 0 ≤ x ∧ x ≤ 255 ∧ w.cell? ⟨b, off + i, none⟩ = some (.int .u8 x))
theorem Bytes.kept {X : Nat → Prop} {w w' : World} {a : Option Addr} {len B : Nat} (h : Bytes w a len B) (hk : Kept X w w') (hX : ∀ k, X k → B ≤ k) : Bytes w' a len B := by
  obtain ⟨hm, h⟩ := h
  refine ⟨hm, ?_⟩
  rcases h with h | ⟨b, off, ha, hb, h⟩
  · exact Or.inl h
  · refine Or.inr ⟨b, off, ha, hb, fun i hi => ?_⟩
    obtain ⟨x, h0, h1, hc⟩ := h i hi
    exact ⟨x, h0, h1, hk.cell hc (fun hx => by have := hX _ hx; simp at this; omega)⟩

/-- The source of numbers (a block of three cells: the code, the place, the seed). T: the struct's type. -/
def Src (T : TypeId) (w : World) (s : Nat) : Prop :=
  ∃ a len cap, ∃ at_ seed : Int, w.heap[s]? = some (.cells #[.slice a len cap, .int .i64 at_, .int .i64 seed] T (0, 0)) ∧ 0 ≤ at_ ∧ at_ ≤ len ∧ 0 ≤ seed ∧ seed < 2147483647 ∧ Bytes w a len s
theorem Src.lt {T : TypeId} {w : World} {s : Nat} (h : Src T w s) : s < w.heap.size := by
  obtain ⟨a, len, cap, at_, seed, h, _⟩ := h
  rcases Nat.lt_or_ge s w.heap.size with h1 | h1
  · exact h1
  · simp [Array.getElem?_eq_none h1] at h
theorem Src.kept {T : TypeId} {X : Nat → Prop} {w w' : World} {s : Nat} (h : Src T w s) (hk : Kept X w w') (hX : ∀ k, X k → s < k) : Src T w' s := by
  have hlt := h.lt
  obtain ⟨a, len, cap, at_, seed, h1, h2, h3, h4, h5, h6⟩ := h
  refine ⟨a, len, cap, at_, seed, ?_, h2, h3, h4, h5, h6.kept hk (fun k hx => Nat.le_of_lt (hX k hx))⟩
  rw [hk.block s hlt (fun hx => by have := hX _ hx; omega)]
  exact h1
theorem three_cells {w : World} {s : Nat} {x y z : Value} {T : TypeId} (h : w.heap[s]? = some (.cells #[x, y, z] T (0, 0))) :
    w.cell? ⟨s, 0, none⟩ = some x ∧ w.cell? ⟨s, 1, none⟩ = some y ∧ w.cell? ⟨s, 2, none⟩ = some z ∧ (∀ o, w.frozen? ⟨s, o, none⟩ = false) := by
  refine ⟨by simp [World.cell?, h], by simp [World.cell?, h], by simp [World.cell?, h], fun o => by simp [World.frozen?, h]⟩
theorem heap_setCell_same {w : World} {s o : Nat} {cs : Array Value} {T : TypeId} {f : Nat × Nat} (h : w.heap[s]? = some (.cells cs T f)) (u : Value) :
    (w.setCell ⟨s, o, none⟩ u).heap[s]? = some (.cells (cs.setIfInBounds o u) T f) := by
  simp [World.setCell, Array.getElem?_modify, h]

theorem Src.alloc {T : TypeId} {w : World} {s : Nat} (h : Src T w s) (o : Obj) : Src T (w.alloc o) s := h.kept ((Kept.refl (fun _ => False) w).alloc o) (fun _ e => e.elim)
theorem Src.drew {T : TypeId} {w : World} {s : Nat} (h : Src T w s) : Src T w.drew s := h.kept ((Kept.refl (fun _ => False) w).drew) (fun _ e => e.elim)
/-- A literal row of integers, read at an index. -/
theorem lits_at (w w' : World) (X : Nat → Prop) (zs : List Int) (T : TypeId) (q lo hi : Int) (q0 : 0 ≤ q) (hq : q < zs.length) (hb : ∀ z ∈ zs, lo ≤ z ∧ z ≤ hi)
    (hk : Kept X (w.alloc (.cells (zs.map (Value.int .i64)).toArray T)) w') (hX : ¬ X w.heap.size) :
    ∃ x : Int, w'.cell? ⟨w.heap.size, q.toNat, none⟩ = some (.int .i64 x) ∧ lo ≤ x ∧ x ≤ hi := by
  have hi : q.toNat < zs.length := by omega
  refine ⟨zs[q.toNat], hk.cell (p := ⟨w.heap.size, q.toNat, none⟩) ?_ hX, hb _ (List.getElem_mem hi)⟩
  rw [World.cell?_alloc_new]
  simp [hi]

theorem Kept.undrew {X : Nat → Prop} {a b : World} (h : Kept X a.drew b) : Kept X a b := ⟨h.os, h.tape, h.output, h.size, h.block⟩

/-- What the frame tells of a slice of integers that came in. -/
def IsRow (k : IntKind) (w : World) (a : Option Addr) (len cap : Nat) (zs : List Int) : Prop :=
  (a = none ∧ len = 0 ∧ cap = 0 ∧ zs = []) ∨
  ∃ x, a = some x ∧ len ≤ cap ∧ cap ≤ maxLen ∧ zs.length = cap ∧ (∀ i, i < zs.length → w.cell? (x.add i) = some (.int k (zs.getD i 0))) ∧ ∀ n ∈ zs, (Lit.int k n).wf = true

theorem spot_none {w : World} {x : Addr} {v : Value} (h : w.cell? x = some v) : x.spot = none := by
  unfold World.cell? at h
  split at h
  · split at h
    · cases h
    · simpa using ‹¬ x.spot.isSome = true›
  · cases h

theorem add_eq {x : Addr} (h : x.spot = none) (i : Nat) : x.add i = ⟨x.block, x.off + i, none⟩ := by
  unfold Addr.add
  split
  · subst_vars; cases x; simp_all
  · rfl

theorem IsRow.cells {k : IntKind} {w : World} {a : Option Addr} {len cap : Nat} {zs : List Int} (h : IsRow k w a len cap zs) (hlen : 0 < len) :
    ∃ b off, a = some ⟨b, off, none⟩ ∧ b < w.heap.size ∧ len ≤ zs.length ∧ (∀ i (hi : i < zs.length), w.cell? ⟨b, off + i, none⟩ = some (.int k zs[i]) ∧ (Lit.int k zs[i]).wf = true) := by
  rcases h with ⟨_, h, _⟩ | ⟨x, rfl, h1, h2, h3, h4, h5⟩
  · omega
  · have h0 := h4 0 (by omega)
    have hs : x.spot = none := spot_none (x := x) h0
    refine ⟨x.block, x.off, ?_, World.block_lt_of_cell? (a := x) w h0, by omega, fun i hi => ⟨?_, h5 _ (List.getElem_mem hi)⟩⟩
    · cases x; simp_all
    · rw [← add_eq hs, h4 i hi]; simp [List.getD, hi]

theorem IsRow.bytes {w : World} {a : Option Addr} {len cap : Nat} {zs : List Int} (h : IsRow .u8 w a len cap zs) (hlen : len ≤ 140737488351232) : Bytes w a len w.heap.size := by
  refine ⟨hlen, ?_⟩
  rcases Nat.eq_zero_or_pos len with h0 | h0
  · exact Or.inl h0
  · obtain ⟨b, off, ha, hb, hl, hc⟩ := h.cells h0
    refine Or.inr ⟨b, off, ha, hb, fun i hi => ?_⟩
    have := bounds_u8 (hc i (by omega)).2
    exact ⟨zs[i]'(by omega), this.1, this.2, (hc i (by omega)).1⟩

/-- The slice value v reads in w as the integers zs; its block is one of P; it may be written. -/
def Slc (P : Nat → Prop) (w : World) (v : Value) (zs : List Int) : Prop :=
  zs.length ≤ 140737488351232 ∧ ∃ a cap, v = .slice a zs.length cap ∧ (zs = [] ∨ ∃ b off, a = some ⟨b, off, none⟩ ∧ P b ∧ (∀ o, w.frozen? ⟨b, o, none⟩ = false) ∧ ∀ i (h : i < zs.length), w.cell? ⟨b, off + i, none⟩ = some (.int .i64 zs[i]))
theorem Slc.ints {P : Nat → Prop} {w : World} {v : Value} {zs : List Int} (h : Slc P w v zs) : Ints .i64 w v zs := by
  obtain ⟨hm, a, cap, hv, h⟩ := h
  refine ⟨hm, a, cap, hv, ?_⟩
  rcases h with h | ⟨b, off, ha, _, _, h⟩
  · exact Or.inl h
  · exact Or.inr ⟨b, off, ha, h⟩
theorem Slc.kept {P X : Nat → Prop} {w w' : World} {v : Value} {zs : List Int} (h : Slc P w v zs) (hk : Kept X w w') (hX : ∀ b, b < w.heap.size → P b → ¬ X b) : Slc P w' v zs := by
  obtain ⟨hm, a, cap, hv, h⟩ := h
  refine ⟨hm, a, cap, hv, ?_⟩
  rcases h with h | ⟨b, off, ha, hp, hf, h⟩
  · exact Or.inl h
  · rcases Nat.eq_zero_or_pos zs.length with h0 | h0
    · exact Or.inl (List.eq_nil_of_length_eq_zero h0)
    · have hlt : b < w.heap.size := World.block_lt_of_cell? (a := ⟨b, off + 0, none⟩) w (h 0 h0)
      refine Or.inr ⟨b, off, ha, hp, fun o => ?_, fun i hi => hk.cell (h i hi) (hX b hlt hp)⟩
      rw [World.frozen?_of_block (w := w) (a := ⟨b, o, none⟩) (hk.block b hlt (hX b hlt hp))]; exact hf o
theorem Slc.below {P : Nat → Prop} {w w' : World} {v : Value} {zs : List Int} (h : Slc P w v zs) (hb : Below w.heap.size w w') : Slc P w' v zs :=
  h.kept (Kept.of_below (X := fun _ => False) hb) (fun _ _ _ e => e)
theorem Slc.mono {P Q : Nat → Prop} {w : World} {v : Value} {zs : List Int} (h : Slc P w v zs) (hq : ∀ b, b < w.heap.size → P b → Q b) : Slc Q w v zs := by
  obtain ⟨hm, a, cap, hv, h⟩ := h
  refine ⟨hm, a, cap, hv, ?_⟩
  rcases h with h | ⟨b, off, ha, hp, hf, h⟩
  · exact Or.inl h
  · rcases Nat.eq_zero_or_pos zs.length with h0 | h0
    · exact Or.inl (List.eq_nil_of_length_eq_zero h0)
    · have hlt : b < w.heap.size := World.block_lt_of_cell? (a := ⟨b, off + 0, none⟩) w (h 0 h0)
      exact Or.inr ⟨b, off, ha, hq b hlt hp, hf, h⟩
theorem Slc.nil (P : Nat → Prop) (w : World) : Slc P w (.slice none 0 0) [] := ⟨by simp, none, 0, rfl, Or.inl rfl⟩
theorem Ints.nil (k : IntKind) (w : World) : Ints k w (.slice none 0 0) [] := ⟨by simp, none, 0, rfl, Or.inl rfl⟩
theorem Slc.len {P : Nat → Prop} {w : World} {a : Option Addr} {n cap : Nat} {zs : List Int} (h : Slc P w (.slice a n cap) zs) : n = zs.length := by
  obtain ⟨_, a', cap', hv, _⟩ := h
  simp at hv; exact hv.2.1

/-- A whole block of integers. -/
def IntBlk (T : TypeId) (w : World) (b : Nat) (zs : List Int) : Prop := w.heap[b]? = some (.cells (zs.map (Value.int .i64)).toArray T (0, 0))
theorem IntBlk.cell {T : TypeId} {w : World} {b : Nat} {zs : List Int} (h : IntBlk T w b zs) (i : Nat) (hi : i < zs.length) : w.cell? ⟨b, i, none⟩ = some (.int .i64 zs[i]) := by
  unfold IntBlk at h; simp [World.cell?, h, hi]
theorem IntBlk.frozen {T : TypeId} {w : World} {b : Nat} {zs : List Int} (h : IntBlk T w b zs) (o : Nat) : w.frozen? ⟨b, o, none⟩ = false := by
  unfold IntBlk at h; simp [World.frozen?, h]
theorem IntBlk.lt {T : TypeId} {w : World} {b : Nat} {zs : List Int} (h : IntBlk T w b zs) : b < w.heap.size := by
  unfold IntBlk at h
  rcases Nat.lt_or_ge b w.heap.size with h1 | h1
  · exact h1
  · simp [Array.getElem?_eq_none h1] at h
theorem IntBlk.set {T : TypeId} {w : World} {b : Nat} {zs : List Int} (h : IntBlk T w b zs) (i : Nat) (x : Int) : IntBlk T (w.setCell ⟨b, i, none⟩ (.int .i64 x)) b (zs.set i x) := by
  unfold IntBlk
  rw [heap_setCell_same (o := i) h (.int .i64 x)]
  simp [List.map_set]
theorem IntBlk.other {T : TypeId} {w : World} {b : Nat} {zs : List Int} (h : IntBlk T w b zs) {p : Addr} (hp : b ≠ p.block) (u : Value) : IntBlk T (w.setCell p u) b zs := by
  unfold IntBlk; rw [Below.heap_setCell _ _ _ _ hp]; exact h
theorem IntBlk.kept {T : TypeId} {X : Nat → Prop} {w w' : World} {b : Nat} {zs : List Int} (h : IntBlk T w b zs) (hk : Kept X w w') (hx : ¬ X b) : IntBlk T w' b zs := by
  unfold IntBlk; rw [hk.block b h.lt hx]; exact h
theorem IntBlk.drewN {T : TypeId} {w : World} {b : Nat} {zs : List Int} (h : IntBlk T w b zs) (n : Nat) : IntBlk T (w.drewN n) b zs := h
theorem IntBlk.slc {T : TypeId} {P : Nat → Prop} {w : World} {b cap : Nat} {zs : List Int} (h : IntBlk T w b zs) (hp : P b) (hm : zs.length ≤ 140737488351232) : Slc P w (.slice (some ⟨b, 0, none⟩) zs.length cap) zs :=
  ⟨hm, _, cap, rfl, Or.inr ⟨b, 0, rfl, hp, h.frozen, fun i hi => by rw [Nat.zero_add]; exact h.cell i hi⟩⟩
theorem IntBlk.made (T : TypeId) (w : World) (n : Nat) : IntBlk T (w.alloc (.cells (madeCells #[.int .i64 0] n) T)) w.heap.size (List.replicate n 0) := by
  unfold IntBlk
  rw [heap_alloc_new]
  congr 2
  apply Array.toList_inj.1
  rw [toList_madeCells_one]; simp

theorem Slc.at {P : Nat → Prop} {w : World} {a : Option Addr} {n cap : Nat} {zs : List Int} (h : Slc P w (.slice a n cap) zs) (h0 : 0 < zs.length) :
    ∃ b off, a = some ⟨b, off, none⟩ ∧ P b ∧ b < w.heap.size ∧ (∀ o, w.frozen? ⟨b, o, none⟩ = false) ∧ ∀ i (h : i < zs.length), w.cell? ⟨b, off + i, none⟩ = some (.int .i64 zs[i]) := by
  obtain ⟨hm, a', cap', hv, h⟩ := h
  simp only [Value.slice.injEq] at hv
  obtain ⟨rfl, _, rfl⟩ := hv
  rcases h with h | ⟨b, off, ha, hp, hf, h⟩
  · simp [h] at h0
  · exact ⟨b, off, ha, hp, World.block_lt_of_cell? (a := ⟨b, off + 0, none⟩) w (h 0 h0), hf, h⟩
theorem Ints.at {k : IntKind} {w : World} {a : Option Addr} {n cap : Nat} {zs : List Int} (h : Ints k w (.slice a n cap) zs) (h0 : 0 < zs.length) :
    ∃ b off, a = some ⟨b, off, none⟩ ∧ b < w.heap.size ∧ ∀ i (h : i < zs.length), w.cell? ⟨b, off + i, none⟩ = some (.int k zs[i]) := by
  obtain ⟨hm, a', cap', hv, h⟩ := h
  simp only [Value.slice.injEq] at hv
  obtain ⟨rfl, _, rfl⟩ := hv
  rcases h with h | ⟨b, off, ha, h⟩
  · simp [h] at h0
  · exact ⟨b, off, ha, World.block_lt_of_cell? (a := ⟨b, off + 0, none⟩) w (h 0 h0), h⟩
theorem Slc.set {P : Nat → Prop} {w : World} {b off n cap : Nat} {zs : List Int} (h : Slc P w (.slice (some ⟨b, off, none⟩) n cap) zs) (i : Nat) (hi : i < zs.length) (x : Int) :
    Slc P (w.setCell ⟨b, off + i, none⟩ (.int .i64 x)) (.slice (some ⟨b, off, none⟩) n cap) (zs.set i x) := by
  obtain ⟨b', off', ha, hp, hlt, hf, hc⟩ := h.at (by omega)
  simp only [Option.some.injEq, Addr.mk.injEq, and_true] at ha
  obtain ⟨rfl, rfl⟩ := ha
  have hn := h.len
  refine ⟨by simpa using h.1, _, cap, by simp [hn], Or.inr ⟨b, off, rfl, hp, fun o => by simpa using hf o, fun j hj => ?_⟩⟩
  have hj' : j < zs.length := by simpa using hj
  by_cases e : i = j
  · subst e
    rw [World.cell?_setCell_same _ _ _ (hc i hi)]; simp
  · rw [World.cell?_setCell_other (a := ⟨b, off + i, none⟩) (b := ⟨b, off + j, none⟩) (h := fun e2 => e (by have := congrArg Addr.off e2; simp only at this; omega)), hc j hj']
    simp [List.getElem_set_ne e]

theorem IsRow.ints {k : IntKind} {w : World} {a : Option Addr} {len cap : Nat} {zs : List Int} (h : IsRow k w a len cap zs) (hlen : len ≤ 140737488351232) :
    Ints k w (.slice a len cap) (zs.take len) ∧ (zs.take len).length = len ∧ ∀ x ∈ zs.take len, (Lit.int k x).wf = true := by
  rcases Nat.eq_zero_or_pos len with h0 | h0
  · subst h0
    exact ⟨⟨by simp, a, cap, by simp, Or.inl (by simp)⟩, by simp, by simp⟩
  · obtain ⟨b, off, ha, hb, hl, hc⟩ := h.cells h0
    have hlen2 : (zs.take len).length = len := by simp; omega
    refine ⟨⟨by omega, a, cap, by rw [hlen2], Or.inr ⟨b, off, ha, fun i hi => ?_⟩⟩, hlen2, fun x hx => ?_⟩
    · rw [(hc i (by omega)).1]; simp
    · obtain ⟨i, hi, rfl⟩ := List.getElem_of_mem (List.mem_of_mem_take hx)
      exact (hc i hi).2
theorem Kept.toBelow {X : Nat → Prop} {B : Nat} {a b : World} (h : Kept X a b) (hB : B ≤ a.heap.size) (hX : ∀ k, X k → B ≤ k) : Below B a b := h.below hB hX

/-- A block whose first cells are l. -/
def Box (w : World) (b : Nat) (l : List Value) : Prop := b < w.heap.size ∧ ∀ j (h : j < l.length), w.cell? ⟨b, j, none⟩ = some l[j]
theorem Box.kept {X : Nat → Prop} {w w' : World} {b : Nat} {l : List Value} (h : Box w b l) (hk : Kept X w w') (hX : ¬ X b) : Box w' b l :=
  ⟨Nat.lt_of_lt_of_le h.1 hk.size, fun j hj => hk.cell (h.2 j hj) hX⟩
theorem Box.below {w w' : World} {b : Nat} {l : List Value} (h : Box w b l) (hb : Below w.heap.size w w') : Box w' b l := h.kept (Kept.of_below (X := fun _ => False) hb) (fun e => e)
theorem Box.new (w : World) (c : Array Value) (T : TypeId) : Box (w.alloc (.cells c T)) w.heap.size c.toList :=
  ⟨by simp, fun j hj => by rw [World.cell?_alloc_new]; simp at hj; simp [hj]⟩
theorem Box.two {w : World} {b : Nat} {x y : Value} (h : Box w b [x, y]) : w.cell? ⟨b, 0, none⟩ = some x ∧ w.cell? ⟨b, 1, none⟩ = some y := ⟨h.2 0 (by simp), h.2 1 (by simp)⟩
theorem Box.three {w : World} {b : Nat} {x y z : Value} (h : Box w b [x, y, z]) : w.cell? ⟨b, 0, none⟩ = some x ∧ w.cell? ⟨b, 1, none⟩ = some y ∧ w.cell? ⟨b, 2, none⟩ = some z := ⟨h.2 0 (by simp), h.2 1 (by simp), h.2 2 (by simp)⟩
theorem Box.five {w : World} {b : Nat} {x y z u v : Value} (h : Box w b [x, y, z, u, v]) : w.cell? ⟨b, 0, none⟩ = some x ∧ w.cell? ⟨b, 1, none⟩ = some y ∧ w.cell? ⟨b, 2, none⟩ = some z ∧ w.cell? ⟨b, 3, none⟩ = some u ∧ w.cell? ⟨b, 4, none⟩ = some v := ⟨h.2 0 (by simp), h.2 1 (by simp), h.2 2 (by simp), h.2 3 (by simp), h.2 4 (by simp)⟩
theorem below_new (w : World) (o : Obj) : Below w.heap.size w (w.alloc o) := (Below.refl _ _).alloc (Nat.le_refl _) o

theorem bcell {W w1 : World} (hb : Below W.heap.size W w1) : (∀ b o, b < W.heap.size → w1.cell? ⟨b, o, none⟩ = W.cell? ⟨b, o, none⟩) ∧ (∀ b o, b < W.heap.size → w1.frozen? ⟨b, o, none⟩ = W.frozen? ⟨b, o, none⟩) :=
  ⟨fun b o h => hb.cell (p := ⟨b, o, none⟩) h, fun b o h => hb.frozen (p := ⟨b, o, none⟩) h⟩

end Go.Proofs.YtdbgncinaacheaaGreatDoor
