/- Slices of integers that the call itself makes and appends to. -/
import Derived.Test.YtdbgncinaacheaaGreatDoorEx
namespace Go.Proofs.YtdbgncinaacheaaGreatDoor
open Go.RowKit

/-- The slice v is the call's own (blocks from B on) and holds zs. -/
def OwnI (T : TypeId) (B : Nat) (w : World) (v : Value) (zs : List Int) : Prop := w.ownsRow B T 1 v zs.length (zs.map (Value.int .i64))

theorem OwnI.nil (T : TypeId) (B : Nat) (w : World) : OwnI T B w (.slice none 0 0) [] := World.ownsRow_nil w B T 1
theorem OwnI.made (T : TypeId) (B : Nat) (w : World) (hB : B ≤ w.heap.size) : OwnI T B (w.alloc (.cells #[] T)) (.slice (some ⟨w.heap.size, 0, none⟩) 0 0) [] :=
  World.ownsRow_lit w #[] 0 hB (by simp [maxLen]) (by simp)
theorem OwnI.kept {T : TypeId} {B : Nat} {X : Nat → Prop} {w w' : World} {v : Value} {zs : List Int} (h : OwnI T B w v zs) (hk : Kept X w w') (hX : ∀ b, v.ownBlock = some b → ¬ X b) : OwnI T B w' v zs := by
  obtain ⟨h1, h2⟩ := h
  refine ⟨h1, ?_⟩
  rcases h2 with h2 | ⟨g, cap, cur, hv, hb, hh, r⟩
  · exact Or.inl h2
  · refine Or.inr ⟨g, cap, cur, hv, hb, ?_, r⟩
    have hlt : g < w.heap.size := by
      rcases Nat.lt_or_ge g w.heap.size with h1 | h1
      · exact h1
      · simp [Array.getElem?_eq_none h1] at hh
    rw [hk.block g hlt (hX g (by rw [hv]; rfl))]; exact hh
theorem OwnI.below {T : TypeId} {B : Nat} {w w' : World} {v : Value} {zs : List Int} (h : OwnI T B w v zs) (hb : Below w.heap.size w w') : OwnI T B w' v zs :=
  h.kept (Kept.of_below (X := fun _ => False) hb) (fun _ _ e => e)
theorem OwnI.alloc {T : TypeId} {B : Nat} {w : World} {v : Value} {zs : List Int} (h : OwnI T B w v zs) (o : Obj) : OwnI T B (w.alloc o) v zs := World.ownsRow.alloc h o
theorem OwnI.lt {T : TypeId} {B : Nat} {w : World} {v : Value} {zs : List Int} (h : OwnI T B w v zs) : ∀ k, v.ownBlock = some k → B ≤ k ∧ k < w.heap.size := World.ownsRow.lt h
/-- The shape: nil, or a row at the head of a block. -/
theorem OwnI.shape {T : TypeId} {B : Nat} {w : World} {v : Value} {zs : List Int} (h : OwnI T B w v zs) :
    ∃ a cap, v = .slice a zs.length cap ∧ (zs = [] ∨ ∃ g, a = some ⟨g, 0, none⟩ ∧ B ≤ g ∧ g < w.heap.size ∧ (∀ o, w.frozen? ⟨g, o, none⟩ = false) ∧ ∀ i (hi : i < zs.length), w.cell? ⟨g, i, none⟩ = some (.int .i64 zs[i])) := by
  rcases h.2 with ⟨rfl, h0⟩ | ⟨g, cap, cur, rfl, hb, hh, _⟩
  · have : zs = [] := List.eq_nil_of_length_eq_zero h0
    subst this
    exact ⟨none, 0, rfl, Or.inl rfl⟩
  · refine ⟨_, cap, rfl, Or.inr ⟨g, rfl, hb, (World.ownsRow.lt h g rfl).2, fun o => World.ownsRow.frozenAt h o, fun i hi => ?_⟩⟩
    rw [World.ownsRow.cellAt h i (by omega)]; simp [hi]
theorem OwnI.slc {T : TypeId} {B : Nat} {w : World} {v : Value} {zs : List Int} (h : OwnI T B w v zs) (hm : zs.length ≤ 140737488351232) : Slc (fun b => B ≤ b ∧ b < w.heap.size) w v zs := by
  obtain ⟨a, cap, hv, h⟩ := h.shape
  refine ⟨hm, a, cap, hv, ?_⟩
  rcases h with h | ⟨g, ha, hb, hl, hf, hc⟩
  · exact Or.inl h
  · exact Or.inr ⟨g, 0, ha, ⟨hb, hl⟩, hf, fun i hi => by rw [Nat.zero_add]; exact hc i hi⟩
theorem OwnI.set {T : TypeId} {B : Nat} {w : World} {g n cap : Nat} {zs : List Int} (h : OwnI T B w (.slice (some ⟨g, 0, none⟩) n cap) zs) (i : Nat) (x : Int) :
    OwnI T B (w.setCell ⟨g, i, none⟩ (.int .i64 x)) (.slice (some ⟨g, 0, none⟩) n cap) (zs.set i x) := by
  have hn : n = zs.length := by
    obtain ⟨a, cap', hv, _⟩ := h.shape
    simp at hv; exact hv.2.1
  subst hn
  have := (World.ownsRow.stored h i (.int .i64 x)).1
  unfold OwnI
  rw [List.length_set, List.map_set]; exact this
theorem grown_kept {w w' : World} {v : Value} (h : w.grownBy w' v.ownBlock) : Kept (fun b => v.ownBlock = some b) w w' :=
  ⟨h.os, h.tape, h.output, h.size, fun k hk hx => h.block k hk (fun e => hx e.symm)⟩

/-- An append of m elements (m > 0) to a slice of the call's own: the new slice lies in the old block, or in a new one. -/
theorem run_append_own2 {P : Program} (w : World) (base : Nat) (t ty e : TypeId) (i : TypeInfo) (z : Value) (size bytes : Nat) (ht : P.underlying t = some (.slice e)) (hi : P.info? e = some i) (hz : i.zero = some z)
    (hsize : i.size = size) (hby : i.bytes = bytes) (hzs : z.cells.size = size) (hsz : 0 < size)
    (v : Value) (n : Nat) (xs : List Value) (hown : w.ownsRow base e size v n xs)
    (a : Addr) (m c : Nat) (news : List Value) (hl : news.length = m * size) (hnews : ∀ j u, news[j]? = some u → w.cell? (a.add j) = some u) (h1 : ∀ u ∈ news, u.oneCell' = true)
    (hm : 0 < m) (hlen : (n + m) * bytes ≤ 140737488355328) (h63 : n + m ≤ 1000000000000000) (hbase : base ≤ w.heap.size) :
    ∃ v' w', (Builtin.append_ #[t, t] ty #[v, .slice (some a) m c]).run P w = .ok v' w' ∧ w'.ownsRow base e size v' (n + m) (xs ++ news) ∧ w.grownBy w' v.ownBlock ∧
      (v'.ownBlock = v.ownBlock ∨ v'.ownBlock = some w.heap.size) := by
  obtain ⟨v', w', hr, h2, h3, _⟩ := run_append_own (P := P) w base t ty e i z size bytes ht hi hz hsize hby hzs hsz v n xs hown a m c news hl hnews h1 (by unfold maxLen; omega) hlen hbase
  refine ⟨v', w', hr, h2, h3, ?_⟩
  subst hsize
  subst hby
  rcases hown.2 with ⟨rfl, rfl⟩ | ⟨g, cap, cur, rfl, hbg, hg, hnc, hcm, hcs, htake⟩
  · right
    have h := run_append_nil (P := P) w t ty e i z ht hi hz a m c news hl hnews hm (by omega) (by rw [Nat.zero_add] at hlen; omega)
    rw [hr] at h
    injection h with h1 h2
    rw [h1]; rfl
  · by_cases hroom : n + m ≤ cap
    · left
      have hfit : n * i.size + news.length ≤ cur.size := by rw [hl, hcs, ← Nat.add_mul]; exact Nat.mul_le_mul_right _ hroom
      have h := run_append_room (P := P) w t ty e i ht hi g n cap cur hg a m c news hl hnews h1 hroom hfit
      rw [hr] at h
      injection h with h1 h2
      rw [h1]; rfl
    · right
      have h := run_append_grow (P := P) w t ty e i z ht hi hz ⟨g, 0, none⟩ n cap xs hown.1 (hown.cells (g := g) rfl) a m c news hl hnews (by omega) (by omega) (growslice_fits (by omega) hlen)
      rw [hr] at h
      injection h with h1 h2
      rw [h1]; rfl

theorem wpList_append2 {P : Program} {w : World} {ops : Array Oper} {rest : List Oper} {o : Oper} {a : Act} {Q : Exit → Act → World → Prop} (hgd : o.guard = none) (s x : Operand) (t : TypeId)
    (ho : o.op = .call { callee := .builtin .append, args := #[s, x], argTypes := #[t, t] })
    (base : Nat) (e : TypeId) (i : TypeInfo) (z : Value) (size bytes : Nat) (ht : P.underlying t = some (.slice e)) (hi : P.info? e = some i) (hz : i.zero = some z)
    (hsize : i.size = size) (hby : i.bytes = bytes) (hzs : z.cells.size = size) (hsz : 0 < size)
    (v : Value) (n : Nat) (xs : List Value) (hs : a.eval s = v) (hown : w.ownsRow base e size v n xs)
    (ad : Addr) (m c : Nat) (news : List Value) (hx : a.eval x = .slice (some ad) m c) (hl : news.length = m * size) (hnews : ∀ j u, news[j]? = some u → w.cell? (ad.add j) = some u) (h1 : ∀ u ∈ news, u.oneCell' = true)
    (hm : 0 < m) (hlen : (n + m) * bytes ≤ 140737488355328) (h63 : n + m ≤ 1000000000000000) (hbase : base ≤ w.heap.size)
    (h : ∀ v' w', w'.ownsRow base e size v' (n + m) (xs ++ news) → w.grownBy w' v.ownBlock → (v'.ownBlock = v.ownBlock ∨ v'.ownBlock = some w.heap.size) → wpList P ops Q rest (a.put o.dst v') w') : wpList P ops Q (o :: rest) a w := by
  refine wpList_plain hgd fun K hK => ?_
  obtain ⟨v', w', hr, h2, h3, h4⟩ := run_append_own2 (P := P) w base t o.type e i z size bytes ht hi hz hsize hby hzs hsz v n xs hown ad m c news hl hnews h1 hm hlen h63 hbase
  unfold Oper.wp execOp
  simp only [ho, resolve, invoke, builtin, Sem.run_bind, Sem.run_pure, Result.andThen_ok, List.map_toArray, List.map_cons, List.map_nil, hs, hx, hr]
  exact hK _ _ (h v' w' h2 h3 h4)

theorem wpList_app1 {ops : Array Oper} {rest : List Oper} {o : Oper} {a : Act} {Q : Exit → Act → World → Prop} {w : World} (hgd : o.guard = none) (s x : Operand)
    (ho : o.op = .call { callee := .builtin .append, args := #[s, x], argTypes := #[43, 43] })
    (B : Nat) (v : Value) (zs : List Int) (hs : a.eval s = v) (hown : OwnI 2 B w v zs) (blk : Nat) (n : Int) (hx : a.eval x = .slice (some ⟨blk, 0, none⟩) 1 1)
    (hc : w.cell? ⟨blk, 0, none⟩ = some (.int .i64 n)) (hlen : zs.length ≤ 1000000000000) (hB : B ≤ w.heap.size)
    (h : ∀ v' w', OwnI 2 B w' v' (zs ++ [n]) → Kept (fun b => v.ownBlock = some b) w w' → (v'.ownBlock = v.ownBlock ∨ v'.ownBlock = some w.heap.size) → wpList Tryz.prog ops Q rest (a.put o.dst v') w') : wpList Tryz.prog ops Q (o :: rest) a w := by
  obtain ⟨i0, hi, hz0, hz1, hz2⟩ := info_parts info64
  refine wpList_append2 hgd s x 43 ho B 2 i0 (.int .i64 0) 1 8 Tryz.underlying43 hi hz0 hz1 hz2 rfl (by decide) v zs.length (zs.map (Value.int .i64)) hs hown ⟨blk, 0, none⟩ 1 1 [.int .i64 n] hx rfl ?_ ?_ (by omega) (by omega) (by omega) hB ?_
  · intro j u hj
    cases j with
    | zero => simp at hj; subst hj; exact hc
    | succ j => simp at hj
  · intro u hu; simp at hu; subst hu; rfl
  · intro v' w' h1 h2 h3
    refine h v' w' ?_ (grown_kept h2) h3
    unfold OwnI
    rw [List.length_append, List.map_append]; exact h1

end Go.Proofs.YtdbgncinaacheaaGreatDoor
