/- slices.Clone of nodes and of pipes; cloneNetwork, l02Own. -/
import Derived.Test.YtdapdaadglaoiaaRows2
import Derived.Test.YtdapdaadglaoiaaIsNetD
import Derived.Deep.RegionHeld3
import Derived.Lib.SliceRun
namespace Go.Proofs.Ytdapdaadglaoiaa
open Go.RowKit

/-- A network in memory of the call's own: nodes and pipes apart, in blocks B .. H - 1. -/
def NetApart (B H : Nat) (w : World) (nv pv : Value) (n : Net) : Prop :=
  ∃ X Y : Nat → Prop, (∀ b, X b → B ≤ b ∧ b < H) ∧ (∀ b, Y b → B ≤ b ∧ b < H) ∧ (∀ b, X b → ¬ Y b) ∧ RowsOwn encN 3 X w nv n.nodes ∧ NamesOk n.nodes ∧ RowsOwn encP 5 Y w pv n.pipes
theorem NetSep.apart {lo hi : Nat} {w : World} {nv pv : Value} {n : Net} (h : NetSep lo hi w nv pv n) : NetApart lo hi w nv pv n := by
  obtain ⟨m, h1, h2, h3, h4, h5⟩ := h
  exact ⟨_, _, fun b hb => ⟨hb.1, by omega⟩, fun b hb => ⟨by omega, hb.2⟩, fun b hb hb' => by omega, h3, h4, h5⟩
theorem NetApart.own {B H : Nat} {w : World} {nv pv : Value} {n : Net} (h : NetApart B H w nv pv n) : NetOwn (fun b => B ≤ b ∧ b < H) w nv pv n := by
  obtain ⟨X, Y, hX, hY, _, h3, h4, h5⟩ := h
  exact ⟨h3.mono (fun b _ hb => hX b hb), h4, h5.mono (fun b _ hb => hY b hb)⟩
theorem NetApart.at {B H : Nat} {w : World} {nv pv : Value} {n : Net} (h : NetApart B H w nv pv n) : NetAt w nv pv n := h.own.at
theorem NetApart.kept {B H : Nat} {Z : Nat → Prop} {w w' : World} {nv pv : Value} {n : Net} (h : NetApart B H w nv pv n) (hk : Kept Z w w') (hZ : ∀ b, B ≤ b → b < H → ¬ Z b) : NetApart B H w' nv pv n := by
  obtain ⟨X, Y, hX, hY, hd, h3, h4, h5⟩ := h
  exact ⟨X, Y, hX, hY, hd, h3.kept hk (fun b _ hb => hZ b (hX b hb).1 (hX b hb).2), h4, h5.kept hk (fun b _ hb => hZ b (hY b hb).1 (hY b hb).2)⟩
theorem NetApart.below {B H : Nat} {w w' : World} {nv pv : Value} {n : Net} (h : NetApart B H w nv pv n) (hb : Below w.heap.size w w') : NetApart B H w' nv pv n :=
  h.kept (Kept.of_below (X := fun _ => False) hb) (fun _ _ _ e => e)
theorem NetApart.widen {B H B' H' : Nat} {w : World} {nv pv : Value} {n : Net} (h : NetApart B H w nv pv n) (hB : B' ≤ B) (hH : H ≤ H') : NetApart B' H' w nv pv n := by
  obtain ⟨X, Y, hX, hY, hd, r⟩ := h
  exact ⟨X, Y, fun b hb => ⟨by have := hX b hb; omega, by have := hX b hb; omega⟩, fun b hb => ⟨by have := hY b hb; omega, by have := hY b hb; omega⟩, hd, r⟩

set_option maxHeartbeats 400000 in
set_option maxRecDepth 100000 in
theorem cloneN_any (v : Value) (xs : List Nd) (w : World) (h : RowsAt encN 3 w v xs) (hl : xs.length ≤ 2000000) :
    Calls Try.prog 171 #[v] w fun e w' => ∃ r, e = .returned r ∧ RowsOwn encN 3 (fun b => w.heap.size ≤ b ∧ b < w'.heap.size) w' r xs ∧ CapOk r ∧ Below w.heap.size w w' := by
  obtain ⟨a, cap, rfl⟩ := h.shape
  have hnil := fun W => Lib.run_eql_slice_nil (P := Try.prog) W 24 71 a xs.length cap 0 0 Try.underlying24
  have HR := hid h
  have hm := h.1
  clear h
  cases a with
  | none =>
    have hx : xs = [] := by
      obtain ⟨_, a', c', hv, h⟩ := HR.out
      simp only [Value.slice.injEq] at hv
      rcases h with h | ⟨_, _, h, _⟩
      · exact h
      · rw [h] at hv; exact absurd hv.1 (by simp)
    subst hx
    simp only [Option.isNone_none, List.length_nil] at hnil
    go_enter Try.func171, Try.ntmps171
    go_wp2_with fail
    go_ret
    exact ⟨_, rfl, RowsOwn.nil _ _ _ _, CapOk.mk (Nat.le_refl _), Below.refl _ _⟩
  | some ad =>
    simp only [Option.isNone_some] at hnil
    go_enter Try.func171, Try.ntmps171
    go_wp2_with (at_builtin; refine wpList_appN rfl (.tmp 5) (.tmp 6) rfl w.heap.size (.slice (some ⟨w.heap.size, 0, none⟩) 0 0) (.slice (some ad) xs.length cap) [] xs rfl rfl (OwnR.made _ _ _ _ _ (Nat.le_refl _)) (HR.out.below (below_new _ _)) ?c1 ?c2 ?_)
    case c1 => simp; omega
    case c2 => simp
    intro v1 w1 hv1 hk1 hb1
    have hkk : Below w.heap.size w w1 := (below_new w (.cells #[] 71)).trans (hk1.below (by simp) (fun b hb => by simp [Value.ownBlock] at hb; omega))
    have HV := hid (hv1.own lenN (by simpa using hm))
    clear hv1 hk1 hb1
    go_wp2_with fail
    go_ret
    exact ⟨_, rfl, HV.out.1, HV.out.2, hkk⟩

set_option maxHeartbeats 400000 in
set_option maxRecDepth 100000 in
theorem cloneP_any (v : Value) (xs : List Pp) (w : World) (h : RowsAt encP 5 w v xs) (hl : xs.length ≤ 2000000) :
    Calls Try.prog 172 #[v] w fun e w' => ∃ r, e = .returned r ∧ RowsOwn encP 5 (fun b => w.heap.size ≤ b ∧ b < w'.heap.size) w' r xs ∧ CapOk r ∧ Below w.heap.size w w' := by
  obtain ⟨a, cap, rfl⟩ := h.shape
  have hnil := fun W => Lib.run_eql_slice_nil (P := Try.prog) W 25 73 a xs.length cap 0 0 Try.underlying25
  have HR := hid h
  have hm := h.1
  clear h
  cases a with
  | none =>
    have hx : xs = [] := by
      obtain ⟨_, a', c', hv, h⟩ := HR.out
      simp only [Value.slice.injEq] at hv
      rcases h with h | ⟨_, _, h, _⟩
      · exact h
      · rw [h] at hv; exact absurd hv.1 (by simp)
    subst hx
    simp only [Option.isNone_none, List.length_nil] at hnil
    go_enter Try.func172, Try.ntmps172
    go_wp2_with fail
    go_ret
    exact ⟨_, rfl, RowsOwn.nil _ _ _ _, CapOk.mk (Nat.le_refl _), Below.refl _ _⟩
  | some ad =>
    simp only [Option.isNone_some] at hnil
    go_enter Try.func172, Try.ntmps172
    go_wp2_with (at_builtin; refine wpList_appP rfl (.tmp 5) (.tmp 6) rfl w.heap.size (.slice (some ⟨w.heap.size, 0, none⟩) 0 0) (.slice (some ad) xs.length cap) [] xs rfl rfl (OwnR.made _ _ _ _ _ (Nat.le_refl _)) (HR.out.below (below_new _ _)) ?c1 ?c2 ?_)
    case c1 => simp; omega
    case c2 => simp
    intro v1 w1 hv1 hk1 hb1
    have hkk : Below w.heap.size w w1 := (below_new w (.cells #[] 73)).trans (hk1.below (by simp) (fun b hb => by simp [Value.ownBlock] at hb; omega))
    have HV := hid (hv1.own lenP (by simpa using hm))
    clear hv1 hk1 hb1
    go_wp2_with fail
    go_ret
    exact ⟨_, rfl, HV.out.1, HV.out.2, hkk⟩

theorem cell_off2 {w : World} {b o b' o' : Nat} {u : Value} (h : b ≠ b' ∨ o ≠ o') : (w.setCell ⟨b, o, none⟩ u).cell? ⟨b', o', none⟩ = w.cell? ⟨b', o', none⟩ :=
  World.cell?_setCell_other w ⟨b, o, none⟩ ⟨b', o', none⟩ u (fun e => h.elim (fun h => h (congrArg Addr.block e)) (fun h => h (congrArg Addr.off e)))
/-- A new block's cells, in all later worlds. -/
theorem box2_below {w W : World} {x y : Value} {T : TypeId} (hb : Below (w.heap.size + 1) (w.alloc (.cells #[x, y] T)) W) :
    W.cell? ⟨w.heap.size, 0, none⟩ = some x ∧ W.cell? ⟨w.heap.size, 1, none⟩ = some y ∧ (∀ o, W.frozen? ⟨w.heap.size, o, none⟩ = false) := by
  have h0 := (Box.new w #[x, y] T).two
  have hlt : w.heap.size < w.heap.size + 1 := Nat.lt_succ_self _
  exact ⟨(hb.cell (p := ⟨w.heap.size, 0, none⟩) hlt).trans h0.1, (hb.cell (p := ⟨w.heap.size, 1, none⟩) hlt).trans h0.2, fun o => (hb.frozen (p := ⟨w.heap.size, o, none⟩) hlt).trans (by simp)⟩
theorem kept_two {w : World} (b : Nat) (x y : Value) : Kept (fun k => k = b) w ((w.setCell ⟨b, 0, none⟩ x).setCell ⟨b, 1, none⟩ y) :=
  ((Kept.refl (fun k => k = b) w).setCell (p := ⟨b, 0, none⟩) rfl x).setCell (p := ⟨b, 1, none⟩) rfl y

set_option maxHeartbeats 1000000 in
set_option maxRecDepth 100000 in
theorem cloneNetwork_any (nv pv : Value) (n : Net) (w : World) (h : NetAt w nv pv n) (hl1 : n.nodes.length ≤ 2000000) (hl2 : n.pipes.length ≤ 2000000) :
    Calls Try.prog 141 #[.agg #[nv, pv]] w fun e w' => ∃ nv' pv', e = .returned (.agg #[nv', pv']) ∧ NetApart w.heap.size w'.heap.size w' nv' pv' n ∧ (CapOk nv' ∧ CapOk pv') ∧ Below w.heap.size w w' := by
  obtain ⟨a0, k0, rfl⟩ := h.1.shape
  obtain ⟨a1, k1, rfl⟩ := h.2.2.shape
  obtain ⟨W0, hW0⟩ : ∃ W0, W0 = (w.alloc (.cells #[.slice a0 n.nodes.length k0, .slice a1 n.pipes.length k1] 27)).alloc (.cells #[.slice none 0 0, .slice none 0 0] 27) := ⟨_, rfl⟩
  have hWb : Below w.heap.size w W0 := by rw [hW0]; exact (below_new w _).alloc (by simp) _
  have hsz : W0.heap.size = w.heap.size + 1 + 1 := by rw [hW0]; simp
  have hcc : ∀ W, Below W0.heap.size W0 W → (W.cell? ⟨w.heap.size, 0, none⟩ = some (.slice a0 n.nodes.length k0) ∧ W.cell? ⟨w.heap.size, 1, none⟩ = some (.slice a1 n.pipes.length k1)) ∧ W.cell? ⟨w.heap.size + 1, 0, none⟩ = some (.slice none 0 0) ∧ W.cell? ⟨w.heap.size + 1, 1, none⟩ = some (.slice none 0 0) ∧ W.frozen? ⟨w.heap.size + 1, 0, none⟩ = false ∧ W.frozen? ⟨w.heap.size + 1, 1, none⟩ = false := by
    intro W hW
    rw [hsz] at hW
    have h1 : Below (w.heap.size + 1) (w.alloc (.cells #[.slice a0 n.nodes.length k0, .slice a1 n.pipes.length k1] 27)) W := by
      have hn := below_new (w.alloc (.cells #[.slice a0 n.nodes.length k0, .slice a1 n.pipes.length k1] 27)) (.cells #[.slice none 0 0, .slice none 0 0] 27)
      rw [World.size_alloc] at hn
      rw [hW0] at hW
      exact hn.trans (hW.mono (by omega))
    have e1 := box2_below h1
    rw [hW0] at hW
    have h2 := hW
    rw [← World.size_alloc w (.cells #[.slice a0 n.nodes.length k0, .slice a1 n.pipes.length k1] 27)] at h2
    have e2 := box2_below h2
    rw [World.size_alloc] at e2
    exact ⟨⟨e1.1, e1.2.1⟩, e2.1, e2.2.1, e2.2.2 0, e2.2.2 1⟩
  have HC := hid hcc
  have hN : Hid (∀ W, Below W0.heap.size W0 W → RowsAt encN 3 W (.slice a0 n.nodes.length k0) n.nodes) := fun W hW => (h.1.below hWb).below hW
  have hP : Hid (∀ W, Below W0.heap.size W0 W → RowsAt encP 5 W (.slice a1 n.pipes.length k1) n.pipes) := fun W hW => (h.2.2.below hWb).below hW
  have hok := hid h.2.1
  obtain ⟨⟨c0, c1⟩, c2, c3, f0, f1⟩ := hcc W0.drew (Below.refl _ _).drew
  have HW := hid hWb
  clear h hcc hWb
  have hd0 := hid ((Below.refl W0.heap.size W0).drew)
  go_enter Try.func141, Try.ntmps141
  go_wp2_with fail
  rw [← hW0]
  have HW0 := hid hW0
  clear hW0
  go_region_held3 (fun W => W.cell? ⟨w.heap.size, 0, none⟩ = some (.slice a0 n.nodes.length k0) ∧ W.cell? ⟨w.heap.size, 1, none⟩ = some (.slice a1 n.pipes.length k1))
    (first | exact ⟨c0, c1⟩ | exact C1 | exact C2 | exact ⟨(cell_off2 (by omega)).trans ((cell_off2 (by omega)).trans C2.1), (cell_off2 (by omega)).trans ((cell_off2 (by omega)).trans C2.2)⟩)
    (first
      | (go_at_call 172; refine (cloneP_any _ n.pipes _ (hP.out _ bN) hl2).mono ?_; rintro e w2 ⟨r2, rfl, oP, qP, b2⟩; have B2 := bN.trans (b2.mono bN.size); obtain ⟨C2, e2, e3, g0, g1⟩ := HC.out _ B2; obtain ⟨aP, kP, rfl⟩ := oP.at.shape; have oN2 := oN.below b2; have z2 := b2.size)
      | (go_at_call 171; refine (cloneN_any _ n.nodes _ (hN.out _ hd0.out) hl1).mono ?_; rintro e w1 ⟨r1, rfl, oN, qN, bN⟩; have bN := below_undrew bN; obtain ⟨C1, _, _, _, _⟩ := HC.out _ bN; obtain ⟨aN, kN, rfl⟩ := oN.at.shape; have z1 := bN.size))
  have hsd : W0.drew.heap.size = W0.heap.size := rfl
  have hkk := kept_two (w := w2) (w.heap.size + 1) (.slice aN n.nodes.length kN) (.slice aP n.pipes.length kP)
  have HO1 := hid oN2
  have HO2 := hid oP
  have HB := hid (HW.out.trans ((B2.mono HW.out.size).trans (hkk.below (by omega) (fun b hb => by omega))))
  clear oN oN2 oP C1 C2 bN b2 B2
  go_wp2_with fail
  refine bodyPost_ret (v := .agg #[.slice aN n.nodes.length kN, .slice aP n.pipes.length kP]) (by simp [results, Try.results141, go_sem, e2, e3]) rfl ⟨_, _, rfl, ?_, ⟨qN, qP⟩, HB.out⟩
  refine ⟨fun b => W0.heap.size ≤ b ∧ b < w1.heap.size, fun b => w1.heap.size ≤ b ∧ b < w2.heap.size, fun b hb => ⟨by omega, by simp only [World.size_setCell]; omega⟩, fun b hb => ⟨by omega, by simp only [World.size_setCell]; omega⟩, fun b hb hb' => by omega, ?_, hok.out, ?_⟩
  · exact HO1.out.kept hkk (fun b _ hb e => by subst e; have h1 := hb.1; simp only [hsd] at h1; omega)
  · exact HO2.out.kept hkk (fun b _ hb e => by subst e; have h1 := hb.1; omega)

theorem rows_of_kept {α : Type} {en : α → List Value} {sz : Nat} {w W0 W : World} {v : Value} {xs : List α} {Z : Nat → Prop} (h : RowsAt en sz w v xs) (hb : Below w.heap.size w W0) (hk : Kept Z W0 W) (hZ : ∀ b, b < w.heap.size → ¬ Z b) : RowsAt en sz W v xs := by
  obtain ⟨hm, a, cap, hv, h⟩ := h
  refine ⟨hm, a, cap, hv, ?_⟩
  rcases h with h | ⟨b, off, ha, hl, h⟩
  · exact Or.inl h
  · have h1 := hb.size
    have h2 := hk.size
    exact Or.inr ⟨b, off, ha, by omega, fun i hi => (h i hi).kept ((hk.block b (by omega) (hZ b hl)).trans (hb.block b hl))⟩
theorem heap_at2 (w : World) (o : Obj) (k : Nat) (h : k = w.heap.size) : (w.alloc o).heap[k]? = some o := by subst h; exact heap_alloc_new w o
theorem OwnR.lit {α : Type} (en : α → List Value) (sz : Nat) {T : TypeId} {B g : Nat} {w : World} (h : w.heap[g]? = some (.cells #[] T (0, 0))) (hB : B ≤ g) : OwnR en sz T B w (.slice (some ⟨g, 0, none⟩) 0 0) ([] : List α) :=
  ⟨by simp, Or.inr ⟨g, 0, #[], rfl, hB, h, Nat.le_refl _, by simp [maxLen], by simp, by simp⟩⟩
/-- Of the blocks below H only r has turned, a block of two cells that may be written. -/
def Ow (r H : Nat) (W0 W : World) : Prop := Kept (fun b => b = r ∨ H ≤ b) W0 W ∧ H ≤ W.heap.size ∧ (W.frozen? ⟨r, 0, none⟩ = false ∧ W.frozen? ⟨r, 1, none⟩ = false) ∧ (∃ x, W.cell? ⟨r, 0, none⟩ = some x) ∧ ∃ x, W.cell? ⟨r, 1, none⟩ = some x
theorem Ow.grow {r H : Nat} {W0 W W' : World} (h : Ow r H W0 W) (hr : r < H) (hk : Kept (fun b => H ≤ b) W W') : Ow r H W0 W' := by
  obtain ⟨h1, h2, ⟨h3, h3'⟩, ⟨x, h4⟩, ⟨y, h5⟩⟩ := h
  have hb := hk.block r (by omega) (by omega)
  refine ⟨h1.trans (hk.mono (fun _ _ h => Or.inr h)), Nat.le_trans h2 hk.size, ⟨?_, ?_⟩, ⟨x, hk.cell h4 (by simp only; omega)⟩, ⟨y, hk.cell h5 (by simp only; omega)⟩⟩
  · rw [World.frozen?_of_block (w := W) (a := ⟨r, 0, none⟩) hb]; exact h3
  · rw [World.frozen?_of_block (w := W) (a := ⟨r, 1, none⟩) hb]; exact h3'
theorem Ow.alloc {r H : Nat} {W0 W : World} (h : Ow r H W0 W) (hr : r < H) (o : Obj) : Ow r H W0 (W.alloc o) := h.grow hr (Kept.of_below (below_new W o))
theorem Ow.drew {r H : Nat} {W0 W : World} (h : Ow r H W0 W) : Ow r H W0 W.drew := ⟨h.1.drew, h.2.1, h.2.2⟩
theorem Ow.store {r H : Nat} {W0 W : World} (h : Ow r H W0 W) (x y : Value) : Ow r H W0 ((W.setCell ⟨r, 0, none⟩ x).setCell ⟨r, 1, none⟩ y) := by
  obtain ⟨h1, h2, ⟨h3, h3'⟩, ⟨x', h4⟩, ⟨y', h5⟩⟩ := h
  refine ⟨h1.trans ((kept_two r x y).mono (fun _ _ h => Or.inl h)), by simpa using h2, ⟨by simpa using h3, by simpa using h3'⟩, ⟨x, ?_⟩, ⟨y, ?_⟩⟩
  · rw [cell_off2 (Or.inr (by decide)), World.cell?_setCell_same _ _ _ h4]
  · exact World.cell?_setCell_same _ _ _ ((cell_off2 (Or.inr (by decide))).trans h5)

theorem own_fin {H B r g s : Nat} {wN wP : World} {vN vP x y : Value} {n : Net} {TN TP : TypeId} (oN : OwnR encN 3 TN H wN vN n.nodes) (oP : OwnR encP 5 TP H wP vP n.pipes) (hk : Kept (fun b => b = g) wN wP) (hgP : vP.ownBlock = some g ∨ vP.ownBlock = some s) (hs : wN.heap.size ≤ s) (hsep : ¬ vN.ownBlock = some g)
    (hr : r < H) (hB : B ≤ H) (hok : NamesOk n.nodes) (hl1 : n.nodes.length ≤ 2000000) (hl2 : n.pipes.length ≤ 2000000) :
    NetApart B wP.heap.size ((wP.setCell ⟨r, 0, none⟩ x).setCell ⟨r, 1, none⟩ y) vN vP n ∧ (CapOk vN ∧ CapOk vP) := by
  have oN1 := oN.kept hk (fun b hb e => hsep (by rw [hb, e]))
  obtain ⟨rN, qN⟩ := oN1.rows lenN (by omega)
  obtain ⟨rP, qP⟩ := oP.rows lenP (by omega)
  have hk2 := kept_two (w := wP) r x y
  refine ⟨⟨_, _, fun b hb => ⟨by omega, hb.2.2⟩, fun b hb => ⟨by omega, hb.2.2⟩, fun b hb hb' => ?_, rN.kept hk2 (fun b _ hb e => by omega), hok, rP.kept hk2 (fun b _ hb e => by omega)⟩, qN, qP⟩
  have h1 := hb.1
  have h2 := hb'.1
  have h3 := (oN.lt b h1).2
  rcases hgP with h | h
  · rw [h] at h2
    simp only [Option.some.injEq] at h2
    exact hsep (by rw [h1, h2])
  · rw [h] at h2
    simp only [Option.some.injEq] at h2
    omega
theorem step_ownN {ops : Array Oper} {o : Oper} {a : Act} {Q : Exit → Act → World → Prop} {w : World} {K : Act → World → Prop} {E : Prop} (hgd : o.guard = none) (s x : Operand) (ho : o.op = .call { callee := .builtin .append, args := #[s, x], argTypes := #[24, 24] })
    (r H : Nat) (W0 : World) (hr : r < H) (g : Nat) (src : Value) (ys : List Nd) (hs : a.eval s = .slice (some ⟨g, 0, none⟩) 0 0) (hx : a.eval x = src) (hsrc : RowsAt encN 3 w src ys) (how : Ow r H W0 w) (hh : w.heap[g]? = some (.cells #[] 71 (0, 0))) (hg : H ≤ g) (hl : ys.length ≤ 2000000)
    (h : ∀ v' w', OwnR encN 3 71 H w' v' ys → Kept (fun b => b = g) w w' → (v'.ownBlock = some g ∨ v'.ownBlock = some w.heap.size) → Ow r H W0 w' → K (a.put o.dst v') w') :
    if Region.wanted o (yielded ops a.tmps) = true then Oper.wp Try.prog o a w K Q else E :=
  step_appN hgd s x ho H _ src [] ys hs hx (OwnR.lit encN 3 hh hg) hsrc (by simp; omega) how.2.1 fun v' w' h1 h2 h3 => by
    have hk : Kept (fun b => b = g) w w' := h2.mono (fun b _ hb => by simp [Value.ownBlock] at hb; exact hb.symm)
    exact h v' w' (by simpa using h1) hk h3 (how.grow hr (hk.mono (fun b _ hb => by omega)))
theorem step_ownP {ops : Array Oper} {o : Oper} {a : Act} {Q : Exit → Act → World → Prop} {w : World} {K : Act → World → Prop} {E : Prop} (hgd : o.guard = none) (s x : Operand) (ho : o.op = .call { callee := .builtin .append, args := #[s, x], argTypes := #[25, 25] })
    (r H : Nat) (W0 : World) (hr : r < H) (g : Nat) (src : Value) (ys : List Pp) (hs : a.eval s = .slice (some ⟨g, 0, none⟩) 0 0) (hx : a.eval x = src) (hsrc : RowsAt encP 5 w src ys) (how : Ow r H W0 w) (hh : w.heap[g]? = some (.cells #[] 73 (0, 0))) (hg : H ≤ g) (hl : ys.length ≤ 2000000)
    (h : ∀ v' w', OwnR encP 5 73 H w' v' ys → Kept (fun b => b = g) w w' → (v'.ownBlock = some g ∨ v'.ownBlock = some w.heap.size) → Ow r H W0 w' → K (a.put o.dst v') w') :
    if Region.wanted o (yielded ops a.tmps) = true then Oper.wp Try.prog o a w K Q else E :=
  step_appP hgd s x ho H _ src [] ys hs hx (OwnR.lit encP 5 hh hg) hsrc (by simp; omega) how.2.1 fun v' w' h1 h2 h3 => by
    have hk : Kept (fun b => b = g) w w' := h2.mono (fun b _ hb => by simp [Value.ownBlock] at hb; exact hb.symm)
    exact h v' w' (by simpa using h1) hk h3 (how.grow hr (hk.mono (fun b _ hb => by omega)))

set_option maxHeartbeats 1000000 in
set_option maxRecDepth 100000 in
theorem l02Own_any (nv pv : Value) (n : Net) (w : World) (h : NetAt w nv pv n) (hl1 : n.nodes.length ≤ 2000000) (hl2 : n.pipes.length ≤ 2000000) :
    Calls Try.prog 142 #[.agg #[nv, pv]] w fun e w' => ∃ nv' pv', e = .returned (.agg #[nv', pv']) ∧ NetApart w.heap.size w'.heap.size w' nv' pv' n ∧ (CapOk nv' ∧ CapOk pv') ∧ Below w.heap.size w w' := by
  obtain ⟨a0, k0, rfl⟩ := h.1.shape
  obtain ⟨a1, k1, rfl⟩ := h.2.2.shape
  obtain ⟨W0, hW0⟩ : ∃ W0, W0 = (w.alloc (.cells #[.slice a0 n.nodes.length k0, .slice a1 n.pipes.length k1] 27)).alloc (.cells #[.slice none 0 0, .slice none 0 0] 27) := ⟨_, rfl⟩
  have hWb : Below w.heap.size w W0 := by rw [hW0]; exact (below_new w _).alloc (by simp) _
  have hsz : W0.heap.size = w.heap.size + 1 + 1 := by rw [hW0]; simp
  have hcc : ∀ W, Below W0.heap.size W0 W → (W.cell? ⟨w.heap.size, 0, none⟩ = some (.slice a0 n.nodes.length k0) ∧ W.cell? ⟨w.heap.size, 1, none⟩ = some (.slice a1 n.pipes.length k1)) ∧ W.cell? ⟨w.heap.size + 1, 0, none⟩ = some (.slice none 0 0) ∧ W.cell? ⟨w.heap.size + 1, 1, none⟩ = some (.slice none 0 0) ∧ W.frozen? ⟨w.heap.size + 1, 0, none⟩ = false ∧ W.frozen? ⟨w.heap.size + 1, 1, none⟩ = false := by
    intro W hW
    rw [hsz] at hW
    have h1 : Below (w.heap.size + 1) (w.alloc (.cells #[.slice a0 n.nodes.length k0, .slice a1 n.pipes.length k1] 27)) W := by
      have hn := below_new (w.alloc (.cells #[.slice a0 n.nodes.length k0, .slice a1 n.pipes.length k1] 27)) (.cells #[.slice none 0 0, .slice none 0 0] 27)
      rw [World.size_alloc] at hn
      rw [hW0] at hW
      exact hn.trans (hW.mono (by omega))
    have e1 := box2_below h1
    rw [hW0] at hW
    have h2 := hW
    rw [← World.size_alloc w (.cells #[.slice a0 n.nodes.length k0, .slice a1 n.pipes.length k1] 27)] at h2
    have e2 := box2_below h2
    rw [World.size_alloc] at e2
    exact ⟨⟨e1.1, e1.2.1⟩, e2.1, e2.2.1, e2.2.2 0, e2.2.2 1⟩
  have HC := hid hcc
  have hN : Hid (∀ W, Below W0.heap.size W0 W → RowsAt encN 3 W (.slice a0 n.nodes.length k0) n.nodes) := fun W hW => (h.1.below hWb).below hW
  have hP : Hid (∀ W, Below W0.heap.size W0 W → RowsAt encP 5 W (.slice a1 n.pipes.length k1) n.pipes) := fun W hW => (h.2.2.below hWb).below hW
  have hok := hid h.2.1
  have HRN := hid h.1
  have HRP := hid h.2.2
  obtain ⟨⟨c0, c1⟩, c2, c3, f0, f1⟩ := hcc W0.drew (Below.refl _ _).drew
  have HW := hid hWb
  clear h hcc hWb
  have hd0 := hid ((Below.refl W0.heap.size W0).drew)
  go_enter Try.func142, Try.ntmps142
  go_wp2_with fail
  rw [← hW0]
  have HW0 := hid hW0
  clear hW0
  have ow0 : Hid (Ow (w.heap.size + 1) W0.heap.size W0 W0.drew) := ⟨(Kept.refl _ _).drew, Nat.le_refl _, ⟨f0, f1⟩, ⟨_, c2⟩, ⟨_, c3⟩⟩
  have hrH : w.heap.size + 1 < W0.heap.size := by omega
  have hSS : Hid (∀ W, Ow (w.heap.size + 1) W0.heap.size W0 W → W.cell? ⟨w.heap.size, 0, none⟩ = some (.slice a0 n.nodes.length k0) ∧ W.cell? ⟨w.heap.size, 1, none⟩ = some (.slice a1 n.pipes.length k1) ∧ Ow (w.heap.size + 1) W0.heap.size W0 W) := fun W hW => by
    obtain ⟨⟨e0, e1⟩, _⟩ := HC.out W0 (Below.refl _ _)
    exact ⟨hW.1.cell e0 (by simp only; omega), hW.1.cell e1 (by simp only; omega), hW⟩
  have hNs : Hid (∀ W, Ow (w.heap.size + 1) W0.heap.size W0 W → RowsAt encN 3 W (.slice a0 n.nodes.length k0) n.nodes) := fun W hW => rows_of_kept HRN.out HW.out hW.1 (fun b hb => by omega)
  have hPs : Hid (∀ W, Ow (w.heap.size + 1) W0.heap.size W0 W → RowsAt encP 5 W (.slice a1 n.pipes.length k1) n.pipes) := fun W hW => rows_of_kept HRP.out HW.out hW.1 (fun b hb => by omega)
  clear c2 c3 f0 f1
  have HSZ := hid hsz
  clear hsz
  go_region_held3 (fun W => W.cell? ⟨w.heap.size, 0, none⟩ = some (.slice a0 n.nodes.length k0) ∧ W.cell? ⟨w.heap.size, 1, none⟩ = some (.slice a1 n.pipes.length k1) ∧ Ow (w.heap.size + 1) W0.heap.size W0 W)
    (first | exact ⟨c0, c1, ow0.out⟩ | exact hSS.out _ OW2 | exact hSS.out _ (OW2.store _ _) | exact hSS.out _ OW1 | exact hSS.out _ (Ow.alloc (And.right (And.right (by assumption))) hrH _))
    (first
      | (have oN0 := oN; refine step_ownP rfl (.tmp 7) (.tmp 9) rfl (w.heap.size + 1) W0.heap.size W0 hrH _ (.slice a1 n.pipes.length k1) n.pipes rfl rfl (hPs.out _ (And.right (And.right (by assumption)))) (And.right (And.right (by assumption))) ?_ ?_ ?_ ?_; (· first | exact heap_at2 _ _ _ (by first | rfl | omega | (simp; done) | (simp; omega)) | exact (Below.heap_alloc _ _ _ (by first | omega | (simp; done) | (simp; omega))).trans (heap_at2 _ _ _ (by first | rfl | omega | (simp; done) | (simp; omega))) | exact (kN.block _ (by first | omega | (simp; done) | (simp; omega)) (by first | omega | (simp; done) | (simp; omega))).trans (heap_at2 _ _ _ (by first | omega | (simp; done) | (simp; omega))) | exact (kN.block _ (by first | omega | (simp; done) | (simp; omega)) (by first | omega | (simp; done) | (simp; omega))).trans ((Below.heap_alloc _ _ _ (by first | omega | (simp; done) | (simp; omega))).trans (heap_at2 _ _ _ (by first | rfl | omega | (simp; done) | (simp; omega))))); (· first | exact Nat.le_refl _ | omega | (simp; done) | (simp; omega)); (· omega); intro vP wP oP kP gP OW2; obtain ⟨aP, cP, rfl, _⟩ := oP.shape lenP; have OWc := OW2; obtain ⟨_, _, ⟨f0, f1⟩, ⟨x0, e0⟩, ⟨x1, e1⟩⟩ := OWc)
      | (refine step_ownN rfl (.tmp 3) (.tmp 5) rfl (w.heap.size + 1) W0.heap.size W0 hrH _ (.slice a0 n.nodes.length k0) n.nodes rfl rfl (hNs.out _ (And.right (And.right (by assumption)))) (And.right (And.right (by assumption))) ?_ ?_ ?_ ?_; (· first | exact heap_at2 _ _ _ (by first | rfl | omega | (simp; done) | (simp; omega)) | exact (Below.heap_alloc _ _ _ (by first | omega | (simp; done) | (simp; omega))).trans (heap_at2 _ _ _ (by first | rfl | omega | (simp; done) | (simp; omega))) | exact (kP.block _ (by first | omega | (simp; done) | (simp; omega)) (by first | omega | (simp; done) | (simp; omega))).trans (heap_at2 _ _ _ (by first | omega | (simp; done) | (simp; omega))) | exact (kP.block _ (by first | omega | (simp; done) | (simp; omega)) (by first | omega | (simp; done) | (simp; omega))).trans ((Below.heap_alloc _ _ _ (by first | omega | (simp; done) | (simp; omega))).trans (heap_at2 _ _ _ (by first | rfl | omega | (simp; done) | (simp; omega))))); (· first | exact Nat.le_refl _ | omega | (simp; done) | (simp; omega)); (· omega); intro vN wN oN kN gN OW1; obtain ⟨aN, cN, rfl, _⟩ := oN.shape lenN; have zN := OW1.2.1; have yN := kN.size))
  all_goals
    have HF : Hid (NetApart w.heap.size wP.heap.size ((wP.setCell ⟨w.heap.size + 1, 0, none⟩ (.slice aN n.nodes.length cN)).setCell ⟨w.heap.size + 1, 1, none⟩ (.slice aP n.pipes.length cP)) (.slice aN n.nodes.length cN) (.slice aP n.pipes.length cP) n ∧ (CapOk (.slice aN n.nodes.length cN) ∧ CapOk (.slice aP n.pipes.length cP))) := by
      have hH := HSZ.out
      refine own_fin (H := W0.heap.size) (r := w.heap.size + 1) oN0 oP ?_ gP ?_ ?_ hrH (by omega) hok.out (by omega) (by omega)
      · first | exact kP | exact (Kept.of_below (X := fun b => b = wN.heap.size) (below_new wN _)).trans kP
      · first | exact Nat.le_refl _ | simp
      · intro hb
        first
          | (rcases gN with h | h <;> (rw [h] at hb; simp at hb) <;> omega)
          | (have := (oN0.lt _ hb).2; omega)
    have HB : Hid (Below w.heap.size w ((wP.setCell ⟨w.heap.size + 1, 0, none⟩ (.slice aN n.nodes.length cN)).setCell ⟨w.heap.size + 1, 1, none⟩ (.slice aP n.pipes.length cP))) := HW.out.trans ((OW2.store _ _).1.below HW.out.size (fun b hb => by have := HSZ.out; omega))
    clear oN oN0 oP kN kP OW1 OW2
    go_wp2_with fail
    exact bodyPost_ret (v := .agg #[.slice aN n.nodes.length cN, .slice aP n.pipes.length cP]) (by simp [results, Try.results142, go_sem, e0, e1]) rfl ⟨_, _, rfl, by simpa only [World.size_setCell] using HF.out.1, HF.out.2, HB.out⟩

end Go.Proofs.Ytdapdaadglaoiaa