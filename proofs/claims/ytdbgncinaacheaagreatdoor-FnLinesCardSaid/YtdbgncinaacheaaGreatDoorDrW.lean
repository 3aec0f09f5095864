/- The drawing functions of chapter 1: they return, and what they return is in range. slices.Clone of nodes and of pipes; cloneNetwork, l02Own. The draws of nodes, pipes and networks: some network. l02Draw: some network, each slice in a block of its own. -/
import Derived.Test.YtdbgncinaacheaaGreatDoorBase
import Derived.Test.YtdbgncinaacheaaGreatDoorMem
import Derived.Test.YtdbgncinaacheaaGreatDoorRows2
import Derived.Test.YtdbgncinaacheaaGreatDoorIsNetD
import Derived.Deep.QuietTactic
import Derived.BigQuiet
import Derived.RegionTactic
import Derived.Deep.RegionHeld3
import Derived.Lib.SliceRun
import Derived.Laws.BytesArg
namespace Go.Proofs.YtdbgncinaacheaaGreatDoor
open Go.RowKit

theorem l01Next_small (s : Nat) (n : Int) (w : World) (hn : n ≤ 1) :
    Calls Tryz.prog 29 #[.pointer (some ⟨s, 0, none⟩), .int .i64 n] w fun e w' => e = .returned (.int .i64 0) ∧ w = w' := by
  go_enter Tryz.func29, Tryz.ntmps29
  go_wp2
  go_ret
  exact ⟨rfl, rfl⟩

theorem src_two {T : TypeId} {w : World} {s : Nat} {a : Option Addr} {len cap : Nat} {at_ seed : Int} (hs : w.heap[s]? = some (.cells #[.slice a len cap, .int .i64 at_, .int .i64 seed] T (0, 0)))
    (hb : Bytes w a len s) (A S : Int) (hA0 : 0 ≤ A) (hA1 : A ≤ len) (hS0 : 0 ≤ S) (hS1 : S < 2147483647) (k m : Nat) :
    Src T ((((w.setCell ⟨s, 2, none⟩ (.int .i64 S)).drewN k).setCell ⟨s, 1, none⟩ (.int .i64 A)).drewN m) s ∧
    Kept (· = s) w ((((w.setCell ⟨s, 2, none⟩ (.int .i64 S)).drewN k).setCell ⟨s, 1, none⟩ (.int .i64 A)).drewN m) := by
  have hk : Kept (· = s) w ((((w.setCell ⟨s, 2, none⟩ (.int .i64 S)).drewN k).setCell ⟨s, 1, none⟩ (.int .i64 A)).drewN m) :=
    ((((Kept.refl (· = s) w).setCell (X := (· = s)) (p := ⟨s, 2, none⟩) rfl _).drewN k).setCell (X := (· = s)) (p := ⟨s, 1, none⟩) rfl _).drewN m
  refine ⟨⟨a, len, cap, A, S, ?_, hA0, hA1, hS0, hS1, hb.kept hk (fun k e => by omega)⟩, hk⟩
  exact heap_setCell_same (w := (w.setCell ⟨s, 2, none⟩ (.int .i64 S)).drewN k) (o := 1) (heap_setCell_same (o := 2) hs (.int .i64 S)) (.int .i64 A)
theorem src_one {T : TypeId} {w : World} {s : Nat} {a : Option Addr} {len cap : Nat} {at_ seed : Int} (hs : w.heap[s]? = some (.cells #[.slice a len cap, .int .i64 at_, .int .i64 seed] T (0, 0)))
    (hb : Bytes w a len s) (S : Int) (hA0 : 0 ≤ at_) (hA1 : at_ ≤ len) (hS0 : 0 ≤ S) (hS1 : S < 2147483647) (m : Nat) :
    Src T ((w.setCell ⟨s, 2, none⟩ (.int .i64 S)).drewN m) s ∧ Kept (· = s) w ((w.setCell ⟨s, 2, none⟩ (.int .i64 S)).drewN m) := by
  have hk : Kept (· = s) w ((w.setCell ⟨s, 2, none⟩ (.int .i64 S)).drewN m) := ((Kept.refl (· = s) w).setCell (X := (· = s)) (p := ⟨s, 2, none⟩) rfl _).drewN m
  refine ⟨⟨a, len, cap, at_, S, ?_, hA0, hA1, hS0, hS1, hb.kept hk (fun k e => by omega)⟩, hk⟩
  exact heap_setCell_same (o := 2) hs (.int .i64 S)

set_option maxHeartbeats 400000 in
theorem l01Next_any (s : Nat) (n : Int) (w : World) (hn : 1 < n) (hn2 : n ≤ 4000000000000000000) (h : Src 70 w s) :
    Calls Tryz.prog 29 #[.pointer (some ⟨s, 0, none⟩), .int .i64 n] w fun e w' =>
      ∃ r : Int, e = .returned (.int .i64 r) ∧ 0 ≤ r ∧ r < n ∧ Src 70 w' s ∧ Kept (· = s) w w' := by
  obtain ⟨a, len, cap, at_, seed, hs, h0, h1, h2, h3, hB⟩ := h
  obtain ⟨c0, c1, c2, hf⟩ := three_cells hs
  have hf1 := hf 1
  have hf2 := hf 2
  have hm := hB.1
  have HS := hid hs
  have HB := hid hB
  clear hs hf hB
  have hsm1 : 0 ≤ (seed * 48271 + 7) % 2147483647 := by omega
  have hsm2 : (seed * 48271 + 7) % 2147483647 < 2147483647 := by omega
  have hmod : ∀ y : Int, 0 ≤ y % n ∧ y % n < n := fun y => ⟨Int.emod_nonneg _ (by omega), Int.emod_lt_of_pos _ (by omega)⟩
  have HM := hid hmod
  clear hmod
  go_enter Tryz.func29, Tryz.ntmps29
  go_wp2
  by_cases hat : at_ < len
  · obtain ⟨b, off, rfl, hbs, hx⟩ := HB.out.2.resolve_left (by omega)
    obtain ⟨x, x0, x1, hx⟩ := hx at_.toNat (by omega)
    have hne : ¬ b = s := by omega
    have hne2 : ¬ s = b := by omega
    have hat1 : at_.toNat < len := by omega
    go_quiet (fail)
    go_wp2
    go_quiet (fail)
    go_wp2
    · go_quiet (fail)
      go_wp2
      go_ret
      exact ⟨_, rfl, (HM.out _).1, (HM.out _).2, src_two HS.out HB.out _ _ (by omega) (by omega) (by omega) (by omega) _ _⟩
    · go_ret
      exact ⟨_, rfl, (HM.out _).1, (HM.out _).2, src_two HS.out HB.out _ _ (by omega) (by omega) (by omega) (by omega) _ 0⟩
    · go_ret
      exact ⟨_, rfl, (HM.out _).1, (HM.out _).2, src_two HS.out HB.out _ _ (by omega) (by omega) (by omega) (by omega) _ 0⟩
  · go_quiet (fail)
    go_wp2
    go_ret
    exact ⟨_, rfl, (HM.out _).1, (HM.out _).2, src_one HS.out HB.out _ (by omega) (by omega) (by omega) (by omega) _⟩

def FromRel (T : TypeId) (a : Option Addr) (len cap : Nat) (w : World) (i : Value) (wr : World) : Prop :=
  ∃ k : Nat, ∃ seed : Int, i = .int .i64 k ∧ k ≤ 64 ∧ k ≤ len ∧ 0 ≤ seed ∧ seed < 2147483647 ∧ wr.heap[w.heap.size]? = some (.cells #[.slice a len cap, .int .i64 0, .int .i64 seed] T (0, 0)) ∧ Below w.heap.size w wr

set_option maxHeartbeats 400000 in
theorem l01From_any (a : Option Addr) (len cap : Nat) (w : World) (h : Bytes w a len w.heap.size) :
    Calls Tryz.prog 28 #[.slice a len cap] w fun e w' =>
      e = .returned (.pointer (some ⟨w.heap.size, 0, none⟩)) ∧ Src 70 w' w.heap.size ∧ Below w.heap.size w w' := by
  have hm := h.1
  have HB := hid h
  clear h
  go_enter Tryz.func28, Tryz.ntmps28
  go_wp2
  go_loopw [4] (fun i wr => FromRel 70 a len cap w i wr) (fun i _ => 64 - (intOf i).toNat)
  case atStart => exact ⟨0, 50311, rfl, by omega, by omega, by omega, by omega, heap_alloc_new _ _, (Below.refl _ _).alloc (Nat.le_refl _) _⟩
  case round =>
    obtain ⟨k, seed, rfl, h0, h1, h2, h3, hs, hbel⟩ := hrel
    by_cases hlt : k < len ∧ k < 64
    · obtain ⟨l1, l2⟩ := hlt
      obtain ⟨c0, c1, c2, hf⟩ := three_cells hs
      have hf2 := hf 2
      obtain ⟨b, off, rfl, hbs, hx⟩ := HB.out.2.resolve_left (by omega)
      obtain ⟨x, x0, x1, hx⟩ := hx k (by omega)
      have hx1 := (hbel.cell (p := ⟨b, off + k, none⟩) hbs).trans hx
      have HS := hid hs
      have HBel := hid hbel
      clear hs hf hx hbel
      go_wp2
      go_region
      go_wp2
      go_roundw
      case rel => exact ⟨k + 1, (seed * 41 + x) % 2147483647, by go_num, by omega, by omega, by omega, by omega, heap_setCell_same (w := wr) (o := 2) HS.out _, (HBel.out.setCell (p := ⟨w.heap.size, 2, none⟩) (Nat.le_refl _) _).drew⟩
      case measure => simp [intOf]; omega
    · have HS := hid hs
      have HBel := hid hbel
      have HK : Hid (Src 70 wr w.heap.size) :=
        ⟨a, len, cap, 0, seed, hs, by omega, by omega, h2, h3, HB.out.kept (Kept.of_below (X := fun _ => False) hbel) (fun k e => e.elim)⟩
      clear hs hbel
      go_wp2
      all_goals go_ret
      all_goals exact ⟨rfl, HK.out, HBel.out⟩


end Go.Proofs.YtdbgncinaacheaaGreatDoor

namespace Go.Proofs.YtdbgncinaacheaaGreatDoor
open Go.RowKit

/-- A network in memory of the call's own: nodes and pipes apart, in blocks B .. H - 1. -/
def NetApart (B H : Nat) (w : World) (nv pv : Value) (n : Net) : Prop :=
  ∃ X Y : Nat → Prop, (∀ b, X b → B ≤ b ∧ b < H) ∧ (∀ b, Y b → B ≤ b ∧ b < H) ∧ (∀ b, X b → ¬ Y b) ∧ RowsOwn encN 3 X w nv n.nodes ∧ NamesOk n.nodes ∧ RowsOwn encP 5 Y w pv n.pipes
theorem NetSep.apart {lo hi : Nat} {w : World} {nv pv : Value} {n : Net} (h : NetSep lo hi w nv pv n) : NetApart lo hi w nv pv n := by
  obtain ⟨m, h1, h2, h3, h4, h5⟩ := h
  exact ⟨_, _, fun b hb => ⟨hb.1, by omega⟩, fun b hb => ⟨by omega, hb.2⟩, fun b hb hb' => by omega, h3, h4, h5⟩
theorem NetApart.own {B H : Nat} {w : World} {nv pv : Value} {n : Net} (h : NetApart B H w nv pv n) : NetOwn (fun b => B ≤ b ∧ b < H) w nv pv n := by
  obtain ⟨X, Y, hX, hY, _, h3, h4, h5⟩ := h
  exact ⟨h3.mono (fun b _ hb => hX b hb), h4, h5.mono (fun b _ hb => hY b hb)⟩
theorem NetApart.at {B H : Nat} {w : World} {nv pv : Value} {n : Net} (h : NetApart B H w nv pv n) : NetAt w nv pv n := h.own.at
theorem NetApart.kept {B H : Nat} {Z : Nat → Prop} {w w' : World} {nv pv : Value} {n : Net} (h : NetApart B H w nv pv n) (hk : Kept Z w w') (hZ : ∀ b, B ≤ b → b < H → ¬ Z b) : NetApart B H w' nv pv n := by
  obtain ⟨X, Y, hX, hY, hd, h3, h4, h5⟩ := h
  exact ⟨X, Y, hX, hY, hd, h3.kept hk (fun b _ hb => hZ b (hX b hb).1 (hX b hb).2), h4, h5.kept hk (fun b _ hb => hZ b (hY b hb).1 (hY b hb).2)⟩
theorem NetApart.below {B H : Nat} {w w' : World} {nv pv : Value} {n : Net} (h : NetApart B H w nv pv n) (hb : Below w.heap.size w w') : NetApart B H w' nv pv n :=
  h.kept (Kept.of_below (X := fun _ => False) hb) (fun _ _ _ e => e)
theorem NetApart.widen {B H B' H' : Nat} {w : World} {nv pv : Value} {n : Net} (h : NetApart B H w nv pv n) (hB : B' ≤ B) (hH : H ≤ H') : NetApart B' H' w nv pv n := by
  obtain ⟨X, Y, hX, hY, hd, r⟩ := h
  exact ⟨X, Y, fun b hb => ⟨by have := hX b hb; omega, by have := hX b hb; omega⟩, fun b hb => ⟨by have := hY b hb; omega, by have := hY b hb; omega⟩, hd, r⟩

theorem cell_off2 {w : World} {b o b' o' : Nat} {u : Value} (h : b ≠ b' ∨ o ≠ o') : (w.setCell ⟨b, o, none⟩ u).cell? ⟨b', o', none⟩ = w.cell? ⟨b', o', none⟩ :=
  World.cell?_setCell_other w ⟨b, o, none⟩ ⟨b', o', none⟩ u (fun e => h.elim (fun h => h (congrArg Addr.block e)) (fun h => h (congrArg Addr.off e)))
/-- A new block's cells, in all later worlds. -/
theorem box2_below {w W : World} {x y : Value} {T : TypeId} (hb : Below (w.heap.size + 1) (w.alloc (.cells #[x, y] T)) W) :
    W.cell? ⟨w.heap.size, 0, none⟩ = some x ∧ W.cell? ⟨w.heap.size, 1, none⟩ = some y ∧ (∀ o, W.frozen? ⟨w.heap.size, o, none⟩ = false) := by
  have h0 := (Box.new w #[x, y] T).two
  have hlt : w.heap.size < w.heap.size + 1 := Nat.lt_succ_self _
  exact ⟨(hb.cell (p := ⟨w.heap.size, 0, none⟩) hlt).trans h0.1, (hb.cell (p := ⟨w.heap.size, 1, none⟩) hlt).trans h0.2, fun o => (hb.frozen (p := ⟨w.heap.size, o, none⟩) hlt).trans (by simp)⟩
theorem kept_two {w : World} (b : Nat) (x y : Value) : Kept (fun k => k = b) w ((w.setCell ⟨b, 0, none⟩ x).setCell ⟨b, 1, none⟩ y) :=
  ((Kept.refl (fun k => k = b) w).setCell (p := ⟨b, 0, none⟩) rfl x).setCell (p := ⟨b, 1, none⟩) rfl y

theorem rows_of_kept {α : Type} {en : α → List Value} {sz : Nat} {w W0 W : World} {v : Value} {xs : List α} {Z : Nat → Prop} (h : RowsAt en sz w v xs) (hb : Below w.heap.size w W0) (hk : Kept Z W0 W) (hZ : ∀ b, b < w.heap.size → ¬ Z b) : RowsAt en sz W v xs := by
  obtain ⟨hm, a, cap, hv, h⟩ := h
  refine ⟨hm, a, cap, hv, ?_⟩
  rcases h with h | ⟨b, off, ha, hl, h⟩
  · exact Or.inl h
  · have h1 := hb.size
    have h2 := hk.size
    exact Or.inr ⟨b, off, ha, by omega, fun i hi => (h i hi).kept ((hk.block b (by omega) (hZ b hl)).trans (hb.block b hl))⟩
theorem heap_at2 (w : World) (o : Obj) (k : Nat) (h : k = w.heap.size) : (w.alloc o).heap[k]? = some o := by subst h; exact heap_alloc_new w o
theorem OwnR.lit {α : Type} (en : α → List Value) (sz : Nat) {T : TypeId} {B g : Nat} {w : World} (h : w.heap[g]? = some (.cells #[] T (0, 0))) (hB : B ≤ g) : OwnR en sz T B w (.slice (some ⟨g, 0, none⟩) 0 0) ([] : List α) :=
  ⟨by simp, Or.inr ⟨g, 0, #[], rfl, hB, h, Nat.le_refl _, by simp [maxLen], by simp, by simp⟩⟩
/-- Of the blocks below H only r has turned, a block of two cells that may be written. -/
def Ow (r H : Nat) (W0 W : World) : Prop := Kept (fun b => b = r ∨ H ≤ b) W0 W ∧ H ≤ W.heap.size ∧ (W.frozen? ⟨r, 0, none⟩ = false ∧ W.frozen? ⟨r, 1, none⟩ = false) ∧ (∃ x, W.cell? ⟨r, 0, none⟩ = some x) ∧ ∃ x, W.cell? ⟨r, 1, none⟩ = some x
theorem Ow.grow {r H : Nat} {W0 W W' : World} (h : Ow r H W0 W) (hr : r < H) (hk : Kept (fun b => H ≤ b) W W') : Ow r H W0 W' := by
  obtain ⟨h1, h2, ⟨h3, h3'⟩, ⟨x, h4⟩, ⟨y, h5⟩⟩ := h
  have hb := hk.block r (by omega) (by omega)
  refine ⟨h1.trans (hk.mono (fun _ _ h => Or.inr h)), Nat.le_trans h2 hk.size, ⟨?_, ?_⟩, ⟨x, hk.cell h4 (by simp only; omega)⟩, ⟨y, hk.cell h5 (by simp only; omega)⟩⟩
  · rw [World.frozen?_of_block (w := W) (a := ⟨r, 0, none⟩) hb]; exact h3
  · rw [World.frozen?_of_block (w := W) (a := ⟨r, 1, none⟩) hb]; exact h3'
theorem Ow.alloc {r H : Nat} {W0 W : World} (h : Ow r H W0 W) (hr : r < H) (o : Obj) : Ow r H W0 (W.alloc o) := h.grow hr (Kept.of_below (below_new W o))
theorem Ow.drew {r H : Nat} {W0 W : World} (h : Ow r H W0 W) : Ow r H W0 W.drew := ⟨h.1.drew, h.2.1, h.2.2⟩
theorem Ow.store {r H : Nat} {W0 W : World} (h : Ow r H W0 W) (x y : Value) : Ow r H W0 ((W.setCell ⟨r, 0, none⟩ x).setCell ⟨r, 1, none⟩ y) := by
  obtain ⟨h1, h2, ⟨h3, h3'⟩, ⟨x', h4⟩, ⟨y', h5⟩⟩ := h
  refine ⟨h1.trans ((kept_two r x y).mono (fun _ _ h => Or.inl h)), by simpa using h2, ⟨by simpa using h3, by simpa using h3'⟩, ⟨x, ?_⟩, ⟨y, ?_⟩⟩
  · rw [cell_off2 (Or.inr (by decide)), World.cell?_setCell_same _ _ _ h4]
  · exact World.cell?_setCell_same _ _ _ ((cell_off2 (Or.inr (by decide))).trans h5)

theorem own_fin {H B r g s : Nat} {wN wP : World} {vN vP x y : Value} {n : Net} {TN TP : TypeId} (oN : OwnR encN 3 TN H wN vN n.nodes) (oP : OwnR encP 5 TP H wP vP n.pipes) (hk : Kept (fun b => b = g) wN wP) (hgP : vP.ownBlock = some g ∨ vP.ownBlock = some s) (hs : wN.heap.size ≤ s) (hsep : ¬ vN.ownBlock = some g)
    (hr : r < H) (hB : B ≤ H) (hok : NamesOk n.nodes) (hl1 : n.nodes.length ≤ 2000000) (hl2 : n.pipes.length ≤ 2000000) :
    NetApart B wP.heap.size ((wP.setCell ⟨r, 0, none⟩ x).setCell ⟨r, 1, none⟩ y) vN vP n ∧ (CapOk vN ∧ CapOk vP) := by
  have oN1 := oN.kept hk (fun b hb e => hsep (by rw [hb, e]))
  obtain ⟨rN, qN⟩ := oN1.rows lenN (by omega)
  obtain ⟨rP, qP⟩ := oP.rows lenP (by omega)
  have hk2 := kept_two (w := wP) r x y
  refine ⟨⟨_, _, fun b hb => ⟨by omega, hb.2.2⟩, fun b hb => ⟨by omega, hb.2.2⟩, fun b hb hb' => ?_, rN.kept hk2 (fun b _ hb e => by omega), hok, rP.kept hk2 (fun b _ hb e => by omega)⟩, qN, qP⟩
  have h1 := hb.1
  have h2 := hb'.1
  have h3 := (oN.lt b h1).2
  rcases hgP with h | h
  · rw [h] at h2
    simp only [Option.some.injEq] at h2
    exact hsep (by rw [h1, h2])
  · rw [h] at h2
    simp only [Option.some.injEq] at h2
    omega
theorem step_ownN {ops : Array Oper} {o : Oper} {a : Act} {Q : Exit → Act → World → Prop} {w : World} {K : Act → World → Prop} {E : Prop} (hgd : o.guard = none) (s x : Operand) (ho : o.op = .call { callee := .builtin .append, args := #[s, x], argTypes := #[31, 31] })
    (r H : Nat) (W0 : World) (hr : r < H) (g : Nat) (src : Value) (ys : List Nd) (hs : a.eval s = .slice (some ⟨g, 0, none⟩) 0 0) (hx : a.eval x = src) (hsrc : RowsAt encN 3 w src ys) (how : Ow r H W0 w) (hh : w.heap[g]? = some (.cells #[] 25 (0, 0))) (hg : H ≤ g) (hl : ys.length ≤ 2000000)
    (h : ∀ v' w', OwnR encN 3 25 H w' v' ys → Kept (fun b => b = g) w w' → (v'.ownBlock = some g ∨ v'.ownBlock = some w.heap.size) → Ow r H W0 w' → K (a.put o.dst v') w') :
    if Region.wanted o (yielded ops a.tmps) = true then Oper.wp Tryz.prog o a w K Q else E :=
  step_appN hgd s x ho H _ src [] ys hs hx (OwnR.lit encN 3 hh hg) hsrc (by simp; omega) how.2.1 fun v' w' h1 h2 h3 => by
    have hk : Kept (fun b => b = g) w w' := h2.mono (fun b _ hb => by simp [Value.ownBlock] at hb; exact hb.symm)
    exact h v' w' (by simpa using h1) hk h3 (how.grow hr (hk.mono (fun b _ hb => by omega)))
theorem step_ownP {ops : Array Oper} {o : Oper} {a : Act} {Q : Exit → Act → World → Prop} {w : World} {K : Act → World → Prop} {E : Prop} (hgd : o.guard = none) (s x : Operand) (ho : o.op = .call { callee := .builtin .append, args := #[s, x], argTypes := #[32, 32] })
    (r H : Nat) (W0 : World) (hr : r < H) (g : Nat) (src : Value) (ys : List Pp) (hs : a.eval s = .slice (some ⟨g, 0, none⟩) 0 0) (hx : a.eval x = src) (hsrc : RowsAt encP 5 w src ys) (how : Ow r H W0 w) (hh : w.heap[g]? = some (.cells #[] 54 (0, 0))) (hg : H ≤ g) (hl : ys.length ≤ 2000000)
    (h : ∀ v' w', OwnR encP 5 54 H w' v' ys → Kept (fun b => b = g) w w' → (v'.ownBlock = some g ∨ v'.ownBlock = some w.heap.size) → Ow r H W0 w' → K (a.put o.dst v') w') :
    if Region.wanted o (yielded ops a.tmps) = true then Oper.wp Tryz.prog o a w K Q else E :=
  step_appP hgd s x ho H _ src [] ys hs hx (OwnR.lit encP 5 hh hg) hsrc (by simp; omega) how.2.1 fun v' w' h1 h2 h3 => by
    have hk : Kept (fun b => b = g) w w' := h2.mono (fun b _ hb => by simp [Value.ownBlock] at hb; exact hb.symm)
    exact h v' w' (by simpa using h1) hk h3 (how.grow hr (hk.mono (fun b _ hb => by omega)))

end Go.Proofs.YtdbgncinaacheaaGreatDoor

namespace Go.Proofs.YtdbgncinaacheaaGreatDoor
open Go.RowKit

theorem Kept.ofNew {w w' : World} {X : Nat → Prop} (h : Below w.heap.size w w') : Kept X w w' := Kept.of_below h
theorem l01Next_gen (s : Nat) (n : Int) (w : World) (hn2 : n ≤ 4000000000000000000) (h : Src 70 w s) :
    Calls Tryz.prog 29 #[.pointer (some ⟨s, 0, none⟩), .int .i64 n] w fun e w' =>
      ∃ r : Int, e = .returned (.int .i64 r) ∧ 0 ≤ r ∧ (r < n ∨ r = 0) ∧ Src 70 w' s ∧ Kept (· = s) w w' := by
  by_cases hn : 1 < n
  · refine (l01Next_any s n w hn hn2 h).mono ?_
    rintro e w' ⟨r, rfl, h0, h1, h2, h3⟩
    exact ⟨r, rfl, h0, Or.inl h1, h2, h3⟩
  · refine (l01Next_small s n w (by omega)).mono ?_
    rintro e w' ⟨rfl, rfl⟩
    exact ⟨0, rfl, by omega, Or.inr rfl, h, Kept.refl _ _⟩

theorem strOne_sz (z : Int) : (strOfNums [z]).size = 1 := rfl
theorem conv_one' (W : World) (z : Int) : (convert 22 9 (.slice (some ⟨W.heap.size, 0, none⟩) 1 1)).run Tryz.prog (W.alloc (.cells #[.int .u8 z] 5)) = .ok (.string (strOfNums [z])) (W.alloc (.cells #[.int .u8 z] 5)) :=
  run_convert_bytes_arg _ 22 5 Tryz.underlying22 Tryz.underlying5 W.heap.size 0 1 1 [z] rfl (fun i hi => by
    obtain rfl : i = 0 := by omega
    rw [World.cell?_alloc_new]; rfl) 9 Tryz.underlying9
theorem l01Dec_small (n : Int) (w : World) (h0 : 0 ≤ n) (h1 : n < 10) :
    Calls Tryz.prog 38 #[.int .i64 n] w fun e w' => e = .returned (.string (strOfNums [48 + n])) ∧ Below w.heap.size w w' := by
  have hcv := conv_one' w (48 + n)
  go_enter Tryz.func38, Tryz.ntmps38
  go_wp2_with fail
  go_ret
  exact ⟨rfl, below_new _ _⟩

theorem Kept.setNew {X : Nat → Prop} {a b : World} (h : Kept X a b) {p : Addr} (hp : a.heap.size ≤ p.block) (u : Value) : Kept X a (b.setCell p u) :=
  ((h.mono (Y := fun k => X k ∨ a.heap.size ≤ k) (fun _ _ h => Or.inl h)).setCell (Or.inr hp) u).mono (fun k hk h => h.resolve_right (by omega))
/-- A block of the call's own: its cells, none of them frozen. -/
def Blk (w : World) (b : Nat) (cs : Array Value) (T : TypeId) : Prop := w.heap[b]? = some (.cells cs T (0, 0))
theorem Blk.new (w : World) (cs : Array Value) (T : TypeId) : Blk (w.alloc (.cells cs T)) w.heap.size cs T := heap_alloc_new w _
theorem Blk.lt {w : World} {b : Nat} {cs : Array Value} {T : TypeId} (h : Blk w b cs T) : b < w.heap.size := by
  rcases Nat.lt_or_ge b w.heap.size with h1 | h1
  · exact h1
  · unfold Blk at h; rw [Array.getElem?_eq_none h1] at h; cases h
theorem Blk.kept {X : Nat → Prop} {w w' : World} {b : Nat} {cs : Array Value} {T : TypeId} (h : Blk w b cs T) (hk : Kept X w w') (hX : ¬ X b) : Blk w' b cs T := (hk.block b h.lt hX).trans h
theorem Blk.below {w w' : World} {b : Nat} {cs : Array Value} {T : TypeId} (h : Blk w b cs T) (hb : Below w.heap.size w w') : Blk w' b cs T := (hb.block b h.lt).trans h
theorem Blk.cell {w : World} {b : Nat} {cs : Array Value} {T : TypeId} (h : Blk w b cs T) (j : Nat) (hj : j < cs.size) : w.cell? ⟨b, j, none⟩ = some cs[j] := by
  have h' : w.heap[b]? = some (.cells cs T (0, 0)) := h
  simp [World.cell?, h', hj]
theorem Blk.frozen {w : World} {b : Nat} {cs : Array Value} {T : TypeId} (h : Blk w b cs T) (o : Nat) : w.frozen? ⟨b, o, none⟩ = false := by
  have h' : w.heap[b]? = some (.cells cs T (0, 0)) := h
  simp [World.frozen?, h']
theorem Blk.set {w : World} {b : Nat} {cs : Array Value} {T : TypeId} (h : Blk w b cs T) (o : Nat) (u : Value) : Blk (w.setCell ⟨b, o, none⟩ u) b (cs.setIfInBounds o u) T := heap_setCell_same h u
theorem Blk.drew {w : World} {b : Nat} {cs : Array Value} {T : TypeId} (h : Blk w b cs T) : Blk w.drew b cs T := h

set_option maxRecDepth 100000 in
theorem l02DrawNode_any (s : Nat) (i : Int) (w : World) (h0 : 0 ≤ i) (h1 : i < 10) (h : Src 70 w s) :
    Calls Tryz.prog 57 #[.pointer (some ⟨s, 0, none⟩), .int .i64 i] w fun e w' =>
      ∃ x : Nd, e = .returned (.agg #[.string x.name, .int .i64 x.low, .int .i64 x.high]) ∧ x.name.size ≤ 100 ∧ Src 70 w' s ∧ Kept (· = s) w w' := by
  have hs := h.lt
  have hW0 := (Kept.refl (· = s) w).alloc (.cells #[.string ⟨#[]⟩, .int .i64 0, .int .i64 0] 25)
  have hbx := Blk.new w #[.string ⟨#[]⟩, .int .i64 0, .int .i64 0] 25
  have h := h.alloc (.cells #[.string ⟨#[]⟩, .int .i64 0, .int .i64 0] 25)
  go_enter Tryz.func57, Tryz.ntmps57
  go_wp2_with fail
  refine (l01Next_any s 4000 _ (by omega) (by omega) h).mono ?_
  rintro e w1 ⟨r, rfl, r0, r1, hs1, hk1⟩
  have HK1 := hid (hW0.trans hk1)
  have HX1 := hid (hbx.kept hk1 (by omega))
  clear hW0 hbx hk1
  go_wp2_with fail
  refine (l01Dec_small i _ h0 h1).mono ?_
  rintro e w2 ⟨rfl, b2⟩
  have HK2 := hid (HK1.out.trans (Kept.of_below b2))
  have HX2 := hid (HX1.out.below b2)
  have hs2 := hs1.kept (Kept.of_below (X := fun _ => False) b2) (fun k h => h.elim)
  have z2 := strOne_sz (48 + i)
  clear HK1 HX1 b2
  go_wp2_with fail
  refine (l01Next_any s 60000 _ (by omega) (by omega) hs2).mono ?_
  rintro e w3 ⟨q, rfl, q0, q1, hs3, hk3⟩
  have HK3 := hid (HK2.out.trans hk3)
  have hb3 := HX2.out.kept hk3 (by omega)
  have c0 := hb3.cell 0 (by simp)
  have c1 := hb3.cell 1 (by simp)
  have c2 := hb3.cell 2 (by simp)
  have f0 := hb3.frozen 0
  have f1 := hb3.frozen 1
  have f2 := hb3.frozen 2
  have HX3 := hid hb3
  have HS3 := hid hs3
  have hsn : s ≠ w.heap.size := by omega
  clear HK2 HX2 hk3 hb3 hs3
  go_wp2_with fail
  have hb5 := ((HX3.out.set 0 (.string (⟨#[110]⟩ ++ strOfNums [48 + i]))).set 1 (.int .i64 r)).set 2 (.int .i64 (r + 2000 + q))
  have e0 := hb5.cell 0 (by simp)
  have e1 := hb5.cell 1 (by simp)
  have e2 := hb5.cell 2 (by simp)
  have hk5 := ((HK3.out.setNew (p := ⟨w.heap.size, 0, none⟩) (Nat.le_refl _) (.string (⟨#[110]⟩ ++ strOfNums [48 + i]))).setNew (p := ⟨w.heap.size, 1, none⟩) (Nat.le_refl _) (.int .i64 r)).setNew (p := ⟨w.heap.size, 2, none⟩) (Nat.le_refl _) (.int .i64 (r + 2000 + q))
  have hs5 := HS3.out.kept ((((Kept.refl (· = w.heap.size) w3).setCell (p := ⟨w.heap.size, 0, none⟩) rfl (.string (⟨#[110]⟩ ++ strOfNums [48 + i]))).setCell (p := ⟨w.heap.size, 1, none⟩) rfl (.int .i64 r)).setCell (p := ⟨w.heap.size, 2, none⟩) rfl (.int .i64 (r + 2000 + q))) (fun k h => by omega)
  simp at e0 e1 e2
  exact bodyPost_ret (v := .agg #[.string (⟨#[110]⟩ ++ strOfNums [48 + i]), .int .i64 r, .int .i64 (r + 2000 + q)]) (by simp [results, Tryz.results57, go_sem, e0, e1, e2]) rfl ⟨⟨⟨#[110]⟩ ++ strOfNums [48 + i], r, r + 2000 + q⟩, rfl, by rw [ByteArray.size_append, z2]; simp [ByteArray.size], hs5, hk5⟩

theorem pipe_end {w w4 : World} {s : Nat} (hb : Blk w4 w.heap.size #[.int .i64 0, .int .i64 0, .int .i64 0, .int .i64 0, .int .i64 0] 54) (hk : Kept (· = s) w w4) (hs : Src 70 w4 s) (hsn : s < w.heap.size) (x0 x1 x2 x3 x4 : Int) :
    ∃ W, (((((w4.setCell ⟨w.heap.size, 0, none⟩ (.int .i64 x0)).setCell ⟨w.heap.size, 1, none⟩ (.int .i64 x1)).setCell ⟨w.heap.size, 2, none⟩ (.int .i64 x2)).setCell ⟨w.heap.size, 3, none⟩ (.int .i64 x3)).setCell ⟨w.heap.size, 4, none⟩ (.int .i64 x4)) = W ∧
      (W.cell? ⟨w.heap.size, 0, none⟩ = some (.int .i64 x0) ∧ W.cell? ⟨w.heap.size, 1, none⟩ = some (.int .i64 x1) ∧ W.cell? ⟨w.heap.size, 2, none⟩ = some (.int .i64 x2) ∧ W.cell? ⟨w.heap.size, 3, none⟩ = some (.int .i64 x3) ∧ W.cell? ⟨w.heap.size, 4, none⟩ = some (.int .i64 x4)) ∧
      Src 70 W s ∧ Kept (· = s) w W := by
  have hb5 := ((((hb.set 0 (.int .i64 x0)).set 1 (.int .i64 x1)).set 2 (.int .i64 x2)).set 3 (.int .i64 x3)).set 4 (.int .i64 x4)
  have e0 := hb5.cell 0 (by simp)
  have e1 := hb5.cell 1 (by simp)
  have e2 := hb5.cell 2 (by simp)
  have e3 := hb5.cell 3 (by simp)
  have e4 := hb5.cell 4 (by simp)
  simp at e0 e1 e2 e3 e4
  refine ⟨_, rfl, ⟨e0, e1, e2, e3, e4⟩, hs.kept (X := (· = w.heap.size)) ?_ (fun k h => ?_), ?_⟩
  · exact (((((Kept.refl (· = w.heap.size) w4).setCell (p := ⟨w.heap.size, 0, none⟩) rfl _).setCell (p := ⟨w.heap.size, 1, none⟩) rfl _).setCell (p := ⟨w.heap.size, 2, none⟩) rfl _).setCell (p := ⟨w.heap.size, 3, none⟩) rfl _).setCell (p := ⟨w.heap.size, 4, none⟩) rfl _
  · have := hs.lt
    have := hb.lt
    have := hk.size
    omega
  · exact ((((hk.setNew (p := ⟨w.heap.size, 0, none⟩) (Nat.le_refl _) _).setNew (p := ⟨w.heap.size, 1, none⟩) (Nat.le_refl _) _).setNew (p := ⟨w.heap.size, 2, none⟩) (Nat.le_refl _) _).setNew (p := ⟨w.heap.size, 3, none⟩) (Nat.le_refl _) _).setNew (p := ⟨w.heap.size, 4, none⟩) (Nat.le_refl _) _
set_option maxRecDepth 100000 in
theorem l02DrawPipe_any (s : Nat) (a b : Int) (w : World) (h : Src 70 w s) :
    Calls Tryz.prog 58 #[.pointer (some ⟨s, 0, none⟩), .int .i64 a, .int .i64 b] w fun e w' =>
      ∃ p : Pp, e = .returned (.agg #[.int .i64 p.fr, .int .i64 p.to, .int .i64 p.k, .int .i64 p.vol, .int .i64 p.lim]) ∧ Src 70 w' s ∧ Kept (· = s) w w' := by
  have hs := h.lt
  have hlt := h.lt
  have hsn : s ≠ w.heap.size := by omega
  have hW0 := (Kept.refl (· = s) w).alloc (.cells #[.int .i64 0, .int .i64 0, .int .i64 0, .int .i64 0, .int .i64 0] 54)
  have hbx := Blk.new w #[.int .i64 0, .int .i64 0, .int .i64 0, .int .i64 0, .int .i64 0] 54
  have h := h.alloc (.cells #[.int .i64 0, .int .i64 0, .int .i64 0, .int .i64 0, .int .i64 0] 54)
  go_enter Tryz.func58, Tryz.ntmps58
  go_wp2_with fail
  refine (l01Next_any s 2 _ (by omega) (by omega) h).mono ?_
  rintro e w1 ⟨r, rfl, r0, r1, hs1, hk1⟩
  have HK1 := hid (hW0.trans hk1)
  have HX1 := hid (hbx.kept hk1 (by omega))
  clear hW0 hbx hk1
  by_cases hr : r = 0
  all_goals
    go_wp2_with fail
    refine (l01Next_any s 9 _ (by omega) (by omega) hs1).mono ?_
    rintro e w2 ⟨q, rfl, q0, q1, hs2, hk2⟩
    have HK2 := hid (HK1.out.trans hk2)
    have HX2 := hid (HX1.out.kept hk2 (by omega))
    clear hk2 HK1 HX1
    go_wp2_with fail
    refine (l01Next_any s 100 _ (by omega) (by omega) hs2).mono ?_
    rintro e w3 ⟨v, rfl, v0, v1, hs3, hk3⟩
    have HK3 := hid (HK2.out.trans hk3)
    have HX3 := hid (HX2.out.kept hk3 (by omega))
    clear hk3 HK2 HX2
    go_wp2_with fail
    refine (l01Next_any s 200 _ (by omega) (by omega) hs3).mono ?_
    rintro e w4 ⟨u, rfl, u0, u1, hs4, hk4⟩
    have HK4 := hid (HK3.out.trans hk4)
    have hb4 := HX3.out.kept hk4 (by omega)
    have c0 := hb4.cell 0 (by simp)
    have c1 := hb4.cell 1 (by simp)
    have c2 := hb4.cell 2 (by simp)
    have c3 := hb4.cell 3 (by simp)
    have c4 := hb4.cell 4 (by simp)
    have f0 := hb4.frozen 0
    have f1 := hb4.frozen 1
    have f2 := hb4.frozen 2
    have f3 := hb4.frozen 3
    have f4 := hb4.frozen 4
    have HX4 := hid hb4
    have HS4 := hid hs4
    clear HK3 HX3 hk4 hb4 hs4
    go_wp2_with fail
  · obtain ⟨W, hW, ⟨e0, e1, e2, e3, e4⟩, hs5, hk5⟩ := pipe_end HX4.out HK4.out HS4.out hlt b a (1 + q) v (1 + u)
    rw [hW]
    exact bodyPost_ret (v := .agg #[.int .i64 b, .int .i64 a, .int .i64 (1 + q), .int .i64 v, .int .i64 (1 + u)]) (by simp [results, Tryz.results58, go_sem, e0, e1, e2, e3, e4]) rfl ⟨⟨b, a, 1 + q, v, 1 + u⟩, rfl, hs5, hk5⟩
  · obtain ⟨W, hW, ⟨e0, e1, e2, e3, e4⟩, hs5, hk5⟩ := pipe_end HX4.out HK4.out HS4.out hlt a b (1 + q) v (1 + u)
    rw [hW]
    exact bodyPost_ret (v := .agg #[.int .i64 a, .int .i64 b, .int .i64 (1 + q), .int .i64 v, .int .i64 (1 + u)]) (by simp [results, Tryz.results58, go_sem, e0, e1, e2, e3, e4]) rfl ⟨⟨a, b, 1 + q, v, 1 + u⟩, rfl, hs5, hk5⟩

end Go.Proofs.YtdbgncinaacheaaGreatDoor

namespace Go.Proofs.YtdbgncinaacheaaGreatDoor
open Go.RowKit

theorem rows_one {α : Type} {en : α → List Value} {sz : Nat} {w : World} {b : Nat} {x : α} {T : TypeId} (h : Blk w b (en x).toArray T) : RowsAt en sz w (.slice (some ⟨b, 0, none⟩) 1 1) [x] := by
  refine ⟨by simp, _, _, rfl, .inr ⟨b, 0, rfl, h.lt, fun i hi => ?_⟩⟩
  obtain rfl : i = 0 := by simpa using hi
  intro j hj
  have hj' : j < (en x).length := by simpa using hj
  have := h.cell j (by simpa using hj')
  simpa using this
theorem Kept.trans' {X Z : Nat → Prop} {a b c : World} (h : Kept X a b) (k : Kept Z b c) (hz : ∀ j, Z j → X j ∨ a.heap.size ≤ j) : Kept X a c :=
  ⟨k.os.trans h.os, k.tape.trans h.tape, k.output.trans h.output, Nat.le_trans h.size k.size, fun j hj hx => (k.block j (Nat.lt_of_lt_of_le hj h.size) (fun hz' => (hz j hz').elim hx (fun h => by omega))).trans (h.block j hj hx)⟩
/-- What l02Draw has drawn: nodes and pipes, each in a block of its own (or none). -/
structure Drn (B : Nat) (W : World) (nv pv : Value) (n : Net) : Prop where
  hn : OwnR encN 3 25 B W nv n.nodes
  hp : OwnR encP 5 54 B W pv n.pipes
  ap : ∀ b, nv.ownBlock = some b → pv.ownBlock ≠ some b
  ok : ∀ x ∈ n.nodes, x.name.size ≤ 100
theorem Drn.kept {B : Nat} {X : Nat → Prop} {w w' : World} {nv pv : Value} {n : Net} (h : Drn B w nv pv n) (hk : Kept X w w') (hX : ∀ b, B ≤ b → ¬ X b) : Drn B w' nv pv n :=
  ⟨h.hn.kept hk (fun b hb => hX b (h.hn.lt b hb).1), h.hp.kept hk (fun b hb => hX b (h.hp.lt b hb).1), h.ap, h.ok⟩
theorem Drn.below {B : Nat} {w w' : World} {nv pv : Value} {n : Net} (h : Drn B w nv pv n) (hb : Below w.heap.size w w') : Drn B w' nv pv n := ⟨h.hn.below hb, h.hp.below hb, h.ap, h.ok⟩
theorem Drn.lower {B B' : Nat} {w : World} {nv pv : Value} {n : Net} (h : Drn B w nv pv n) (hB : B' ≤ B) : Drn B' w nv pv n := ⟨h.hn.lower hB, h.hp.lower hB, h.ap, h.ok⟩
theorem Drn.apart {B : Nat} {w : World} {nv pv : Value} {n : Net} (h : Drn B w nv pv n) (h1 : n.nodes.length ≤ 1000) (h2 : n.pipes.length ≤ 1000) : NetApart B w.heap.size w nv pv n ∧ CapOk nv ∧ CapOk pv := by
  obtain ⟨r1, q1⟩ := h.hn.rows lenN (by omega)
  obtain ⟨r2, q2⟩ := h.hp.rows lenP (by omega)
  exact ⟨⟨_, _, fun b hb => hb.2, fun b hb => hb.2, fun b hb hb' => h.ap b hb.1 hb'.1, r1, fun x hx => by have := h.ok x hx; omega, r2⟩, q1, q2⟩
/-- One node more, one pipe more. -/
theorem Drn.addN {B : Nat} {w2 w3 : World} {nv pv v3 : Value} {n : Net} {x : Nd} {o : Obj} (h : Drn B w2 nv pv n) (hx : x.name.size ≤ 100) (h3 : OwnR encN 3 25 B w3 v3 (n.nodes ++ [x])) (k3 : Kept (fun b => nv.ownBlock = some b) (w2.alloc o) w3)
    (b3 : v3.ownBlock = nv.ownBlock ∨ v3.ownBlock = some (w2.heap.size + 1)) : Drn B w3 v3 pv ⟨n.nodes ++ [x], n.pipes⟩ :=
  ⟨h3, (h.hp.below (below_new w2 o)).kept k3 (fun b hb hb' => h.ap b hb' hb), fun b hb hb' => by
    rcases b3 with e | e
    · exact h.ap b (by rw [← e]; exact hb) hb'
    · rw [e] at hb
      have := (h.hp.lt b hb').2
      simp at hb
      omega, fun y hy => by
    rcases List.mem_append.1 hy with h1 | h1
    · exact h.ok y h1
    · simp at h1; subst h1; exact hx⟩
theorem Drn.addP {B : Nat} {w2 w3 : World} {nv pv v3 : Value} {n : Net} {x : Pp} {o : Obj} (h : Drn B w2 nv pv n) (h3 : OwnR encP 5 54 B w3 v3 (n.pipes ++ [x])) (k3 : Kept (fun b => pv.ownBlock = some b) (w2.alloc o) w3)
    (b3 : v3.ownBlock = pv.ownBlock ∨ v3.ownBlock = some (w2.heap.size + 1)) : Drn B w3 nv v3 ⟨n.nodes, n.pipes ++ [x]⟩ :=
  ⟨(h.hn.below (below_new w2 o)).kept k3 (fun b hb hb' => h.ap b hb hb'), h3, fun b hb hb' => by
    rcases b3 with e | e
    · exact h.ap b hb (by rw [← e]; exact hb')
    · rw [e] at hb'
      have := (h.hn.lt b hb).2
      simp at hb'
      omega, h.ok⟩
theorem net_end {w wr : World} {s : Nat} {nv pv : Value} {n : Net} (hb : Blk wr w.heap.size #[.slice none 0 0, .slice none 0 0] 34) (hk : Kept (· = s) w wr) (hs : Src 70 wr s) (hlt : s < w.heap.size) (hd : Drn (w.heap.size + 1) wr nv pv n) :
    ∃ W, ((wr.setCell ⟨w.heap.size, 0, none⟩ nv).setCell ⟨w.heap.size, 1, none⟩ pv) = W ∧ (W.cell? ⟨w.heap.size, 0, none⟩ = some nv ∧ W.cell? ⟨w.heap.size, 1, none⟩ = some pv) ∧ Drn (w.heap.size + 1) W nv pv n ∧ Src 70 W s ∧ Kept (· = s) w W := by
  have hb5 := (hb.set 0 nv).set 1 pv
  have e0 := hb5.cell 0 (by simp)
  have e1 := hb5.cell 1 (by simp)
  simp at e0 e1
  have hk2 := ((Kept.refl (· = w.heap.size) wr).setCell (p := ⟨w.heap.size, 0, none⟩) rfl nv).setCell (p := ⟨w.heap.size, 1, none⟩) rfl pv
  exact ⟨_, rfl, ⟨e0, e1⟩, hd.kept hk2 (fun b hb => by omega), hs.kept hk2 (fun k h => by omega), (hk.setNew (p := ⟨w.heap.size, 0, none⟩) (Nat.le_refl _) _).setNew (p := ⟨w.heap.size, 1, none⟩) (Nat.le_refl _) _⟩
def DrRel (w : World) (s : Nat) (C : Nat) (i nv pv : Value) (wr : World) : Prop :=
  ∃ (k : Nat) (n : Net), i = .int .i64 k ∧ k ≤ C ∧ Drn (w.heap.size + 1) wr nv pv n ∧ n.nodes.length = k ∧ n.pipes.length ≤ k ∧ Src 70 wr s ∧ Kept (· = s) w wr ∧ Blk wr w.heap.size #[.slice none 0 0, .slice none 0 0] 34
def DsRel (w : World) (s : Nat) (nv : Value) (xs : List Nd) (i pv : Value) (wr : World) : Prop :=
  ∃ (k : Nat) (n : Net), i = .int .i64 k ∧ k ≤ 2 ∧ Drn (w.heap.size + 1) wr nv pv n ∧ n.nodes = xs ∧ n.pipes.length + k ≤ 9 ∧ Src 70 wr s ∧ Kept (· = s) w wr ∧ Blk wr w.heap.size #[.slice none 0 0, .slice none 0 0] 34

set_option maxHeartbeats 1000000 in
set_option maxRecDepth 100000 in
theorem l02Draw_any (s : Nat) (w : World) (h : Src 70 w s) :
    Calls Tryz.prog 47 #[.pointer (some ⟨s, 0, none⟩)] w fun e w' =>
      ∃ nv pv n, e = .returned (.agg #[nv, pv]) ∧ Drn (w.heap.size + 1) w' nv pv n ∧ 1 ≤ n.nodes.length ∧ n.nodes.length ≤ 7 ∧ n.pipes.length ≤ 9 ∧ Src 70 w' s ∧ Kept (· = s) w w' := by
  have hlt := h.lt
  have hW0 := (Kept.refl (· = s) w).alloc (.cells #[.slice none 0 0, .slice none 0 0] 34)
  have hbx := Blk.new w #[.slice none 0 0, .slice none 0 0] 34
  have h := h.alloc (.cells #[.slice none 0 0, .slice none 0 0] 34)
  go_enter Tryz.func47, Tryz.ntmps47
  go_wp2_with fail
  refine (l01Next_any s 7 _ (by omega) (by omega) h).mono ?_
  rintro e w1 ⟨r, rfl, r0, r1, hs1, hk1⟩
  obtain ⟨C, rfl⟩ : ∃ C : Nat, r = C := ⟨r.toNat, by omega⟩
  have hC7 : C ≤ 6 := by omega
  have HK1 := hid (hW0.trans hk1)
  have HX1 := hid (hbx.kept hk1 (by omega))
  have HS1 := hid hs1
  have z1 := HX1.out.lt
  clear hW0 hbx hk1 h hs1 r0 r1
  go_wp2_with fail
  go_loopw [6, 4, 5] (fun i nv pv wr => DrRel w s (C + 1) i nv pv wr) (fun i _ _ _ => C + 1 - (intOf i).toNat)
  case atStart =>
    refine ⟨0, ⟨[], []⟩, rfl, by omega, ⟨OwnR.lit encN 3 ?_ ?_, OwnR.lit encP 5 ?_ ?_, fun b hb => ?_, by simp⟩, rfl, by simp, (HS1.out.alloc _).alloc _, (HK1.out.alloc _).alloc _, (HX1.out.below (below_new _ _)).below (below_new _ _)⟩
    · exact (Below.heap_alloc _ _ _ (by simp)).trans (heap_at2 _ _ _ rfl)
    · omega
    · exact heap_at2 _ _ _ (by simp)
    · omega
    · simp [Value.ownBlock] at hb ⊢; omega
  case round =>
    clear HK1 HX1 HS1
    obtain ⟨k, n, rfl, hk, hd, hn, hp, hs, hkk, hx⟩ := hrel
    have hw : w.heap.size < wr.heap.size := hx.lt
    by_cases hlt2 : k < C + 1
    · have hkI : (k : Int) < 1 + (C : Int) := by omega
      have HD := hid hd
      have HK := hid hkk
      have HX := hid hx
      clear hd hkk hx
      go_wp2_with fail
      refine (l02DrawNode_any s k _ (by omega) (by omega) hs).mono ?_
      rintro e w2 ⟨x, rfl, hx0, hs2, hk2⟩
      have HD2 := hid (HD.out.kept hk2 (fun b hb => by omega))
      have HK2 := hid (HK.out.trans hk2)
      have HX2 := hid (HX.out.kept hk2 (by omega))
      have z2 := hk2.size
      clear HD HK HX hk2
      go_wp2_with (at_builtin; refine wpList_appN rfl (.tmp 19) (.tmp 23) rfl (w.heap.size + 1) u4 (.slice (some ⟨w2.heap.size, 0, none⟩) 1 1) n.nodes [x] rfl rfl ?c1 ?c2 ?c3 ?c4 ?_)
      case c1 => exact HD2.out.hn.below (below_new _ _)
      case c2 => exact rows_one (Blk.new w2 (encN x).toArray 25)
      case c3 => simp; omega
      case c4 => simp; omega
      intro v3 w3 h3 k3 b3
      have hlo := HD2.out.hn.lt
      have HD3 := hid (HD2.out.addN hx0 h3 k3 b3)
      have hs3 := (hs2.alloc (.cells (encN x).toArray 25)).kept k3 (fun j hj => by have := (hlo j hj).1; omega)
      have HK3 := hid ((HK2.out.alloc (.cells (encN x).toArray 25)).trans' k3 (fun j hj => Or.inr (by have := (hlo j hj).1; omega)))
      have HX3 := hid ((HX2.out.below (below_new _ (.cells (encN x).toArray 25))).kept k3 (fun hj => by have := (hlo _ hj).1; omega))
      have hl3 : (n.nodes ++ [x]).length = k + 1 := by simp; omega
      clear HD2 HK2 HX2 h3 k3 b3 hlo
      have ROUND : Hid (∀ (v : Value) (W : World) (m : Net), Drn (w.heap.size + 1) W v3 v m → m.nodes.length = k + 1 → m.pipes.length ≤ k + 1 → Src 70 W s → Kept (· = s) w W → Blk W w.heap.size #[.slice none 0 0, .slice none 0 0] 34 → DrRel w s (C + 1) (.int .i64 ((k : Int) + 1)) v3 v W) :=
        fun v W m h1 h2 h3 h4 h5 h6 => ⟨k + 1, m, by go_num, by omega, h1, h2, h3, h4, h5, h6⟩
      by_cases hk0 : k = 0
      · subst hk0
        have hk0 : ¬ (0 < ((0 : Nat) : Int)) := by omega
        go_wp2_with fail
        go_roundw
        case rel => exact ROUND.out _ _ _ HD3.out hl3 (by simp only; omega) hs3 HK3.out HX3.out
        case measure => first | (simp [intOf]; done) | (simp [intOf]; omega)
      have hk0' : 0 < (k : Int) := by omega
      go_wp2_with fail
      refine (l01Next_any s 16 _ (by omega) (by omega) hs3).mono ?_
      rintro e w4 ⟨q, rfl, q0, q1, hs4, hk4⟩
      have HD4 := hid (HD3.out.kept hk4 (fun b hb => by omega))
      have HK4 := hid (HK3.out.trans hk4)
      have HX4 := hid (HX3.out.kept hk4 (by omega))
      clear HD3 HK3 HX3 hk4
      by_cases hq : 0 < q
      case neg =>
        go_wp2_with fail
        go_roundw
        case rel => exact ROUND.out _ _ _ HD4.out hl3 (by simp only; omega) hs4 HK4.out HX4.out
        case measure => simp [intOf]; omega
      go_wp2_with fail
      refine (l01Next_gen s k _ (by omega) hs4).mono ?_
      rintro e w5 ⟨y, rfl, y0, y1, hs5, hk5⟩
      have HD5 := hid (HD4.out.kept hk5 (fun b hb => by omega))
      have HK5 := hid (HK4.out.trans hk5)
      have HX5 := hid (HX4.out.kept hk5 (by omega))
      clear HD4 HK4 HX4 hk5
      go_wp2_with fail
      refine (l02DrawPipe_any s y k _ hs5).mono ?_
      rintro e w6 ⟨p, rfl, hs6, hk6⟩
      have HD6 := hid (HD5.out.kept hk6 (fun b hb => by omega))
      have HK6 := hid (HK5.out.trans hk6)
      have HX6 := hid (HX5.out.kept hk6 (by omega))
      have z6 := HX6.out.lt
      clear HD5 HK5 HX5 hk6
      go_wp2_with (at_builtin; refine wpList_appP rfl (.tmp 32) (.tmp 39) rfl (w.heap.size + 1) u5 (.slice (some ⟨w6.heap.size, 0, none⟩) 1 1) n.pipes [p] rfl rfl ?c1 ?c2 ?c3 ?c4 ?_)
      case c1 => exact HD6.out.hp.below (below_new _ _)
      case c2 => exact rows_one (Blk.new w6 (encP p).toArray 54)
      case c3 => simp; omega
      case c4 => simp; omega
      intro v7 w7 h7 k7 b7
      have hlo := HD6.out.hp.lt
      have HD7 := hid (HD6.out.addP h7 k7 b7)
      have hs7 := (hs6.alloc (.cells (encP p).toArray 54)).kept k7 (fun j hj => by have := (hlo j hj).1; omega)
      have HK7 := hid ((HK6.out.alloc (.cells (encP p).toArray 54)).trans' k7 (fun j hj => Or.inr (by have := (hlo j hj).1; omega)))
      have HX7 := hid ((HX6.out.below (below_new _ (.cells (encP p).toArray 54))).kept k7 (fun hj => by have := (hlo _ hj).1; omega))
      clear HD6 HK6 HX6 h7 k7 b7 hlo
      go_wp2_with fail
      go_roundw
      case rel => exact ROUND.out _ _ _ HD7.out hl3 (by simp; omega) hs7 HK7.out HX7.out
      case measure => simp [intOf]; omega
    · obtain rfl : k = C + 1 := by omega
      have hkI : ¬ (((C + 1 : Nat) : Int) < 1 + (C : Int)) := by omega
      have HD := hid hd
      have HK := hid hkk
      have HX := hid hx
      clear hd hkk hx
      go_wp2_with fail
      refine (l01Next_any s 3 _ (by omega) (by omega) hs).mono ?_
      rintro e w2 ⟨t, rfl, t0, t1, hs2, hk2⟩
      obtain ⟨T, rfl⟩ : ∃ T : Nat, t = T := ⟨t.toNat, by omega⟩
      have HD2 := hid (HD.out.kept hk2 (fun b hb => by omega))
      have HK2 := hid (HK.out.trans hk2)
      have HX2 := hid (HX.out.kept hk2 (by omega))
      have HS2 := hid hs2
      clear HD HK HX hk2 hs hs2
      have hT : T ≤ 2 := by omega
      go_wp2_with fail
      go_loopw [7, 5] (fun i pv wr => DsRel w s u4 n.nodes i pv wr) (fun i _ _ => (intOf i).toNat)
      case atStart => exact ⟨T, n, rfl, hT, HD2.out, rfl, by omega, HS2.out, HK2.out, HX2.out⟩
      case round =>
        clear HD2 HK2 HX2 HS2 hT t0 t1
        obtain ⟨j, m, rfl, hj, hd, hmn, hp2, hs, hkk, hx⟩ := hrel
        have hw2 : w.heap.size < wr.heap.size := hx.lt
        have hml : Hid (m.nodes.length = C + 1) := by rw [hmn]; exact hn
        have HD := hid hd
        have HK := hid hkk
        have HX := hid hx
        have HM := hid hmn
        clear hd hkk hx hmn
        have c0 := HX.out.cell 0 (by simp)
        have c1 := HX.out.cell 1 (by simp)
        have f0 := HX.out.frozen 0
        have f1 := HX.out.frozen 1
        obtain ⟨an, cn, hne, _⟩ := HD.out.hn.shape lenN
        obtain ⟨ap, cp, hpe, _⟩ := HD.out.hp.shape lenP
        by_cases hj0 : 0 < j
        case neg =>
          obtain rfl : j = 0 := by omega
          have hj0 : ¬ (0 < ((0 : Nat) : Int)) := by omega
          subst hne hpe
          go_wp2_with fail
          obtain ⟨W, hW, ⟨e0, e1⟩, hd5, hs5, hk5⟩ := net_end HX.out HK.out hs hlt HD.out
          rw [hW]
          have hml := hml.out
          exact bodyPost_ret (v := .agg #[.slice an m.nodes.length cn, .slice ap m.pipes.length cp]) (by simp [results, Tryz.results47, go_sem, e0, e1]) rfl ⟨_, _, rfl, m, hd5, by omega, by omega, by omega, hs5, hk5⟩
        have hj0' : 0 < (j : Int) := by omega
        by_cases hC0 : C = 0
        · subst hC0
          have hc : ¬ (1 < (1 + ((0 : Nat) : Int))) := by omega
          subst hne hpe
          go_wp2_with fail
          obtain ⟨W, hW, ⟨e0, e1⟩, hd5, hs5, hk5⟩ := net_end HX.out HK.out hs hlt HD.out
          rw [hW]
          have hml := hml.out
          exact bodyPost_ret (v := .agg #[.slice an m.nodes.length cn, .slice ap m.pipes.length cp]) (by simp [results, Tryz.results47, go_sem, e0, e1]) rfl ⟨_, _, rfl, m, hd5, by omega, by omega, by omega, hs5, hk5⟩
        have hc : 1 < 1 + (C : Int) := by omega
        clear c0 c1 f0 f1 hne hpe
        go_wp2_with fail
        refine (l01Next_any s (1 + (C : Int)) _ (by omega) (by omega) hs).mono ?_
        rintro e w3 ⟨a, rfl, a0, a1, hs3, hk3⟩
        have HD3 := hid (HD.out.kept hk3 (fun b hb => by omega))
        have HK3 := hid (HK.out.trans hk3)
        have HX3 := hid (HX.out.kept hk3 (by omega))
        clear HD HK HX hk3
        go_wp2_with fail
        refine (l01Next_gen s (1 + (C : Int) - 1) _ (by omega) hs3).mono ?_
        rintro e w4 ⟨b, rfl, b0, b1, hs4, hk4⟩
        have HD4 := hid (HD3.out.kept hk4 (fun b hb => by omega))
        have HK4 := hid (HK3.out.trans hk4)
        have HX4 := hid (HX3.out.kept hk4 (by omega))
        clear HD3 HK3 HX3 hk4
        go_wp2_with fail
        refine (l02DrawPipe_any s a _ _ hs4).mono ?_
        rintro e w6 ⟨p, rfl, hs6, hk6⟩
        have HD6 := hid (HD4.out.kept hk6 (fun b hb => by omega))
        have HK6 := hid (HK4.out.trans hk6)
        have HX6 := hid (HX4.out.kept hk6 (by omega))
        have z6 := HX6.out.lt
        clear HD4 HK4 HX4 hk6
        go_wp2_with (at_builtin; refine wpList_appP rfl (.tmp 54) (.tmp 67) rfl (w.heap.size + 1) u5 (.slice (some ⟨w6.heap.size, 0, none⟩) 1 1) m.pipes [p] rfl rfl ?c1 ?c2 ?c3 ?c4 ?_)
        case c1 => exact HD6.out.hp.below (below_new _ _)
        case c2 => exact rows_one (Blk.new w6 (encP p).toArray 54)
        case c3 => simp; omega
        case c4 => simp; omega
        intro v7 w7 h7 k7 b7
        have hlo := HD6.out.hp.lt
        have HD7 := hid (HD6.out.addP h7 k7 b7)
        have hs7 := (hs6.alloc (.cells (encP p).toArray 54)).kept k7 (fun j hj => by have := (hlo j hj).1; omega)
        have HK7 := hid ((HK6.out.alloc (.cells (encP p).toArray 54)).trans' k7 (fun j hj => Or.inr (by have := (hlo j hj).1; omega)))
        have HX7 := hid ((HX6.out.below (below_new _ (.cells (encP p).toArray 54))).kept k7 (fun hj => by have := (hlo _ hj).1; omega))
        clear HD6 HK6 HX6 h7 k7 b7 hlo
        go_wp2_with fail
        go_roundw
        case rel => exact ⟨j - 1, _, by go_num, by omega, HD7.out, HM.out, by simp; omega, hs7, HK7.out, HX7.out⟩
        case measure => simp [intOf]; omega

end Go.Proofs.YtdbgncinaacheaaGreatDoor
