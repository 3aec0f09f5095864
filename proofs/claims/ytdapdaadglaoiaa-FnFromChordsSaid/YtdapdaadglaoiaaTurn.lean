/- TurnPipe and RenameNode of both sides. A drawn region's condition may be made stronger on the way. -/
import Derived.Test.YtdapdaadglaoiaaDrW
import Derived.Test.YtdapdaadglaoiaaPipesAt
import Derived.Test.YtdapdaadglaoiaaBase
import Derived.Deep.RegionHeld3
namespace Go.Proofs.Ytdapdaadglaoiaa
open Go.RowKit

/-- What a function says that returns a network of its own and a code. -/
def OutN (w : World) (p : Net × Int) (e : Ending) (w' : World) : Prop :=
  ∃ nv pv, e = .returned (.tuple #[.agg #[nv, pv], .int .i64 p.2]) ∧ NetApart w.heap.size w'.heap.size w' nv pv p.1 ∧ (CapOk nv ∧ CapOk pv) ∧ Below w.heap.size w w'
def zNet : Net := ⟨[], []⟩
theorem NetApart.zero (B H : Nat) (w : World) : NetApart B H w (.slice none 0 0) (.slice none 0 0) zNet :=
  ⟨fun _ => False, fun _ => False, fun _ h => h.elim, fun _ h => h.elim, fun _ h => h.elim, RowsOwn.nil _ _ _ _, fun x h => by simp [zNet] at h, RowsOwn.nil _ _ _ _⟩
def turnP (p : Pp) : Pp := ⟨p.to, p.fr, p.k, p.vol, p.lim⟩
def turnN (n : Net) (k : Nat) : Net := ⟨n.nodes, n.pipes.set k (turnP (n.pipes.getD k zP))⟩
def tpR (n : Net) (x : Int) : Net × Int := if codeOf n n.pipes.length x = 0 then (turnN n x.toNat, 0) else (zNet, codeOf n n.pipes.length x)
theorem tpR_len (n : Net) (x : Int) (h1 : n.nodes.length ≤ 2000000) (h2 : n.pipes.length ≤ 2000000) : (tpR n x).1.nodes.length ≤ 2000000 ∧ (tpR n x).1.pipes.length ≤ 2000000 := by
  unfold tpR
  split
  · exact ⟨h1, by simpa [turnN] using h2⟩
  · simp [zNet]
theorem codeOf_zero {n : Net} {m : Nat} {x : Int} (h : codeOf n m x = 0) : netB n = true ∧ 0 ≤ x ∧ x < m := by
  unfold codeOf at h
  split at h
  · next hb =>
    split at h
    · next hx => have := inB_t hx; exact ⟨hb, by omega, by omega⟩
    · cases h
  · cases h
theorem RowsOwn.setP2 {X : Nat → Prop} {w : World} {b off n cap : Nat} {xs : List Pp} (h : RowsOwn encP 5 X w (.slice (some ⟨b, off, none⟩) n cap) xs) (i : Nat) (hi : i < xs.length) :
    RowsOwn encP 5 X ((w.setCell ⟨b, off + i * 5, none⟩ (.int .i64 xs[i].to)).setCell ⟨b, off + i * 5 + 1, none⟩ (.int .i64 xs[i].fr)) (.slice (some ⟨b, off, none⟩) n cap) (xs.set i (turnP xs[i])) := by
  obtain ⟨b', off', ha, hl, hx, hfr, hcc⟩ := h.at' (by omega)
  simp only [Option.some.injEq, Addr.mk.injEq, and_true] at ha
  obtain ⟨rfl, rfl⟩ := ha
  obtain ⟨c0, c1, c2, c3, c4⟩ := cellsP (hcc i hi)
  refine h.set_of (fun _ => rfl) i hi _ (cellsP_mk ?_ ?_ ?_ ?_ ?_) (fun o ho => ?_) (fun o => by simp) (by simp)
  · rw [cell_set_ne (by omega), cell_set_same c0]; rfl
  · rw [cell_set_same (by rw [cell_set_ne (by omega)]; exact c1)]; rfl
  · rw [cell_set_ne (by omega), cell_set_ne (by omega)]; exact c2
  · rw [cell_set_ne (by omega), cell_set_ne (by omega)]; exact c3
  · rw [cell_set_ne (by omega), cell_set_ne (by omega)]; exact c4
  · rw [cell_set_ne (by omega), cell_set_ne (by omega)]
theorem RowsOwn.setName {X : Nat → Prop} {w : World} {b off n cap : Nat} {xs : List Nd} (h : RowsOwn encN 3 X w (.slice (some ⟨b, off, none⟩) n cap) xs) (i : Nat) (hi : i < xs.length) (s : ByteArray) :
    RowsOwn encN 3 X (w.setCell ⟨b, off + i * 3, none⟩ (.string s)) (.slice (some ⟨b, off, none⟩) n cap) (xs.set i ⟨s, xs[i].low, xs[i].high⟩) := by
  obtain ⟨b', off', ha, hl, hx, hfr, hcc⟩ := h.at' (by omega)
  simp only [Option.some.injEq, Addr.mk.injEq, and_true] at ha
  obtain ⟨rfl, rfl⟩ := ha
  obtain ⟨c0, c1, c2⟩ := cellsN (hcc i hi)
  refine h.set_of (fun _ => rfl) i hi _ (cellsN_mk ?_ ?_ ?_) (fun o ho => ?_) (fun o => by simp) (by simp)
  · rw [cell_set_same c0]
  · rw [cell_set_ne (by omega)]; exact c1
  · rw [cell_set_ne (by omega)]; exact c2
  · rw [cell_set_ne (by omega)]

theorem cell_ne_block {w : World} {b b' : Nat} (h : b ≠ b') (o o' : Nat) (u : Value) : (w.setCell ⟨b, o, none⟩ u).cell? ⟨b', o', none⟩ = w.cell? ⟨b', o', none⟩ := cell_off2 (Or.inl h)
theorem box_two_set {w : World} {r : Nat} {x y x' y' : Value} (h0 : w.cell? ⟨r, 0, none⟩ = some x') (h1 : w.cell? ⟨r, 1, none⟩ = some y') : Box ((w.setCell ⟨r, 0, none⟩ x).setCell ⟨r, 1, none⟩ y) r [x, y] := by
  refine ⟨by simpa using World.block_lt_of_cell? (a := ⟨r, 0, none⟩) w h0, fun j hj => ?_⟩
  have hj' : j < 2 := by simpa using hj
  rcases (by omega : j = 0 ∨ j = 1) with rfl | rfl
  · exact (cell_off2 (Or.inr (by decide))).trans (World.cell?_setCell_same _ _ _ h0)
  · exact World.cell?_setCell_same _ _ _ ((cell_off2 (Or.inr (by decide))).trans h1)
/-- Two new blocks of two cells, in all later worlds. -/
theorem two_boxes {w W0 W : World} {x y x' y' : Value} {T T' : TypeId} (hW0 : W0 = (w.alloc (.cells #[x, y] T)).alloc (.cells #[x', y'] T')) (hW : Below W0.heap.size W0 W) :
    W.cell? ⟨w.heap.size, 0, none⟩ = some x ∧ W.cell? ⟨w.heap.size, 1, none⟩ = some y ∧ W.cell? ⟨w.heap.size + 1, 0, none⟩ = some x' ∧ W.cell? ⟨w.heap.size + 1, 1, none⟩ = some y' ∧ W.frozen? ⟨w.heap.size + 1, 0, none⟩ = false ∧ W.frozen? ⟨w.heap.size + 1, 1, none⟩ = false := by
  have hsz : W0.heap.size = w.heap.size + 1 + 1 := by rw [hW0]; simp
  rw [hsz] at hW
  have h1 : Below (w.heap.size + 1) (w.alloc (.cells #[x, y] T)) W := by
    have hn := below_new (w.alloc (.cells #[x, y] T)) (.cells #[x', y'] T')
    rw [World.size_alloc] at hn
    rw [hW0] at hW
    exact hn.trans (hW.mono (by omega))
  have e1 := box2_below h1
  rw [hW0] at hW
  rw [← World.size_alloc w (.cells #[x, y] T)] at hW
  have e2 := box2_below hW
  rw [World.size_alloc] at e2
  exact ⟨e1.1, e1.2.1, e2.1, e2.2.1, e2.2.2 0, e2.2.2 1⟩

set_option maxHeartbeats 1000000 in
set_option maxRecDepth 100000 in
theorem impl_TurnPipe_any (nv pv : Value) (n : Net) (x : Int) (w : World) (h : NetAt w nv pv n) (hcap : CapOk nv) :
    Calls Try.prog 63 #[.agg #[nv, pv], .int .i64 x] w (OutN w (tpR n x)) := by
  obtain ⟨a0, k0, rfl⟩ := h.1.shape
  obtain ⟨a1, k1, rfl⟩ := h.2.2.shape
  have hl2 := h.2.2.1
  obtain ⟨W0, hW0⟩ : ∃ W0, W0 = (w.alloc (.cells #[.slice a0 n.nodes.length k0, .slice a1 n.pipes.length k1] 27)).alloc (.cells #[.slice none 0 0, .slice none 0 0] 27) := ⟨_, rfl⟩
  have hWb : Below w.heap.size w W0 := by rw [hW0]; exact (below_new w _).alloc (by simp) _
  have hsz : W0.heap.size = w.heap.size + 1 + 1 := by rw [hW0]; simp
  have HC : Hid (∀ W, Below W0.heap.size W0 W → _) := fun W hW => two_boxes hW0 hW
  have HN : Hid (∀ W, Below W0.heap.size W0 W → NetAt W (.slice a0 n.nodes.length k0) (.slice a1 n.pipes.length k1) n) := fun W hW => (h.below hWb).below hW
  obtain ⟨c0, c1, r0, r1, f0, f1⟩ := HC.out W0 (Below.refl _ _)
  have HW := hid hWb
  clear h hWb
  go_enter Try.func63, Try.ntmps63
  go_wp2_with fail
  rw [← hW0]
  have HW0 := hid hW0
  clear hW0
  refine (impl_IsNetwork_any _ _ n _ (HN.out _ (Below.refl _ _)) hcap).mono ?_
  cases hb : netB n
  · have hr : Hid (tpR n x = (zNet, 1)) := by simp [Hid, tpR, codeOf, hb]
    rintro e w1 ⟨rfl, b1⟩
    obtain ⟨d0, d1, r0', r1', f0', f1'⟩ := HC.out _ b1
    have HB := hid (HW.out.trans (b1.mono HW.out.size))
    have z1 := b1.size
    clear b1 c0 c1 r0 r1 f0 f1
    go_wp2_with fail
    refine bodyPost_ret (v := .tuple #[.agg #[.slice none 0 0, .slice none 0 0], .int .i64 1]) (by simp [results, Try.results63, go_sem, r0', r1']) rfl ?_
    rw [hr.out]
    exact ⟨_, _, rfl, NetApart.zero _ _ _, ⟨CapOk.mk (Nat.le_refl _), CapOk.mk (Nat.le_refl _)⟩, HB.out.trans ((kept_two _ _ _).below HB.out.size (fun b hb => by omega))⟩
  have hnl := netB_t hb
  rintro e w1 ⟨rfl, b1⟩
  obtain ⟨d0, d1, r0', r1', f0', f1'⟩ := HC.out _ b1
  clear c0 c1 r0 r1 f0 f1
  go_wp2_with fail
  refine (isPipeOf_alloc _ _ n.pipes.length x _ hl2 ⟨_, _, _, rfl⟩ ⟨_, _, rfl⟩).mono ?_
  cases hx : inB x 0 ((n.pipes.length : Int) - 1)
  · have hr : Hid (tpR n x = (zNet, 2)) := by simp [Hid, tpR, codeOf, hb, hx]
    rintro e w2 ⟨rfl, hw2⟩
    have b2 : Below W0.heap.size W0 w2 := b1.trans (by rw [hw2]; exact (below_new w1 _).mono b1.size)
    obtain ⟨c0, c1, r0, r1, f0, f1⟩ := HC.out _ b2
    have HB := hid (HW.out.trans (b2.mono HW.out.size))
    clear b1 b2 d0 d1 r0' r1' f0' f1' hw2
    go_wp2_with fail
    refine bodyPost_ret (v := .tuple #[.agg #[.slice none 0 0, .slice none 0 0], .int .i64 2]) (by simp [results, Try.results63, go_sem, r0, r1]) rfl ?_
    rw [hr.out]
    exact ⟨_, _, rfl, NetApart.zero _ _ _, ⟨CapOk.mk (Nat.le_refl _), CapOk.mk (Nat.le_refl _)⟩, HB.out.trans ((kept_two _ _ _).below HB.out.size (fun b hb => by omega))⟩
  have hxr := inB_t hx
  obtain ⟨k, rfl⟩ : ∃ k : Nat, x = k := ⟨x.toNat, by omega⟩
  have hk : k < n.pipes.length := by omega
  have hr : Hid (tpR n k = (turnN n k, 0)) := by simp [Hid, tpR, codeOf, hb, hx]
  rintro e w2 ⟨rfl, hw2⟩
  have b2 : Below W0.heap.size W0 w2 := b1.trans (by rw [hw2]; exact (below_new w1 _).mono b1.size)
  obtain ⟨c0, c1, r0, r1, f0, f1⟩ := HC.out _ b2
  clear d0 d1 r0' r1' f0' f1' hw2 b1
  go_wp2_with fail
  refine (cloneNetwork_any _ _ n _ (HN.out _ b2) (by omega) (by omega)).mono ?_
  rintro e w3 ⟨nv', pv', rfl, oo, ⟨q0, q1⟩, b3⟩
  have B3 := b2.trans (b3.mono b2.size)
  obtain ⟨d0, d1, r0', r1', f0', f1'⟩ := HC.out _ B3
  obtain ⟨X, Y, hX, hY, hd, oN, hok, oP⟩ := oo
  obtain ⟨aN, cN, rfl⟩ := oN.at.shape
  obtain ⟨aP, cP, rfl⟩ := oP.at.shape
  obtain ⟨pb, po, rfl, hpl, hYp, hpf, hpc⟩ := oP.at' (by omega)
  obtain ⟨x0, x1, _, _, _⟩ := cellsP (hpc k hk)
  have p0 := hpf (po + k * 5)
  have p1 := hpf (po + k * 5 + 1)
  have z2 := b2.size
  have z3 := b3.size
  have HB := hid (HW.out.trans (B3.mono HW.out.size))
  have hyb := hY pb hYp
  have HON := hid oN
  have HOP := hid oP
  have hkI : (k : Int) < n.pipes.length := by omega
  clear c0 c1 r0 r1 f0 f1 b2 b3 B3 oN oP hpc hpf hx hxr
  go_wp2_with fail
  obtain ⟨W4, hW4⟩ : ∃ W4, W4 = w3.alloc (.cells #[.slice aN n.nodes.length cN, .slice (some ⟨pb, po, none⟩) n.pipes.length cP] 27) := ⟨_, rfl⟩
  have b4 : Below w3.heap.size w3 W4 := by rw [hW4]; exact below_new _ _
  have hbo : Box W4 w3.heap.size [.slice aN n.nodes.length cN, .slice (some ⟨pb, po, none⟩) n.pipes.length cP] := by rw [hW4]; exact Box.new _ _ _
  rw [← hW4]
  have x0 := (b4.cell (p := ⟨pb, po + k * 5, none⟩) hpl).trans x0
  have x1 := (b4.cell (p := ⟨pb, po + k * 5 + 1, none⟩) hpl).trans x1
  have p0 := (b4.frozen (p := ⟨pb, po + k * 5, none⟩) hpl).trans p0
  have p1 := (b4.frozen (p := ⟨pb, po + k * 5 + 1, none⟩) hpl).trans p1
  have y1 : (W4.setCell ⟨pb, po + k * 5, none⟩ (.int .i64 n.pipes[k].to)).cell? ⟨pb, po + k * 5 + 1, none⟩ = some (.int .i64 n.pipes[k].to) := (cell_set_ne (by omega)).trans x1
  obtain ⟨o0, o1⟩ := hbo.two
  have hrl : w.heap.size + 1 < w3.heap.size := by omega
  have g0 := (b4.cell (p := ⟨w.heap.size + 1, 0, none⟩) hrl).trans r0'
  have g1 := (b4.cell (p := ⟨w.heap.size + 1, 1, none⟩) hrl).trans r1'
  have u0 := (b4.frozen (p := ⟨w.heap.size + 1, 0, none⟩) hrl).trans f0'
  have u1 := (b4.frozen (p := ⟨w.heap.size + 1, 1, none⟩) hrl).trans f1'
  have HB4 := hid (HB.out.trans (b4.mono HB.out.size))
  have HON4 := hid (HON.out.below b4)
  have HOP4 := hid (HOP.out.below b4)
  have hbl := hbo.1
  clear hW4 b4 r0' r1' f0' f1' d0 d1 hbo
  go_region
  all_goals
    go_wp2_with fail
    have HT : Hid (turnN n k = ⟨n.nodes, n.pipes.set k (turnP n.pipes[k])⟩) := by simp [Hid, turnN, List.getD, hk]
    have K1 : Kept (fun b => b = pb) W4 ((W4.setCell ⟨pb, po + k * 5, none⟩ (.int .i64 n.pipes[k].to)).setCell ⟨pb, po + k * 5 + 1, none⟩ (.int .i64 n.pipes[k].fr)) :=
      ((Kept.refl (fun b => b = pb) W4).setCell (p := ⟨pb, po + k * 5, none⟩) rfl _).setCell (p := ⟨pb, po + k * 5 + 1, none⟩) rfl _
    have K2 := (kept_two (w := (W4.setCell ⟨pb, po + k * 5, none⟩ (.int .i64 n.pipes[k].to)).setCell ⟨pb, po + k * 5 + 1, none⟩ (.int .i64 n.pipes[k].fr)) (w.heap.size + 1) (.slice aN n.nodes.length cN) (.slice (some ⟨pb, po, none⟩) n.pipes.length cP)).drew
    have z4 := HB4.out.size
    refine bodyPost_ret (v := .tuple #[.agg #[.slice aN n.nodes.length cN, .slice (some ⟨pb, po, none⟩) n.pipes.length cP], .int .i64 0]) (by simp [results, Try.results63, go_sem, g0, g1, cell_ne_block (show pb ≠ w.heap.size + 1 by omega)]) rfl ?_
    rw [hr.out, HT.out]
    refine ⟨_, _, rfl, ⟨X, Y, fun b hb => ⟨by have := hX b hb; omega, by have := hX b hb; simp only [World.size_drew, World.size_setCell]; omega⟩, fun b hb => ⟨by have := hY b hb; omega, by have := hY b hb; simp only [World.size_drew, World.size_setCell]; omega⟩, hd, ?_, hok, ?_⟩, ⟨q0, q1⟩, HB4.out.trans ((K1.below z4 (fun b hb => by omega)).trans (K2.below (by simpa using z4) (fun b hb => by omega)))⟩
    · exact (HON4.out.kept K1 (fun b _ hb e => hd b hb (by rw [e]; exact hYp))).kept K2 (fun b _ hb e => by have := hX b hb; omega)
    · exact (HOP4.out.setP2 k hk).kept K2 (fun b _ hb e => by have := hY b hb; omega)

set_option maxHeartbeats 1000000 in
set_option maxRecDepth 100000 in
theorem spec_TurnPipe_any (nv pv : Value) (n : Net) (x : Int) (w : World) (h : NetAt w nv pv n) :
    Calls Try.prog 64 #[.agg #[nv, pv], .int .i64 x] w (OutN w (tpR n x)) := by
  obtain ⟨a0, k0, rfl⟩ := h.1.shape
  obtain ⟨a1, k1, rfl⟩ := h.2.2.shape
  have hl2 := h.2.2.1
  obtain ⟨W0, hW0⟩ : ∃ W0, W0 = (w.alloc (.cells #[.slice a0 n.nodes.length k0, .slice a1 n.pipes.length k1] 27)).alloc (.cells #[.slice none 0 0, .slice none 0 0] 27) := ⟨_, rfl⟩
  have hWb : Below w.heap.size w W0 := by rw [hW0]; exact (below_new w _).alloc (by simp) _
  have hsz : W0.heap.size = w.heap.size + 1 + 1 := by rw [hW0]; simp
  have HC : Hid (∀ W, Below W0.heap.size W0 W → _) := fun W hW => two_boxes hW0 hW
  have HN : Hid (∀ W, Below W0.heap.size W0 W → NetAt W (.slice a0 n.nodes.length k0) (.slice a1 n.pipes.length k1) n) := fun W hW => (h.below hWb).below hW
  obtain ⟨c0, c1, r0, r1, f0, f1⟩ := HC.out W0 (Below.refl _ _)
  have HW := hid hWb
  clear h hWb
  go_enter Try.func64, Try.ntmps64
  go_wp2_with fail
  rw [← hW0]
  have HW0 := hid hW0
  clear hW0
  refine (l02PipeCode_any _ _ n x _ (HN.out _ (Below.refl _ _))).mono ?_
  by_cases hc : codeOf n n.pipes.length x = 0
  case neg =>
    have hr : Hid (tpR n x = (zNet, codeOf n n.pipes.length x)) := by simp [Hid, tpR, hc]
    obtain ⟨c, hcc⟩ : ∃ c, codeOf n n.pipes.length x = c := ⟨_, rfl⟩
    rw [hcc] at hr hc ⊢
    have hc' : (c != 0) = true := by simpa using hc
    rintro e w1 ⟨rfl, b1⟩
    obtain ⟨d0, d1, r0', r1', f0', f1'⟩ := HC.out _ b1
    have HB := hid (HW.out.trans (b1.mono HW.out.size))
    clear b1 c0 c1 r0 r1 f0 f1 hcc
    go_wp2_with fail
    refine bodyPost_ret (v := .tuple #[.agg #[.slice none 0 0, .slice none 0 0], .int .i64 c]) (by simp [results, Try.results64, go_sem, r0', r1']) rfl ?_
    rw [hr.out]
    exact ⟨_, _, rfl, NetApart.zero _ _ _, ⟨CapOk.mk (Nat.le_refl _), CapOk.mk (Nat.le_refl _)⟩, HB.out.trans ((kept_two _ _ _).below HB.out.size (fun b hb => by omega))⟩
  obtain ⟨hb, hx0, hx1⟩ := codeOf_zero hc
  have hnl := netB_t hb
  obtain ⟨k, rfl⟩ : ∃ k : Nat, x = k := ⟨x.toNat, by omega⟩
  have hk : k < n.pipes.length := by omega
  have hr : Hid (tpR n k = (turnN n k, 0)) := by simp [Hid, tpR, hc]
  rw [hc]
  rintro e w2 ⟨rfl, b2⟩
  obtain ⟨d0, d1, r0', r1', f0', f1'⟩ := HC.out _ b2
  clear c0 c1 r0 r1 f0 f1
  go_wp2_with fail
  refine (l02Own_any _ _ n _ (HN.out _ b2) (by omega) (by omega)).mono ?_
  clear d0 d1 r0' r1' f0' f1'
  rintro e w3 ⟨nv', pv', rfl, oo, ⟨q0, q1⟩, b3⟩
  have B3 := b2.trans (b3.mono b2.size)
  obtain ⟨X, Y, hX, hY, hd, oN, hok, oP⟩ := oo
  obtain ⟨aN, cN, rfl⟩ := oN.at.shape
  obtain ⟨aP, cP, rfl⟩ := oP.at.shape
  obtain ⟨pb, po, rfl, hpl, hYp, hpf, hpc⟩ := oP.at' (by omega)
  have z2 := b2.size
  have z3 := b3.size
  obtain ⟨d0, d1, r0', r1', f0', f1'⟩ := HC.out _ B3
  obtain ⟨sb, so, rfl, hsl, hsc⟩ := (HN.out _ B3).2.2.at' (by omega)
  obtain ⟨s0, s1, s2, s3, s4⟩ := cellsP (hsc k hk)
  obtain ⟨x0, x1, x2, x3, x4⟩ := cellsP (hpc k hk)
  have p0 := hpf (po + k * 5)
  have p1 := hpf (po + k * 5 + 1)
  have p2 := hpf (po + k * 5 + 2)
  have p3 := hpf (po + k * 5 + 3)
  have p4 := hpf (po + k * 5 + 4)
  have HB3 := hid (HW.out.trans (B3.mono HW.out.size))
  have hyb := hY pb hYp
  have hkI : (k : Int) < n.pipes.length := by omega
  have HON := hid oN
  have HOP := hid oP
  have h1s : w.heap.size < w3.heap.size := by omega
  have h2s : w.heap.size + 1 < w3.heap.size := by omega
  clear b2 b3 B3 oN oP hsc hpc hpf hx0 hx1
  go_wp2_with fail
  have HT : Hid (turnN n k = ⟨n.nodes, n.pipes.set k (turnP n.pipes[k])⟩) := by simp [Hid, turnN, List.getD, hk]
  obtain ⟨W4, hW4⟩ : ∃ W4, W4 = ((((w3.setCell ⟨pb, po + k * 5, none⟩ (.int .i64 n.pipes[k].to)).setCell ⟨pb, po + k * 5 + 1, none⟩ (.int .i64 n.pipes[k].fr)).setCell ⟨pb, po + k * 5 + 2, none⟩ (.int .i64 n.pipes[k].k)).setCell ⟨pb, po + k * 5 + 3, none⟩ (.int .i64 n.pipes[k].vol)).setCell ⟨pb, po + k * 5 + 4, none⟩ (.int .i64 n.pipes[k].lim) := ⟨_, rfl⟩
  have K1 : Kept (fun b => b = pb) w3 W4 := by
    rw [hW4]
    exact (((((Kept.refl (fun b => b = pb) w3).setCell (p := ⟨pb, po + k * 5, none⟩) rfl _).setCell (p := ⟨pb, po + k * 5 + 1, none⟩) rfl _).setCell (p := ⟨pb, po + k * 5 + 2, none⟩) rfl _).setCell (p := ⟨pb, po + k * 5 + 3, none⟩) rfl _).setCell (p := ⟨pb, po + k * 5 + 4, none⟩) rfl _
  have HP4 : RowsOwn encP 5 Y W4 (.slice (some ⟨pb, po, none⟩) n.pipes.length cP) (n.pipes.set k (turnP n.pipes[k])) := by
    rw [hW4]; exact HOP.out.setP k hk (turnP n.pipes[k])
  have e0 := K1.cell r0' (by simp only; omega)
  have e1 := K1.cell r1' (by simp only; omega)
  rw [← hW4]
  have z4 := K1.size
  have K2 := ((kept_two (w := W4) (w.heap.size + 1) (.slice aN n.nodes.length cN) (.slice (some ⟨pb, po, none⟩) n.pipes.length cP)).alloc (.cells #[.slice aN n.nodes.length cN, .slice (some ⟨pb, po, none⟩) n.pipes.length cP] 27)).alloc (.cells #[.int .i64 n.pipes[k].fr, .int .i64 n.pipes[k].to, .int .i64 n.pipes[k].k, .int .i64 n.pipes[k].vol, .int .i64 n.pipes[k].lim] 73)
  have hz := HB3.out.size
  obtain ⟨g0, g1⟩ := (((box_two_set (x := .slice aN n.nodes.length cN) (y := .slice (some ⟨pb, po, none⟩) n.pipes.length cP) e0 e1).below (below_new _ (.cells #[.slice aN n.nodes.length cN, .slice (some ⟨pb, po, none⟩) n.pipes.length cP] 27))).below (below_new _ (.cells #[.int .i64 n.pipes[k].fr, .int .i64 n.pipes[k].to, .int .i64 n.pipes[k].k, .int .i64 n.pipes[k].vol, .int .i64 n.pipes[k].lim] 73))).two
  refine bodyPost_ret (v := .tuple #[.agg #[.slice aN n.nodes.length cN, .slice (some ⟨pb, po, none⟩) n.pipes.length cP], .int .i64 0]) (by simp only [results, Try.results64]; simp [go_sem, g0, g1]) rfl ?_
  rw [hr.out, HT.out]
  refine ⟨_, _, rfl, ⟨X, Y, fun b hb => ⟨by have := hX b hb; omega, by have := hX b hb; simp only [World.size_alloc, World.size_setCell]; omega⟩, fun b hb => ⟨by have := hY b hb; omega, by have := hY b hb; simp only [World.size_alloc, World.size_setCell]; omega⟩, hd, ?_, hok, ?_⟩, ⟨q0, q1⟩, HB3.out.trans ((K1.below hz (fun b hb => by omega)).trans (K2.below (by omega) (fun b hb => by omega)))⟩
  · exact (HON.out.kept K1 (fun b _ hb e => hd b hb (by rw [e]; exact hYp))).kept K2 (fun b _ hb e => by have := hX b hb; omega)
  · exact HP4.kept K2 (fun b _ hb e => by have := hY b hb; omega)

end Go.Proofs.Ytdapdaadglaoiaa

namespace Go.Proofs.Ytdapdaadglaoiaa
open Go.RowKit

theorem wpAnyH_strong {P : Program} {md : Region.Mode} {ops : Array Oper} {Q : Exit → Act → World → Prop} {S S' : World → Prop} (hS : ∀ w, S' w → S w) :
    ∀ {fuel : Nat} {listed : Array Bool} {a : Act} {w : World}, wpAnyH P md ops Q S' fuel listed a w → wpAnyH P md ops Q S fuel listed a w
  | 0, _, _, _, h => h
  | _ + 1, _, _, _, h => ⟨h.1, fun i hi => wpOp_mono (fun _ w' h' => ⟨hS w' h'.1, wpAnyH_strong hS h'.2⟩) (h.2 i hi)⟩

end Go.Proofs.Ytdapdaadglaoiaa
