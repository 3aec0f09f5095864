/- spec.l04Distances. -/
import Derived.Test.YtdapdaadglaoiaaSrS
import Derived.Test.YtdapdaadglaoiaaPipesAt
import Derived.Deep.RegionHeld3
import Derived.IntWalk
namespace Go.Proofs.Ytdapdaadglaoiaa
open Go.RowKit

/-- The distances of the first k nodes of the order. -/
def dPart (s : Sr) (N k : Nat) : List Int := (List.range N).map (fun j : Nat => if (j : Int) ∈ s.order.take k then s.dist.getD j 0 else -1)
theorem dPart_len (s : Sr) (N k : Nat) : (dPart s N k).length = N := by simp [dPart]
theorem dPart_get (s : Sr) (N k j : Nat) (h : j < (dPart s N k).length) : (dPart s N k)[j] = if (j : Int) ∈ s.order.take k then s.dist.getD j 0 else -1 := by simp [dPart]
theorem dPart_one {n : Net} {v : Int} {s : Sr} (g : Good n v s) : dPart s n.nodes.length 1 = (List.replicate n.nodes.length (-1)).set v.toNat 0 := by
  have hv := g.rng v g.vmem
  have ht : s.order.take 1 = [v] := by
    have := g.hd
    cases h : s.order with
    | nil => rw [h] at this; cases this
    | cons a t => rw [h] at this; simp at this; simp [this]
  apply List.ext_getElem
  · simp [dPart]
  · intro j h1 h2
    rw [dPart_get, ht, List.getElem_set]
    simp only [List.mem_singleton, List.getElem_replicate]
    by_cases e : v.toNat = j
    · subst e
      rw [if_pos (by omega), if_pos rfl]; exact g.d0
    · rw [if_neg (by omega), if_neg e]
theorem dPart_set {n : Net} {v : Int} {s : Sr} (g : Good n v s) {k : Nat} (hk : k < s.order.length) :
    (dPart s n.nodes.length k).set (s.order[k]).toNat (s.dist.getD (s.order[k]).toNat 0) = dPart s n.nodes.length (k + 1) := by
  have hr := g.rng _ (List.getElem_mem hk)
  apply List.ext_getElem
  · simp [dPart]
  · intro j h1 h2
    rw [dPart_get, List.getElem_set, List.take_succ_eq_append_getElem hk]
    simp only [List.mem_append, List.mem_singleton]
    by_cases e : (s.order[k]).toNat = j
    · subst e
      rw [if_pos rfl, if_pos (Or.inr (by omega))]
    · rw [if_neg e, dPart_get]
      have e2 : ¬ ((j : Int) = s.order[k]) := by omega
      simp [e2]
theorem dPart_all {n : Net} {v : Int} {s : Sr} (g : Good n v s) : dPart s n.nodes.length s.order.length = s.dist := by
  apply List.ext_getElem
  · rw [dPart_len, g.ld]
  · intro j h1 h2
    rw [dPart_get, List.take_length]
    have hj : j < n.nodes.length := by rw [← g.ld]; exact h2
    have hg : s.dist.getD j 0 = s.dist[j] := by simp [List.getD, h2]
    have hm := g.mem j (by omega) (by omega)
    rw [Int.toNat_natCast] at hm
    by_cases e : (j : Int) ∈ s.order
    · rw [if_pos e, hg]
    · rw [if_neg e, ← hg]
      have hn : ¬ 0 ≤ s.dist.getD j 0 := fun h => e (hm.1 h)
      exact (g.un j hj (by omega)).1.symm
theorem dPart_at {s : Sr} {N k : Nat} {x : Nat} (hx : x < N) (h : (x : Int) ∈ s.order.take k) : (dPart s N k)[x]'(by rw [dPart_len]; exact hx) = s.dist.getD x 0 := by rw [dPart_get, if_pos h]

theorem cell_off {w : World} {b o b' o' : Nat} {u : Value} (h : b ≠ b' ∨ o ≠ o') : (w.setCell ⟨b, o, none⟩ u).cell? ⟨b', o', none⟩ = w.cell? ⟨b', o', none⟩ :=
  World.cell?_setCell_other w ⟨b, o, none⟩ ⟨b', o', none⟩ u (fun e => by injection e with e1 e2; omega)

def D1Rel (N : Nat) (s : Sr) (l : List Value) (w : World) (b : Nat) (ev ov : Value) (i : Value) (wr : World) : Prop :=
  ∃ k : Nat, i = .int .i64 k ∧ k ≤ N ∧ Box wr w.heap.size l ∧ Slc (fun c => w.heap.size < c ∧ c < b) wr ev s.ent ∧ Slc (fun c => w.heap.size < c ∧ c < b) wr ov s.order ∧ IntBlk 2 wr b (fillM N k) ∧ Below w.heap.size w wr
def D2Rel (N : Nat) (s : Sr) (l : List Value) (w : World) (b : Nat) (ev ov : Value) (i : Value) (wr : World) : Prop :=
  ∃ k : Nat, i = .int .i64 k ∧ 1 ≤ k ∧ k ≤ s.order.length ∧ Box wr w.heap.size l ∧ Slc (fun c => w.heap.size < c ∧ c < b) wr ev s.ent ∧ Slc (fun c => w.heap.size < c ∧ c < b) wr ov s.order ∧ IntBlk 2 wr b (dPart s N k) ∧ Below w.heap.size w wr

set_option maxHeartbeats 1000000 in
set_option maxRecDepth 100000 in
theorem l04Distances_any (nv pv : Value) (n : Net) (v : Int) (w : World) (h : NetAt w nv pv n) (hb : netB n = true) (h0 : 0 ≤ v) (h1 : v < n.nodes.length) :
    Calls Try.prog 144 #[.agg #[nv, pv], .int .i64 v] w fun e w' => ∃ r, e = .returned r ∧ Slc (fun b => w.heap.size ≤ b ∧ b < w'.heap.size) w' r (srch n v).dist ∧ Below w.heap.size w w' := by
  obtain ⟨a0, k0, rfl⟩ := h.1.shape
  obtain ⟨a1, k1, rfl⟩ := h.2.2.shape
  have hnl := netB_t hb
  have HP := hid h
  have hWb := below_new w (.cells #[.slice a0 n.nodes.length k0, .slice a1 n.pipes.length k1] 27)
  have hbx := Box.new w #[.slice a0 n.nodes.length k0, .slice a1 n.pipes.length k1] 27
  have hmk := run_make_row' (P := Try.prog) 33 2 (.int .i64 0) 8 Try.underlying33 info64 rfl .i64 .i64 n.nodes.length (by omega) (by omega)
  have g := good_srch hb h0 h1
  obtain ⟨s, hs⟩ : ∃ s, s = srch n v := ⟨_, rfl⟩
  have hl04 := l04Search_any _ _ n v _ (h.below hWb) hb h0 h1
  rw [← hs] at g hl04 ⊢
  clear h hs
  go_enter Try.func144, Try.ntmps144
  go_wp2_with fail
  refine hl04.mono ?_
  rintro e w1 ⟨ev, ov, rfl, se, so, b1⟩
  have B := hid (hWb.trans (b1.mono hWb.size))
  have bx := hbx.below b1
  obtain ⟨c0, c1⟩ := bx.two
  have HX := hid bx
  have z1 := b1.size
  simp only [World.size_alloc] at z1
  have SE := hid (se.mono (Q := fun c => w.heap.size < c ∧ c < w1.heap.size) (fun b _ h => ⟨by have := h.1; simp only [World.size_alloc] at this; omega, h.2⟩))
  have SO := hid (so.mono (Q := fun c => w.heap.size < c ∧ c < w1.heap.size) (fun b _ h => ⟨by have := h.1; simp only [World.size_alloc] at this; omega, h.2⟩))
  obtain ⟨_, ea, ec, rfl, _⟩ := se
  obtain ⟨_, oa, oc, rfl, _⟩ := so
  clear hl04 hWb hbx b1 bx
  go_wp2_with fail
  clear hmk
  go_loopw [8] (fun i wr => D1Rel n.nodes.length s [.slice a0 n.nodes.length k0, .slice a1 n.pipes.length k1] w w1.heap.size (.slice ea s.ent.length ec) (.slice oa s.order.length oc) i wr) (fun i _ => n.nodes.length - (intOf i).toNat)
  case atStart =>
    refine ⟨0, rfl, by omega, HX.out.below (below_new _ _), SE.out.below (below_new _ _), SO.out.below (below_new _ _), ?_, B.out.alloc B.out.size _⟩
    have := IntBlk.made 2 w1 n.nodes.length
    simpa [fillM] using this
  case round =>
    obtain ⟨k, rfl, hk, bx, se, so, he, hbel⟩ := hrel
    clear HX SE SO
    by_cases hlt : k < n.nodes.length
    · have f1 := he.frozen k
      have l1 := fillM_len n.nodes.length k (by omega)
      obtain ⟨o1, d1⟩ : ∃ o1, wr.cell? ⟨w1.heap.size, k, none⟩ = some o1 := ⟨_, he.cell k (by omega)⟩
      have HE := hid (he.set k (-1))
      have HX := hid bx
      have SE := hid se
      have SO := hid so
      have HB := hid (hbel.setCell (p := ⟨w1.heap.size, k, none⟩) (by simp only; omega) (.int .i64 (-1)))
      clear he bx hbel l1 se so
      go_wp2_with fail
      go_roundw
      case rel =>
        have kk : Kept (fun b => b = w1.heap.size) wr (wr.setCell ⟨w1.heap.size, k, none⟩ (.int .i64 (-1))) := (Kept.refl (fun b => b = w1.heap.size) wr).setCell (p := ⟨w1.heap.size, k, none⟩) rfl _
        refine ⟨k + 1, by go_num, by omega, HX.out.kept kk (by omega), SE.out.kept kk (fun b _ h h' => by omega), SO.out.kept kk (fun b _ h h' => by omega), ?_, HB.out⟩
        rw [← fillM_set _ _ hlt]; exact HE.out
      case measure => simp [intOf]; omega
    · obtain rfl : k = n.nodes.length := by omega
      have vv : v.toNat < n.nodes.length := by omega
      have hfm : fillM n.nodes.length n.nodes.length = List.replicate n.nodes.length (-1) := by simp [fillM]
      rw [hfm] at he
      have f1 := he.frozen v.toNat
      obtain ⟨o1, d1⟩ : ∃ o1, wr.cell? ⟨w1.heap.size, v.toNat, none⟩ = some o1 := ⟨_, he.cell v.toNat (by simpa using vv)⟩
      have HA : Hid (D2Rel n.nodes.length s [.slice a0 n.nodes.length k0, .slice a1 n.pipes.length k1] w w1.heap.size (.slice ea s.ent.length ec) (.slice oa s.order.length oc) (.int .i64 1) (wr.setCell ⟨w1.heap.size, v.toNat, none⟩ (.int .i64 0))) := by
        have kk : Kept (fun b => b = w1.heap.size) wr (wr.setCell ⟨w1.heap.size, v.toNat, none⟩ (.int .i64 0)) := (Kept.refl (fun b => b = w1.heap.size) wr).setCell (p := ⟨w1.heap.size, v.toNat, none⟩) rfl _
        refine ⟨1, rfl, by omega, g.pos, bx.kept kk (by omega), se.kept kk (fun b _ h h' => by omega), so.kept kk (fun b _ h h' => by omega), ?_, hbel.trans (kk.below hbel.size (fun b h => by omega))⟩
        rw [dPart_one g]; exact he.set _ _
      clear bx se so he hbel hfm hk hlt
      go_wp2_with fail
      go_loopw [9] (fun i wr => D2Rel n.nodes.length s [.slice a0 n.nodes.length k0, .slice a1 n.pipes.length k1] w w1.heap.size (.slice ea s.ent.length ec) (.slice oa s.order.length oc) i wr) (fun i _ => s.order.length - (intOf i).toNat)
      case atStart => exact HA.out
      case round =>
        clear HA
        obtain ⟨k, rfl, hk1, hk, bx, se, so, he, hbel⟩ := hrel
        by_cases hlt : k < s.order.length
        · have hmem := List.getElem_mem hlt
          have hrng := g.rng _ hmem
          have hle := g.le_nodes
          have lle := g.le
          obtain ⟨i, t1, hip, t3, j, hj, hjk, t5, t6⟩ := g.tree k hlt (by omega)
          obtain ⟨m, hm⟩ : ∃ m : Nat, s.order[k] = m := ⟨(s.order[k]).toNat, by omega⟩
          have hjm := List.getElem_mem hj
          have hrj := g.rng _ hjm
          obtain ⟨p, hp⟩ : ∃ p : Nat, s.order[j] = p := ⟨(s.order[j]).toNat, by omega⟩
          have hset := dPart_set g hlt
          have hpt : (p : Int) ∈ s.order.take k := by
            rw [← hp]
            exact List.mem_take_iff_getElem.2 ⟨j, by omega, rfl⟩
          have hrd := dPart_at (N := n.nodes.length) (by omega) hpt
          rw [hp] at t5 t6 hrj
          rw [hm] at t1 t3 t5 t6 hset hrng
          rw [Int.toNat_natCast] at t1 t6 hset
          rw [Int.toNat_natCast] at t6
          have hml : m < s.ent.length := by omega
          have t1' : s.ent[m] = i := by simpa [List.getD, hml] using t1
          obtain ⟨eb, eo, rfl, he1, he2, _, hec⟩ := se.at (by omega)
          obtain ⟨ob, oo, rfl, ho1, ho2, _, hoc⟩ := so.at (by omega)
          have q1 := hec m hml
          rw [t1'] at q1
          have q2 := hoc k hlt
          rw [hm] at q2
          have q3 := he.cell p (by rw [dPart_len]; omega)
          rw [hrd] at q3
          obtain ⟨o4, q4⟩ : ∃ o4, wr.cell? ⟨w1.heap.size, m, none⟩ = some o4 := ⟨_, he.cell m (by rw [dPart_len]; omega)⟩
          have f1 := he.frozen m
          have hhip := g.hi p
          have hpos := (g.mem p (by omega) (by omega)).2 (hp ▸ hjm)
          rw [Int.toNat_natCast] at hpos
          have hpp := netB_pipe hb (List.getElem_mem hip)
          have hpm : p ≠ m := by
            have := (oth_rng hb hip t3).2.2.2.2
            rw [t5] at this
            omega
          have hoe : ∀ W : World, Below w.heap.size w W → Calls Try.prog 98 #[.agg #[.slice a0 n.nodes.length k0, .slice a1 n.pipes.length k1], .int .i64 i, .int .i64 m] W fun e w' => e = .returned (.int .i64 p) ∧ Below W.heap.size W w' := fun W hW => by
            have := l02Other_any _ _ n i m W (HP.out.below hW) hip (by omega) (by omega) (by omega) (by omega) (by omega) (by omega)
            rw [oth_sum t3, t5] at this
            exact this
          have HO := hid hoe
          obtain ⟨c0, c1⟩ := bx.two
          obtain ⟨D, hD⟩ : ∃ D, s.dist.getD p 0 = D := ⟨_, rfl⟩
          rw [hD] at t6 q3 hhip hpos
          rw [t6] at hset
          have HSET := hid hset
          have HX := hid bx
          have SE := hid se
          have SO := hid so
          have HE := hid he
          have HBL := hid hbel
          have hbe := he.lt
          have hbw := bx.1
          clear lle hmem t1 t3 t5 t6 hec hoc hpp hoe bx se so he hbel hset hrd hpt hjm t1' hm hp hD
          go_wp2_with fail
          have hsum : IntKind.i64.wrap (D + 1) = D + 1 := IntWalk.i64_in _ (by omega)
          go_region_held3 (fun W => W.cell? ⟨w.heap.size, 0, none⟩ = some (.slice a0 n.nodes.length k0) ∧ W.cell? ⟨w.heap.size, 1, none⟩ = some (.slice a1 n.pipes.length k1) ∧ W.cell? ⟨eb, eo + m, none⟩ = some (.int .i64 i) ∧ W.cell? ⟨ob, oo + k, none⟩ = some (.int .i64 m) ∧ W.cell? ⟨w1.heap.size, p, none⟩ = some (.int .i64 D))
            (first | exact ⟨c0, c1, q1, q2, q3⟩ | exact ⟨C0, C1, Q1, Q2, Q3⟩ | exact ⟨(cell_off (by omega)).trans C0, (cell_off (by omega)).trans C1, (cell_off (by omega)).trans Q1, (cell_off (by omega)).trans Q2, (cell_off (by omega)).trans Q3⟩)
            (first | (go_at_call 98; refine (HO.out _ HBL.out.drew).mono ?_; rintro e w3 ⟨rfl, b3⟩; have b3 := below_undrew b3; have C0 := (b3.cell (p := ⟨w.heap.size, 0, none⟩) hbw).trans c0; have C1 := (b3.cell (p := ⟨w.heap.size, 1, none⟩) hbw).trans c1; have Q1 := (b3.cell (p := ⟨eb, eo + m, none⟩) he2).trans q1; have Q2 := (b3.cell (p := ⟨ob, oo + k, none⟩) ho2).trans q2; have Q3 := (b3.cell (p := ⟨w1.heap.size, p, none⟩) hbe).trans q3; have Q4 := (b3.cell (p := ⟨w1.heap.size, m, none⟩) hbe).trans q4; have F1 := (HE.out.below b3).frozen m))
          have HKK := hid ((Kept.of_below (X := fun b => b = w1.heap.size) b3).setCell (p := ⟨w1.heap.size, m, none⟩) rfl (.int .i64 (D + 1)))
          have HE3 := hid ((HE.out.below b3).set m (D + 1))
          clear C0 C1 Q1 Q2 Q3 Q4 F1 c0 c1 q1 q2 q3 q4 f1 b3 hsum
          go_wp2_with fail
          go_roundw
          case rel =>
            refine ⟨k + 1, by go_num, by omega, by omega, HX.out.kept HKK.out (by omega), SE.out.kept HKK.out (fun b _ h h' => by omega), SO.out.kept HKK.out (fun b _ h h' => by omega), ?_, HBL.out.trans (HKK.out.below HBL.out.size (fun b h => by omega))⟩
            rw [← HSET.out]; exact HE3.out
          case measure => simp [intOf]; omega
        · obtain rfl : k = s.order.length := by omega
          rw [dPart_all g] at he
          have HE := hid he
          have HB := hid hbel
          have hbe := he.lt
          have ld := g.ld
          have hle := g.le_nodes
          clear bx se so he hbel
          go_wp2_with fail
          go_ret
          refine ⟨_, rfl, ?_, HB.out⟩
          have := HE.out.slc (P := fun b => w.heap.size ≤ b ∧ b < wr.heap.size) (cap := n.nodes.length) ⟨by omega, hbe⟩ (by omega)
          rw [ld] at this
          exact this

end Go.Proofs.Ytdapdaadglaoiaa
