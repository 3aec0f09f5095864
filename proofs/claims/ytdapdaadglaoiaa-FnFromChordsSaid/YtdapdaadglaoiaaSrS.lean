/- spec.l04Search. -/
import Derived.Test.YtdapdaadglaoiaaSrI
import Derived.StillTailTactics
namespace Go.Proofs.Ytdapdaadglaoiaa
open Go.RowKit

theorem infoB : (Try.prog.info? 4).map (fun i => (i.zero, i.size, i.bytes)) = some (some (.bool false), 1, 1) := by kernel_rfl

/-- A whole block of truth values. -/
def BoolBlk (T : TypeId) (w : World) (b : Nat) (zs : List Bool) : Prop := w.heap[b]? = some (.cells (zs.map Value.bool).toArray T (0, 0))
theorem BoolBlk.cell {T : TypeId} {w : World} {b : Nat} {zs : List Bool} (h : BoolBlk T w b zs) (i : Nat) (hi : i < zs.length) : w.cell? ⟨b, i, none⟩ = some (.bool zs[i]) := by
  unfold BoolBlk at h; simp [World.cell?, h, hi]
theorem BoolBlk.frozen {T : TypeId} {w : World} {b : Nat} {zs : List Bool} (h : BoolBlk T w b zs) (o : Nat) : w.frozen? ⟨b, o, none⟩ = false := by
  unfold BoolBlk at h; simp [World.frozen?, h]
theorem BoolBlk.lt {T : TypeId} {w : World} {b : Nat} {zs : List Bool} (h : BoolBlk T w b zs) : b < w.heap.size := block_lt h
theorem BoolBlk.set {T : TypeId} {w : World} {b : Nat} {zs : List Bool} (h : BoolBlk T w b zs) (i : Nat) (x : Bool) : BoolBlk T (w.setCell ⟨b, i, none⟩ (.bool x)) b (zs.set i x) := by
  unfold BoolBlk
  rw [heap_setCell_same (o := i) h (.bool x)]
  simp [List.map_set]
theorem BoolBlk.other {T : TypeId} {w : World} {b : Nat} {zs : List Bool} (h : BoolBlk T w b zs) {p : Addr} (hp : b ≠ p.block) (u : Value) : BoolBlk T (w.setCell p u) b zs := by
  unfold BoolBlk; rw [Below.heap_setCell _ _ _ _ hp]; exact h
theorem BoolBlk.kept {T : TypeId} {X : Nat → Prop} {w w' : World} {b : Nat} {zs : List Bool} (h : BoolBlk T w b zs) (hk : Kept X w w') (hx : ¬ X b) : BoolBlk T w' b zs := by
  unfold BoolBlk; rw [hk.block b h.lt hx]; exact h
theorem BoolBlk.below {T : TypeId} {w w' : World} {b : Nat} {zs : List Bool} (h : BoolBlk T w b zs) (hb : Below w.heap.size w w') : BoolBlk T w' b zs :=
  h.kept (Kept.of_below (X := fun _ => False) hb) (fun e => e)
theorem IntBlk.below {T : TypeId} {w w' : World} {b : Nat} {zs : List Int} (h : IntBlk T w b zs) (hb : Below w.heap.size w w') : IntBlk T w' b zs :=
  h.kept (Kept.of_below (X := fun _ => False) hb) (fun e => e)
theorem boolBlk_made (T : TypeId) (wx : World) (b N : Nat) (h : wx.heap[b]? = some (.cells (madeCells #[.bool false] N) T (0, 0))) : BoolBlk T wx b (List.replicate N false) := by
  unfold BoolBlk
  rw [h]
  congr 2
  apply Array.toList_inj.1
  rw [toList_madeCells_one]; simp

theorem three_new (w : World) (p0 p1 p2 : Obj) :
    let W := ((w.alloc p0).alloc p1).alloc p2
    W.heap[w.heap.size]? = some p0 ∧ W.heap[w.heap.size + 1]? = some p1 ∧ W.heap[w.heap.size + 1 + 1]? = some p2 ∧ Below w.heap.size w W := by
  refine ⟨?_, ?_, ?_, (((below_new w p0).alloc (by simp) _).alloc (by simp; omega) _)⟩
  all_goals
    show (World.alloc _ _).heap[_]? = _
    repeat (first | exact heap_at _ _ _ (by simp) | rw [Below.heap_alloc _ _ _ (by simp only [World.size_alloc]; omega)])
theorem box_of {w : World} {b : Nat} {cs : Array Value} {T : TypeId} (h : w.heap[b]? = some (.cells cs T (0, 0))) : Box w b cs.toList := by
  refine ⟨block_lt h, fun j hj => ?_⟩
  rw [World.cell?, h]
  simp at hj ⊢

def seenOf (d : List Int) : List Bool := d.map (fun x => decide (0 ≤ x))

/-- The reference's search in memory. -/
structure TMem (l : List Value) (w wr : World) (s : Sr) (ov : Value) : Prop where
  box : Box wr w.heap.size l
  ord : OwnI 2 (w.heap.size + 3) wr ov s.order
  ent : IntBlk 2 wr (w.heap.size + 1) s.ent
  seen : BoolBlk 4 wr (w.heap.size + 2) (seenOf s.dist)
  bel : Below w.heap.size w wr

theorem TMem.below {l : List Value} {w wr w' : World} {s : Sr} {ov : Value} (h : TMem l w wr s ov) (hb : Below wr.heap.size wr w') : TMem l w w' s ov :=
  ⟨h.box.below hb, h.ord.below hb, h.ent.below hb, h.seen.below hb, h.bel.trans (hb.mono h.bel.size)⟩
theorem TMem.own {l : List Value} {w wr : World} {s : Sr} {ov : Value} (h : TMem l w wr s ov) : ∀ b, ov.ownBlock = some b → w.heap.size + 3 ≤ b := fun b hb => (h.ord.lt b hb).1
/-- A write into what was seen and into the entries. -/
theorem TMem.set2 {l : List Value} {w wr : World} {s : Sr} {ov : Value} (h : TMem l w wr s ov) (i : Nat) (x y : Int) (hx : 0 ≤ x) :
    TMem l w ((wr.setCell ⟨w.heap.size + 2, i, none⟩ (.bool true)).setCell ⟨w.heap.size + 1, i, none⟩ (.int .i64 y)) ⟨s.order, s.dist.set i x, s.ent.set i y⟩ ov := by
  have kk : Kept (fun b => b = w.heap.size + 1 ∨ b = w.heap.size + 2) wr ((wr.setCell ⟨w.heap.size + 2, i, none⟩ (.bool true)).setCell ⟨w.heap.size + 1, i, none⟩ (.int .i64 y)) := (((Kept.refl _ _).setCell (Or.inr rfl) _).setCell (Or.inl rfl) _)
  refine ⟨h.box.kept kk (by omega), h.ord.kept kk (fun b hb => by have := h.own b hb; omega), ?_, ?_, h.bel.trans (kk.below h.bel.size (fun b hb => by omega))⟩
  · exact (h.ent.other (p := ⟨w.heap.size + 2, i, none⟩) (by simp) _).set i y
  · have := (h.seen.set i true).other (p := ⟨w.heap.size + 1, i, none⟩) (by simp) (.int .i64 y)
    have e : seenOf (s.dist.set i x) = (seenOf s.dist).set i true := by unfold seenOf; rw [List.map_set]; simp [hx]
    show BoolBlk _ _ _ (seenOf (s.dist.set i x))
    rw [e]; exact this
theorem TMem.app {l : List Value} {w wr w1 : World} {s : Sr} {ov v1 : Value} {o : Int} (h : TMem l w wr s ov) (ho : OwnI 2 (w.heap.size + 3) w1 v1 (s.order ++ [o])) (hk : Kept (fun b => ov.ownBlock = some b) wr w1) :
    TMem l w w1 ⟨s.order ++ [o], s.dist, s.ent⟩ v1 := by
  have nn : ∀ b, b < w.heap.size + 3 → ¬ ov.ownBlock = some b := fun b hb e => by have := h.own b e; omega
  exact ⟨h.box.kept hk (nn _ (by omega)), ho, h.ent.kept hk (nn _ (by omega)), h.seen.kept hk (nn _ (by omega)), h.bel.trans (hk.below h.bel.size (fun b hb => by have := h.own b hb; omega))⟩

def T1Rel (N : Nat) (l : List Value) (w : World) (i : Value) (wr : World) : Prop :=
  ∃ k : Nat, i = .int .i64 k ∧ k ≤ N ∧ Box wr w.heap.size l ∧ IntBlk 2 wr (w.heap.size + 1) (fillM N k) ∧ BoolBlk 4 wr (w.heap.size + 2) (List.replicate N false) ∧ Below w.heap.size w wr ∧ wr.heap.size = w.heap.size + 3
def T2Rel (n : Net) (v : Int) (l : List Value) (w : World) (ov i : Value) (wr : World) : Prop :=
  ∃ k : Nat, i = .int .i64 k ∧ k ≤ (sIter n v k).order.length ∧ TMem l w wr (sIter n v k) ov
def T3Rel (n : Net) (a : Int) (s : Sr) (L : List Int) (l : List Value) (w : World) (lo hi : Nat) (r ov i : Value) (wr : World) : Prop :=
  ∃ j : Nat, i = .int .i64 j ∧ j ≤ L.length ∧ TMem l w wr ((L.take j).foldl (relax n a) s) ov ∧ Slc (fun b => lo ≤ b ∧ b < hi) wr r L ∧ (∀ b, ov.ownBlock = some b → ¬ (lo ≤ b ∧ b < hi)) ∧ hi ≤ wr.heap.size
theorem pre_get {l1 l2 : List Int} (h : l1 <+: l2) {k : Nat} (hk : k < l1.length) : ∃ h2 : k < l2.length, l2[k] = l1[k] := by
  obtain ⟨t, rfl⟩ := h
  exact ⟨by simp; omega, List.getElem_append_left hk⟩

/-- The entries and the order, in memory of the call's own. -/
def EoOut (w : World) (s : Sr) (e : Ending) (w' : World) : Prop :=
  ∃ ev ov, e = .returned (.tuple #[ev, ov]) ∧ Slc (fun b => w.heap.size ≤ b ∧ b < w'.heap.size) w' ev s.ent ∧ Slc (fun b => w.heap.size ≤ b ∧ b < w'.heap.size) w' ov s.order ∧ Below w.heap.size w w'

set_option maxHeartbeats 2000000 in
set_option maxRecDepth 100000 in
theorem l04Search_any (nv pv : Value) (n : Net) (v : Int) (w : World) (h : NetAt w nv pv n) (hb : netB n = true) (h0 : 0 ≤ v) (h1 : v < n.nodes.length) :
    Calls Try.prog 148 #[.agg #[nv, pv], .int .i64 v] w (EoOut w (srch n v)) := by
  obtain ⟨a0, k0, rfl⟩ := h.1.shape
  obtain ⟨a1, k1, rfl⟩ := h.2.2.shape
  have hnl := netB_t hb
  have HP := hid h
  have hmk := run_make_row' (P := Try.prog) 33 2 (.int .i64 0) 8 Try.underlying33 info64 rfl .i64 .i64 n.nodes.length (by omega) (by omega)
  have hmb := run_make_row' (P := Try.prog) 146 4 (.bool false) 1 Try.underlying146 infoB rfl .i64 .i64 n.nodes.length (by omega) (by omega)
  clear h
  go_enter Try.func148, Try.ntmps148
  go_wp2_with fail
  clear hmk hmb
  go_loopw [8] (fun i wr => T1Rel n.nodes.length [.slice a0 n.nodes.length k0, .slice a1 n.pipes.length k1] w i wr) (fun i _ => n.nodes.length - (intOf i).toNat)
  case atStart =>
    obtain ⟨x0, x1, x2, x3⟩ := three_new w (.cells #[.slice a0 n.nodes.length k0, .slice a1 n.pipes.length k1] 27) (.cells (madeCells #[.int .i64 0] n.nodes.length) 2) (.cells (madeCells #[.bool false] n.nodes.length) 4)
    refine ⟨0, rfl, by omega, box_of x0, ?_, boolBlk_made _ _ _ _ x2, x3, by simp⟩
    have := intBlk_made _ _ _ _ x1
    simpa [fillM] using this
  case round =>
    obtain ⟨k, rfl, hk, bx, he, hs, hbel, hsz⟩ := hrel
    by_cases hlt : k < n.nodes.length
    · have f1 := he.frozen k
      have l1 := fillM_len n.nodes.length k (by omega)
      obtain ⟨o1, d1⟩ : ∃ o1, wr.cell? ⟨w.heap.size + 1, k, none⟩ = some o1 := ⟨_, he.cell k (by omega)⟩
      have HE := hid (he.set k (-1))
      have HS := hid (hs.other (p := ⟨w.heap.size + 1, k, none⟩) (by simp) (.int .i64 (-1)))
      have HX := hid bx
      have HB := hid (hbel.setCell (p := ⟨w.heap.size + 1, k, none⟩) (by simp only; omega) (.int .i64 (-1)))
      clear he hs bx hbel l1
      go_wp2_with fail
      go_roundw
      case rel =>
        have kk : Kept (fun b => b = w.heap.size + 1) wr (wr.setCell ⟨w.heap.size + 1, k, none⟩ (.int .i64 (-1))) := (Kept.refl (fun b => b = w.heap.size + 1) wr).setCell (p := ⟨w.heap.size + 1, k, none⟩) rfl _
        refine ⟨k + 1, by go_num, by omega, HX.out.kept kk (by omega), ?_, HS.out, HB.out, by simpa using hsz⟩
        rw [← fillM_set _ _ hlt]; exact HE.out
      case measure => simp [intOf]; omega
    · obtain rfl : k = n.nodes.length := by omega
      have vv : v.toNat < n.nodes.length := by omega
      have f1 := hs.frozen v.toNat
      obtain ⟨o1, d1⟩ : ∃ o1, wr.cell? ⟨w.heap.size + 2, v.toNat, none⟩ = some o1 := ⟨_, hs.cell v.toNat (by simpa using vv)⟩
      have hfm : fillM n.nodes.length n.nodes.length = List.replicate n.nodes.length (-1) := by simp [fillM]
      rw [hfm] at he
      have HA : Hid (TMem [.slice a0 n.nodes.length k0, .slice a1 n.pipes.length k1] w ((wr.setCell ⟨w.heap.size + 2, v.toNat, none⟩ (.bool true)).alloc (.cells #[.int .i64 v] 2)) (sIter n v 0) (.slice (some ⟨w.heap.size + 3, 0, none⟩) 1 1)) := by
        have kk : Kept (fun b => b = w.heap.size + 2) wr ((wr.setCell ⟨w.heap.size + 2, v.toNat, none⟩ (.bool true)).alloc (.cells #[.int .i64 v] 2)) := ((Kept.refl (fun b => b = w.heap.size + 2) wr).setCell (p := ⟨w.heap.size + 2, v.toNat, none⟩) rfl _).alloc _
        refine ⟨bx.kept kk (by omega), ?_, he.kept kk (by omega), ?_, hbel.trans (kk.below hbel.size (fun b h => by omega))⟩
        · refine ⟨rfl, Or.inr ⟨w.heap.size + 3, 1, #[.int .i64 v], rfl, by omega, heap_at _ _ _ (by simp; omega), Nat.le_refl 1, by simp [maxLen], rfl, rfl⟩⟩
        · have := (hs.set v.toNat true).below (below_new _ (.cells #[.int .i64 v] 2))
          have e : seenOf (sIter n v 0).dist = (List.replicate n.nodes.length false).set v.toNat true := by
            show seenOf ((List.replicate n.nodes.length (-1)).set v.toNat 0) = _
            unfold seenOf; rw [List.map_set]; simp
          rw [e]; exact this
      clear he hs bx hbel hfm hk hlt
      go_wp2_with fail
      clear hsz
      go_loopw [9, 10] (fun ov i wr => T2Rel n v [.slice a0 n.nodes.length k0, .slice a1 n.pipes.length k1] w ov i wr) (fun _ i _ => n.nodes.length - (intOf i).toNat)
      case atStart => exact ⟨0, rfl, by omega, HA.out⟩
      case round =>
        clear HA
        obtain ⟨k, rfl, hk, tm⟩ := hrel
        have g := good_iter hb h0 h1 k
        have hle := g.le_nodes
        obtain ⟨s, hs⟩ : ∃ s, s = sIter n v k := ⟨_, rfl⟩
        have hsucc : Hid (sIter n v (k + 1) = if k < s.order.length then scan n (s.order.getD k 0) s else s) := by rw [hs]; rfl
        have hend : Hid (¬ k < s.order.length → s = srch n v) := by rw [hs]; exact fun h => sIter_end hb h0 h1 h hk
        have hpre : Hid (s.order <+: (sIter n v (k + 1)).order) := by rw [hs]; exact sIter_pre n v k
        rw [← hs] at g tm hk hle
        clear hs
        obtain ⟨ao, co, rfl, hcs⟩ := tm.ord.shape
        obtain ⟨go, rfl, hgo, hgl, hgf, hgc⟩ := hcs.resolve_left (by intro e; have := g.pos; simp [e] at this)
        obtain ⟨c0, c1⟩ := tm.box.two
        clear hcs
        by_cases hlt : k < s.order.length
        · have hu := List.getElem_mem hlt
          obtain ⟨a, ha⟩ : ∃ a : Nat, s.order[k] = a := ⟨(s.order[k]).toNat, by have := (g.rng _ hu).1; omega⟩
          have q0 := hgc k hlt
          rw [ha] at q0
          rw [ha] at hu
          have hra := g.rng _ hu
          have hget : s.order.getD k 0 = a := by simp [List.getD, hlt, ha]
          have hsc := hsucc.out
          rw [if_pos hlt, hget] at hsc
          have HSC := hid hsc
          have HG := hid g
          have HTM := hid tm
          have HNA := hid (HP.out.below tm.bel)
          have HAK := hid ha
          clear tm hgc ha hget hsc hsucc hend
          go_wp2_with fail
          go_still_tail 5, (by kernel_rfl)
          change wpList _ _ _ _ _ (World.drew _)
          go_wp2_with (go_at_call 110; refine (l02At_any _ _ n a _ (HNA.out.below (Below.refl _ _).drew) (by omega)).mono ?_; rintro e w2 ⟨r, rfl, hrs, b2⟩)
          have b2 := below_undrew b2
          have hL0 := hid (show Slc (fun b => wr.heap.size ≤ b ∧ b < w2.heap.size) w2 r (pipesOf n a) from hrs)
          obtain ⟨L, hL⟩ : ∃ L, L = pipesOf n a := ⟨_, rfl⟩
          have HL := hid hL
          rw [← hL] at hL0
          have hLl : L.length ≤ 1000 := by rw [hL]; have := selP_len (atF a) n.pipes n.pipes.length; unfold pipesOf; omega
          have HM2 := hid (HTM.out.below b2)
          have hz2 := b2.size
          obtain ⟨_, ra, rc, rfl, _⟩ := hL0.out
          clear b2 hL hrs HTM HNA c0 c1 q0 hgf
          go_wp2_with fail
          go_loopw [9, 12] (fun ov i wx => T3Rel n a s L [.slice a0 n.nodes.length k0, .slice a1 n.pipes.length k1] w wr.heap.size w2.heap.size (.slice ra L.length rc) ov i wx) (fun _ i _ => L.length - (intOf i).toNat)
          case atStart =>
            refine ⟨0, rfl, by omega, HM2.out, hL0.out, ?_, Nat.le_refl _⟩
            intro b hb2 hbb
            simp [Value.ownBlock] at hb2
            omega
          case round =>
            clear HM2 hL0
            obtain ⟨j, rfl, hj, tm, hsl3, hnb, hhi⟩ := hrel
            have hLsub : ∀ i ∈ L.take j, i ∈ pipesOf n a := fun i hi => by rw [← HL.out]; exact List.mem_of_mem_take hi
            have gj := good_fold hb (L.take j) HG.out hu hLsub
            have hprej := fold_pre n a (L.take j) s
            have huj := hprej.subset hu
            by_cases hjl : j < L.length
            · have hft := fold_take_succ (n := n) (a := a) (s := s) hjl
              obtain ⟨t, ht⟩ : ∃ t, t = (L.take j).foldl (relax n a) s := ⟨_, rfl⟩
              rw [← ht] at hft gj huj tm hprej
              clear ht hLsub
              have hmemL : L[j] ∈ pipesOf n a := by rw [← HL.out]; exact List.getElem_mem hjl
              obtain ⟨i, hi, hip, hat⟩ := pipesOf_mem hmemL
              rw [hi] at hft
              obtain ⟨br, off, rfl, hbr, hbrl, _, hbc⟩ := hsl3.at (by omega)
              have q1 := hbc j hjl
              rw [hi] at q1
              obtain ⟨r1, r2, r3, r4, r5⟩ := oth_rng hb hip hat
              obtain ⟨m, hm⟩ : ∃ m : Nat, oth n.pipes[i] a = m := ⟨(oth n.pipes[i] a).toNat, by omega⟩
              have hpp := netB_pipe hb (List.getElem_mem hip)
              have hoe : ∀ W : World, Below w.heap.size w W → Calls Try.prog 98 #[.agg #[.slice a0 n.nodes.length k0, .slice a1 n.pipes.length k1], .int .i64 i, .int .i64 a] W fun e w' => e = .returned (.int .i64 m) ∧ Below W.heap.size W w' := fun W hW => by
                have := l02Other_any _ _ n i a W (HP.out.below hW) hip (by omega) (by omega) (by omega) (by omega) (by omega) (by omega)
                rw [oth_sum hat, hm] at this
                exact this
              have HO := hid hoe
              rw [hm] at r1 r2 r5
              have hml : m < t.dist.length := by rw [gj.ld]; omega
              have hal : a < t.dist.length := by rw [gj.ld]; omega
              have hml2 : m < t.ent.length := by rw [gj.le]; omega
              have hms : m < (seenOf t.dist).length := by simpa [seenOf] using hml
              have e3 : t.dist.getD m 0 = t.dist[m] := by simp [List.getD, hml]
              have e4 : t.dist.getD a 0 = t.dist[a] := by simp [List.getD, hal]
              have hma := (gj.mem a (by omega) (by omega)).2 huj
              rw [Int.toNat_natCast, e4] at hma
              have hlej := gj.le_nodes
              obtain ⟨hkt, hkv⟩ := pre_get hprej hlt
              obtain ⟨ao, co', rfl, hcs⟩ := tm.ord.shape
              obtain ⟨go', rfl, hgo', hgl', hgf, hgc⟩ := hcs.resolve_left (by intro e; simp [e] at hkt)
              have q0 := hgc k hkt
              rw [hkv, HAK.out] at q0
              obtain ⟨c0, c1⟩ := tm.box.two
              have d3 := tm.ent.cell m hml2
              have f1 := tm.seen.frozen m
              have f2 := tm.ent.frozen m
              have hbel := tm.bel
              have hse := tm.seen.lt
              clear hmemL hi hat hoe hbc hpp hcs hgc hprej hkv hgf
              by_cases hneg : t.dist[m] < 0
              · 
                have d1 : wr.cell? ⟨w.heap.size + 2, m, none⟩ = some (.bool false) := by
                  rw [tm.seen.cell m hms]; simp [seenOf]; omega
                rw [relax_yes hip hm (by rw [e3]; exact hneg), e4] at hft
                have HFT := hid hft
                have HM := hid tm
                have HS3 := hid hsl3
                have HNB := hid hnb
                have HBL := hid hbel
                clear hft hm tm hsl3 hnb gj hbel
                go_wp2_with fail
                go_still_tail 9, (by kernel_rfl)
                change wpList _ _ _ _ _ (World.drew _)
                go_wp2_with (first | (go_at_call 98; refine (HO.out _ HBL.out.drew).mono ?_; rintro e w3 ⟨rfl, b3⟩; have b3 := below_undrew b3; have D1 := (b3.cell (p := ⟨w.heap.size + 2, m, none⟩) hse).trans d1; have D2 := (b3.cell (p := ⟨br, off + j, none⟩) hbrl).trans q1; have HM3 := hid (HM.out.below b3); have f1 := HM3.out.seen.frozen m; have f2 := HM3.out.ent.frozen m; have D3 := HM3.out.ent.cell m hml2; have HS3 := hid (HS3.out.below b3); have z3 := b3.size; clear b3 d1 q1 d3 q0 HM) | (at_builtin; refine wpList_app1 rfl (.tmp 79) (.tmp 81) rfl (w.heap.size + 3) (.slice (some ⟨go', 0, none⟩) t.order.length co') _ rfl ((HM3.out.set2 m (t.dist[a] + 1) i (by omega)).ord.below (below_new _ _)) w3.heap.size (m : Int) rfl ?c1 ?c2 ?c3 ?_))
                case c1 => exact cell_at_new _ _ _ _ (by simp)
                case c2 => omega
                case c3 => simp; omega
                intro v1 w1 hv1 hk1 hb1
                have hW := (HM3.out.set2 m (t.dist[a] + 1) i (by omega)).below (below_new _ (.cells #[.int .i64 m] 2))
                have hnew := hW.app hv1 hk1
                have hho := HM3.out.own
                have kk : Kept (fun b => b = w.heap.size + 1 ∨ b = w.heap.size + 2 ∨ (Value.slice (some ⟨go', 0, none⟩) t.order.length co').ownBlock = some b) w3 w1 :=
                  ((((Kept.refl (fun b => b = w.heap.size + 1 ∨ b = w.heap.size + 2 ∨ (Value.slice (some ⟨go', 0, none⟩) t.order.length co').ownBlock = some b) w3).setCell (p := ⟨w.heap.size + 2, m, none⟩) (Or.inr (Or.inl rfl)) (.bool true)).setCell (p := ⟨w.heap.size + 1, m, none⟩) (Or.inl rfl) (.int .i64 i)).alloc (.cells #[.int .i64 m] 2)).trans (hk1.mono (fun b _ h => Or.inr (Or.inr h)))
                have HNEW := hid hnew
                have KK := hid kk
                have HB1 := hid hb1
                have hln : (t.order ++ [(m : Int)]).length = t.order.length + 1 := by simp
                obtain ⟨va, vc, hve, _⟩ := hv1.shape
                simp only [hln] at hve
                subst hve
                clear hW hnew hk1 hb1 hv1 kk
                go_wp2_with fail
                go_roundw
                case rel =>
                  refine ⟨j + 1, by go_num, by omega, by rw [HFT.out]; exact HNEW.out, HS3.out.kept KK.out ?_, ?_, ?_⟩
                  · rintro b hbl hbb (h | h | h)
                    · omega
                    · omega
                    · exact HNB.out b h hbb
                  · intro b hb2 hbb
                    rcases HB1.out with h1 | h1
                    · rw [h1] at hb2; exact HNB.out b hb2 hbb
                    · rw [h1] at hb2
                      simp at hb2
                      omega
                  · have := KK.out.size; omega
                case measure => simp [intOf]; omega
              · 
                have d1 : wr.cell? ⟨w.heap.size + 2, m, none⟩ = some (.bool true) := by
                  rw [tm.seen.cell m hms]; simp [seenOf]; omega
                rw [relax_no hip hm (by rw [e3]; exact hneg)] at hft
                have HFT := hid hft
                have HM := hid tm
                have HS3 := hid hsl3
                have HNB := hid hnb
                have HBL := hid hbel
                clear hft hm tm hsl3 hnb gj hbel
                go_wp2_with fail
                go_still_tail 9, (by kernel_rfl)
                change wpList _ _ _ _ _ (World.drew _)
                go_wp2_with (go_at_call 98; refine (HO.out _ HBL.out.drew).mono ?_; rintro e w3 ⟨rfl, b3⟩; have b3 := below_undrew b3; have D1 := (b3.cell (p := ⟨w.heap.size + 2, m, none⟩) hse).trans d1; have HM3 := hid (HM.out.below b3); have HS3 := hid (HS3.out.below b3); have z3 := b3.size; clear b3 d1 q1 d3 q0 HM)
                go_roundw
                case rel => exact ⟨j + 1, by go_num, by omega, by rw [HFT.out]; exact HM3.out, HS3.out, HNB.out, by omega⟩
                case measure => simp [intOf]; omega
            · obtain rfl : j = L.length := by omega
              rw [List.take_length] at tm
              have hsi : sIter n v (k + 1) = L.foldl (relax n a) s := by rw [HSC.out, HL.out]; rfl
              have hpl := hpre.out.length_le
              have HSI := hid hsi
              have HM := hid tm
              clear tm hsl3 hnb gj huj hLsub hsi hprej
              go_wp2_with fail
              go_roundw
              case rel =>
                refine ⟨k + 1, by go_num, ?_, by rw [HSI.out]; exact HM.out⟩
                omega
              case measure => simp [intOf]; omega
        · have hend := hend.out hlt
          subst hend
          have HM := hid tm
          clear tm hgc hsucc hpre
          go_wp2_with fail
          go_ret2
          have hM := HM.out
          have ld := g.ld
          have le := g.le
          have h1e := hM.ent.lt
          refine ⟨_, _, rfl, ?_, ?_, hM.bel⟩
          · have := hM.ent.slc (P := fun b => w.heap.size ≤ b ∧ b < wr.heap.size) (cap := n.nodes.length) ⟨by omega, h1e⟩ (by omega)
            rw [le] at this
            exact this
          · exact (hM.ord.slc (by omega)).mono (fun b hb h => ⟨by omega, hb⟩)

end Go.Proofs.Ytdapdaadglaoiaa
