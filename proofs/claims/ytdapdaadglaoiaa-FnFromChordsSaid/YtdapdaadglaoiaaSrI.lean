/- impl.searchFrom. -/
import Derived.Test.YtdapdaadglaoiaaSearch
namespace Go.Proofs.Ytdapdaadglaoiaa
open Go.RowKit

theorem heap_at (w : World) (o : Obj) (k : Nat) (h : k = w.heap.size) : (w.alloc o).heap[k]? = some o := h ▸ heap_alloc_new w o
theorem six (w : World) (p0 p1 o0 o1 o2 o3 : Obj) :
    let W := ((((((w.alloc p0).alloc p1).alloc o0).alloc o1).alloc o2).alloc o3).drew
    W.heap[w.heap.size]? = some p0 ∧ W.heap[w.heap.size + 1]? = some p1 ∧ W.heap[w.heap.size + 1 + 1]? = some o0 ∧ W.heap[w.heap.size + 1 + 1 + 1]? = some o1 ∧
      W.heap[w.heap.size + 1 + 1 + 1 + 1]? = some o2 ∧ W.heap[w.heap.size + 1 + 1 + 1 + 1 + 1]? = some o3 ∧ Below w.heap.size w W := by
  refine ⟨?_, ?_, ?_, ?_, ?_, ?_, ((((((below_new w p0).alloc (by simp) _).alloc (by simp; omega) _).alloc (by simp; omega) _).alloc (by simp; omega) _).alloc (by simp; omega) _).drew⟩
  all_goals
    show (World.alloc _ _).heap[_]? = _
    repeat (first | exact heap_at _ _ _ (by simp) | rw [Below.heap_alloc _ _ _ (by simp only [World.size_alloc]; omega)])

theorem cell_at_new (w : World) (x : Value) (T : TypeId) (b : Nat) (h : b = w.heap.size) : (w.alloc (.cells #[x] T)).cell? ⟨b, 0, none⟩ = some x := by subst h; simp

/-- The search in memory: bs the struct, bd the distances, be the entries, ov the order. -/
structure SMem (N : Nat) (bs bd be : Nat) (B : Nat) (wr : World) (s : Sr) (ov : Value) : Prop where
  box : wr.heap[bs]? = some (.cells #[ov, .slice (some ⟨bd, 0, none⟩) N N, .slice (some ⟨be, 0, none⟩) N N] 117 (0, 0))
  ord : OwnI 2 B wr ov s.order
  dst : IntBlk 2 wr bd s.dist
  ent : IntBlk 2 wr be s.ent
  n1 : ¬ ov.ownBlock = some bs
  n2 : ¬ ov.ownBlock = some bd
  n3 : ¬ ov.ownBlock = some be

/-- Three blocks, apart. -/
structure Apart (B bs bd be : Nat) : Prop where
  b1 : B + 2 ≤ bs
  b2 : B + 2 ≤ bd
  b3 : B + 2 ≤ be
  n1 : bs ≠ bd
  n2 : bs ≠ be
  n3 : bd ≠ be

theorem SMem.below {N bs bd be B : Nat} {w w' : World} {s : Sr} {ov : Value} (h : SMem N bs bd be B w s ov) (hb : Below w.heap.size w w') : SMem N bs bd be B w' s ov := by
  have hlt : bs < w.heap.size := by
    rcases Nat.lt_or_ge bs w.heap.size with h1 | h1
    · exact h1
    · have := h.box; simp [Array.getElem?_eq_none h1] at this
  exact ⟨by rw [hb.block bs hlt]; exact h.box, h.ord.below hb, h.dst.kept (Kept.of_below (X := fun _ => False) hb) (fun e => e), h.ent.kept (Kept.of_below (X := fun _ => False) hb) (fun e => e), h.n1, h.n2, h.n3⟩
theorem SMem.lt {N bs bd be B : Nat} {w : World} {s : Sr} {ov : Value} (h : SMem N bs bd be B w s ov) : bs < w.heap.size := by
  rcases Nat.lt_or_ge bs w.heap.size with h1 | h1
  · exact h1
  · have := h.box; simp [Array.getElem?_eq_none h1] at this

/-- A write into the distances and the entries. -/
theorem SMem.set2 {N bs bd be B B' : Nat} {w : World} {s : Sr} {ov : Value} (h : SMem N bs bd be B w s ov) (ap : Apart B' bs bd be) (i j : Nat) (x y : Int) :
    SMem N bs bd be B ((w.setCell ⟨bd, i, none⟩ (.int .i64 x)).setCell ⟨be, j, none⟩ (.int .i64 y)) ⟨s.order, s.dist.set i x, s.ent.set j y⟩ ov := by
  refine ⟨?_, ?_, ?_, ?_, h.n1, h.n2, h.n3⟩
  · rw [Below.heap_setCell _ _ _ _ ap.n2, Below.heap_setCell _ _ _ _ ap.n1]; exact h.box
  · refine h.ord.kept (X := fun b => b = bd ∨ b = be) (((Kept.refl _ _).setCell (Or.inl rfl) _).setCell (Or.inr rfl) _) (fun b hb => ?_)
    rintro (rfl | rfl)
    · exact h.n2 hb
    · exact h.n3 hb
  · exact (h.dst.set i x).other (p := ⟨be, j, none⟩) ap.n3 _
  · exact (h.ent.other (p := ⟨bd, i, none⟩) (fun e => ap.n3 e.symm) _).set j y

theorem SMem.set1 {N bs bd be B B' : Nat} {w : World} {s : Sr} {ov : Value} (h : SMem N bs bd be B w s ov) (ap : Apart B' bs bd be) (i : Nat) (x : Int) :
    SMem N bs bd be B (w.setCell ⟨bd, i, none⟩ (.int .i64 x)) ⟨s.order, s.dist.set i x, s.ent⟩ ov := by
  refine ⟨?_, ?_, h.dst.set i x, h.ent.other (p := ⟨bd, i, none⟩) (fun e => ap.n3 e.symm) _, h.n1, h.n2, h.n3⟩
  · rw [Below.heap_setCell _ _ _ _ ap.n1]; exact h.box
  · exact h.ord.kept (X := fun b => b = bd) ((Kept.refl (fun b => b = bd) _).setCell (p := ⟨bd, i, none⟩) rfl _) (fun b hb e => h.n2 (e ▸ hb))

/-- A new order. -/
theorem SMem.app {N bs bd be B B' : Nat} {w w1 : World} {s : Sr} {ov v1 : Value} {o : Int} (h : SMem N bs bd be B w s ov) (ap : Apart B' bs bd be) (ho : OwnI 2 B w1 v1 (s.order ++ [o])) (hk : Kept (fun b => ov.ownBlock = some b) w w1)
    (hob : v1.ownBlock = ov.ownBlock ∨ v1.ownBlock = some w.heap.size) (hd : bd < w.heap.size) (he : be < w.heap.size) :
    SMem N bs bd be B (w1.setCell ⟨bs, 0, none⟩ v1) ⟨s.order ++ [o], s.dist, s.ent⟩ v1 := by
  have hs := h.lt
  have nn : ∀ b, b < w.heap.size → ¬ ov.ownBlock = some b → ¬ v1.ownBlock = some b := fun b hb hn e => by
    rcases hob with h1 | h1
    · rw [h1] at e; exact hn e
    · rw [h1] at e; simp only [Option.some.injEq] at e; omega
  refine ⟨?_, ?_, ?_, ?_, nn bs hs h.n1, nn bd hd h.n2, nn be he h.n3⟩
  · have hb := hk.block bs hs h.n1
    rw [h.box] at hb
    rw [heap_setCell_same (o := 0) hb v1]
    simp
  · exact ho.kept (X := fun b => b = bs) ((Kept.refl (fun b => b = bs) _).setCell (p := ⟨bs, 0, none⟩) rfl _) (fun b hb e => nn bs hs h.n1 (e ▸ hb))
  · exact (h.dst.kept hk h.n2).other (p := ⟨bs, 0, none⟩) (fun e => ap.n1 e.symm) _
  · exact (h.ent.kept hk h.n3).other (p := ⟨bs, 0, none⟩) (fun e => ap.n2 e.symm) _

def fillM (N k : Nat) : List Int := List.replicate k (-1) ++ List.replicate (N - k) 0
theorem fillM_len (N k : Nat) (h : k ≤ N) : (fillM N k).length = N := by simp [fillM]; omega
theorem fillM_set (N k : Nat) (h : k < N) : (fillM N k).set k (-1) = fillM N (k + 1) := by
  unfold fillM
  rw [List.set_append_right _ _ (by simp)]
  obtain ⟨d, hd⟩ : ∃ d, N - k = d + 1 := ⟨N - k - 1, by omega⟩
  rw [hd, (by omega : N - (k + 1) = d)]
  rw [List.replicate_succ' (n := k), List.append_assoc]
  simp [List.replicate_succ (n := d)]

/-- What the loops keep: the network's box, the result's box, the search. -/
def SAll (N bs bd be : Nat) (l : List Value) (w : World) (s : Sr) (wr : World) : Prop :=
  ∃ ov, SMem N bs bd be (w.heap.size + 2) wr s ov ∧ Box wr w.heap.size l ∧ (∃ r, wr.heap[w.heap.size + 1]? = some (.cells #[r, r, r] 117 (0, 0))) ∧ Below w.heap.size w wr
def SCut (N : Nat) (v : Int) (l : List Value) (w : World) (s5 : Value) (wx : World) : Prop :=
  ∃ bs bo bd be : Nat, s5 = .pointer (some ⟨bs, 0, none⟩) ∧ wx.heap[bs]? = some (.cells #[.slice (some ⟨bo, 0, none⟩) 1 1, .slice (some ⟨bd, 0, none⟩) N N, .slice (some ⟨be, 0, none⟩) N N] 117 (0, 0)) ∧
    wx.heap[bo]? = some (.cells #[.int .i64 v] 2 (0, 0)) ∧ wx.heap[bd]? = some (.cells (madeCells #[.int .i64 0] N) 2 (0, 0)) ∧ wx.heap[be]? = some (.cells (madeCells #[.int .i64 0] N) 2 (0, 0)) ∧
    Apart w.heap.size bs bd be ∧ (w.heap.size + 2 ≤ bo ∧ bo ≠ bs ∧ bo ≠ bd ∧ bo ≠ be) ∧ wx.heap[w.heap.size]? = some (.cells l.toArray 27 (0, 0)) ∧ wx.heap[w.heap.size + 1]? = some (.cells #[.slice none 0 0, .slice none 0 0, .slice none 0 0] 117 (0, 0)) ∧ Below w.heap.size w wx

theorem intBlk_made (T : TypeId) (wx : World) (b N : Nat) (h : wx.heap[b]? = some (.cells (madeCells #[.int .i64 0] N) T (0, 0))) : IntBlk T wx b (List.replicate N 0) := by
  unfold IntBlk
  rw [h]
  congr 2
  apply Array.toList_inj.1
  rw [toList_madeCells_one]; simp

def S1Rel (N bs bd be : Nat) (l : List Value) (v : Int) (w : World) (i : Value) (wr : World) : Prop :=
  ∃ k : Nat, i = .int .i64 k ∧ k ≤ N ∧ SAll N bs bd be l w ⟨[v], fillM N k, fillM N k⟩ wr
def S2Rel (n : Net) (v : Int) (bs bd be : Nat) (l : List Value) (w : World) (i : Value) (wr : World) : Prop :=
  ∃ k : Nat, i = .int .i64 k ∧ k ≤ (sIter n v k).order.length ∧ SAll n.nodes.length bs bd be l w (sIter n v k) wr
def S3Rel (n : Net) (a : Int) (s : Sr) (L : List Int) (bs bd be : Nat) (l : List Value) (w : World) (lo hi : Nat) (r i : Value) (wr : World) : Prop :=
  ∃ j : Nat, i = .int .i64 j ∧ j ≤ L.length ∧ ∃ ov, SMem n.nodes.length bs bd be (w.heap.size + 2) wr ((L.take j).foldl (relax n a) s) ov ∧ Box wr w.heap.size l ∧ (∃ r, wr.heap[w.heap.size + 1]? = some (.cells #[r, r, r] 117 (0, 0))) ∧ Below w.heap.size w wr ∧
    Slc (fun b => lo ≤ b ∧ b < hi) wr r L ∧ (∀ b, ov.ownBlock = some b → ¬ (lo ≤ b ∧ b < hi)) ∧ hi ≤ wr.heap.size
theorem relax_no {n : Net} {a : Int} {s : Sr} {i m : Nat} (hi : i < n.pipes.length) (hm : oth n.pipes[i] a = m) (h : ¬ s.dist.getD m 0 < 0) : relax n a s i = s := by
  unfold relax; rw [pAt_nat hi, hm, Int.toNat_natCast, if_neg h]
theorem relax_yes {n : Net} {a : Nat} {s : Sr} {i m : Nat} (hi : i < n.pipes.length) (hm : oth n.pipes[i] a = m) (h : s.dist.getD m 0 < 0) : relax n a s i = ⟨s.order ++ [(m : Int)], s.dist.set m (s.dist.getD a 0 + 1), s.ent.set m i⟩ := by
  unfold relax; rw [pAt_nat hi, hm, Int.toNat_natCast, if_pos h, Int.toNat_natCast]
theorem fold_take_succ {n : Net} {a : Int} {s : Sr} {L : List Int} {j : Nat} (h : j < L.length) : (L.take (j + 1)).foldl (relax n a) s = relax n a ((L.take j).foldl (relax n a) s) L[j] := by
  rw [List.take_succ_eq_append_getElem h, List.foldl_append]; rfl
theorem block_lt {w : World} {k : Nat} {o : Obj} (h : w.heap[k]? = some o) : k < w.heap.size := by
  rcases Nat.lt_or_ge k w.heap.size with h1 | h1
  · exact h1
  · simp [Array.getElem?_eq_none h1] at h

/-- The three lists of a search, in memory of the call's own. -/
def SrOut (w : World) (s : Sr) (e : Ending) (w' : World) : Prop :=
  ∃ ov dv ev, e = .returned (.agg #[ov, dv, ev]) ∧ Slc (fun b => w.heap.size ≤ b ∧ b < w'.heap.size) w' ov s.order ∧ Slc (fun b => w.heap.size ≤ b ∧ b < w'.heap.size) w' dv s.dist ∧
    Slc (fun b => w.heap.size ≤ b ∧ b < w'.heap.size) w' ev s.ent ∧ Below w.heap.size w w'

/-- The order's room. -/
def SrOutC (w : World) (s : Sr) (e : Ending) (w' : World) : Prop :=
  ∃ ov dv ev, e = .returned (.agg #[ov, dv, ev]) ∧ Slc (fun b => w.heap.size ≤ b ∧ b < w'.heap.size) w' ov s.order ∧ Slc (fun b => w.heap.size ≤ b ∧ b < w'.heap.size) w' dv s.dist ∧
    Slc (fun b => w.heap.size ≤ b ∧ b < w'.heap.size) w' ev s.ent ∧ Below w.heap.size w w' ∧ CapOk ov
theorem OwnI.capOk {T : TypeId} {B : Nat} {w : World} {v : Value} {zs : List Int} (h : OwnI T B w v zs) : CapOk v := by
  intro a m c e
  subst e
  rcases h.2 with ⟨e, h0⟩ | ⟨_, _, _, e, _, _, hc, _⟩
  · simp only [Value.slice.injEq] at e
    obtain ⟨_, rfl, rfl⟩ := e
    exact Nat.le_refl _
  · simp only [Value.slice.injEq] at e
    obtain ⟨_, rfl, rfl⟩ := e
    exact hc

set_option maxHeartbeats 2000000 in
set_option maxRecDepth 100000 in
theorem searchFrom_cap (nv pv : Value) (n : Net) (v : Int) (w : World) (h : NetAt w nv pv n) (hb : netB n = true) (h0 : 0 ≤ v) (h1 : v < n.nodes.length) :
    Calls Try.prog 143 #[.agg #[nv, pv], .int .i64 v] w (SrOutC w (srch n v)) := by
  obtain ⟨a0, k0, rfl⟩ := h.1.shape
  obtain ⟨a1, k1, rfl⟩ := h.2.2.shape
  have hnl := netB_t hb
  have HP := hid h
  have hmk := run_make_row' (P := Try.prog) 33 2 (.int .i64 0) 8 Try.underlying33 info64 rfl .i64 .i64 n.nodes.length (by omega) (by omega)
  clear h
  go_enter Try.func143, Try.ntmps143
  go_upto_region 1 with fail
  go_cut [5] (fun s5 wx => SCut n.nodes.length v [.slice a0 n.nodes.length k0, .slice a1 n.pipes.length k1] w s5 wx)
  case first =>
    go_region
    all_goals go_wp2_with fail
    all_goals go_meet
    all_goals
      (obtain ⟨x0, x1, x2, x3, x4, x5, x6⟩ := six w (.cells #[.slice a0 n.nodes.length k0, .slice a1 n.pipes.length k1] 27) (.cells #[.slice none 0 0, .slice none 0 0, .slice none 0 0] 117) _ _ _ _
       apply Exists.intro
       apply Exists.intro
       apply Exists.intro
       apply Exists.intro
       refine ⟨rfl, ?_, ?_, ?_, ?_, ?_, ?_, x0, x1, x6⟩
       · first | exact x2 | exact x3 | exact x4 | exact x5
       · first | exact x2 | exact x3 | exact x4 | exact x5
       · first | exact x2 | exact x3 | exact x4 | exact x5
       · first | exact x2 | exact x3 | exact x4 | exact x5
       · exact ⟨by omega, by omega, by omega, by omega, by omega, by omega⟩
       · exact ⟨by omega, by omega, by omega, by omega⟩)
  case rest =>
    clear hmk
    obtain ⟨bs, bo, bd, be, rfl, y0, y1, y2, y3, ap, ⟨z0, z1, z2, z3⟩, y4, y5, yb⟩ := hcut
    have HS : Hid (SAll n.nodes.length bs bd be [.slice a0 n.nodes.length k0, .slice a1 n.pipes.length k1] w ⟨[v], fillM n.nodes.length 0, fillM n.nodes.length 0⟩ wc) := by
      refine ⟨_, ⟨y0, ?_, ?_, ?_, ?_, ?_, ?_⟩, ?_, ⟨_, y5⟩, yb⟩
      · exact ⟨rfl, Or.inr ⟨bo, 1, #[.int .i64 v], rfl, z0, y1, Nat.le_refl 1, by simp [maxLen], rfl, rfl⟩⟩
      · exact intBlk_made _ _ _ _ y2
      · exact intBlk_made _ _ _ _ y3
      · simp [Value.ownBlock]; omega
      · simp [Value.ownBlock]; omega
      · simp [Value.ownBlock]; omega
      · refine ⟨?_, fun j hj => by rw [World.cell?, y4]; (simp at hj ⊢) <;> simp [hj]⟩
        rcases Nat.lt_or_ge w.heap.size wc.heap.size with h1 | h1
        · exact h1
        · simp [Array.getElem?_eq_none h1] at y4
    have AP := hid ap
    obtain ⟨p1, p2, p3, p4, p5, p6⟩ := ap
    clear y0 y1 y2 y3 z0 z1 z2 z3 y4 y5 yb
    have hbox := (HS.out).choose_spec.2.1
    obtain ⟨c0, c1⟩ := hbox.two
    clear hbox
    go_wp2_with fail
    go_loopw [26] (fun i wr => S1Rel n.nodes.length bs bd be [.slice a0 n.nodes.length k0, .slice a1 n.pipes.length k1] v w i wr) (fun i _ => n.nodes.length - (intOf i).toNat)
    case atStart => exact ⟨0, rfl, by omega, HS.out⟩
    case round =>
      clear HS c0 c1
      obtain ⟨k, rfl, hk, ov, sm, bx, hr, hbel⟩ := hrel
      by_cases hlt : k < n.nodes.length
      · 
        obtain ⟨e0, e1, e2, ef⟩ := three_cells sm.box
        have f1 := sm.dst.frozen k
        have f2 := sm.ent.frozen k
        have l1 := fillM_len n.nodes.length k (by omega)
        obtain ⟨o1, d1⟩ : ∃ o1, wr.cell? ⟨bd, k, none⟩ = some o1 := ⟨_, sm.dst.cell k (by simp only; omega)⟩
        obtain ⟨o2, d2⟩ : ∃ o2, wr.cell? ⟨be, k, none⟩ = some o2 := ⟨_, sm.ent.cell k (by simp only; omega)⟩
        have HM := hid (sm.set2 AP.out k k (-1) (-1))
        have HX := hid bx
        have HR := hid hr
        have HB := hid ((hbel.setCell (p := ⟨bd, k, none⟩) (by simp only; omega) (.int .i64 (-1))).setCell (p := ⟨be, k, none⟩) (by simp only; omega) (.int .i64 (-1)))
        clear sm bx hr hbel l1
        go_wp2_with fail
        go_region
        go_wp2_with fail
        go_roundw
        case rel =>
          have kk : Kept (fun b => b = bd ∨ b = be) wr ((wr.setCell ⟨bd, k, none⟩ (.int .i64 (-1))).setCell ⟨be, k, none⟩ (.int .i64 (-1))).drew := (((Kept.refl _ _).setCell (Or.inl rfl) _).setCell (Or.inr rfl) _).drew
          refine ⟨k + 1, by go_num, by omega, ov, ?_, HX.out.kept kk (by omega), ?_, HB.out.drew⟩
          · have := HM.out
            simp only [fillM_set _ _ hlt] at this
            exact this.below (Below.refl _ _).drew
          · obtain ⟨r, hr⟩ := HR.out
            refine ⟨r, ?_⟩
            rw [kk.block _ (by rcases Nat.lt_or_ge (w.heap.size + 1) wr.heap.size with h1 | h1; exact h1; simp [Array.getElem?_eq_none h1] at hr) (by omega)]
            exact hr
        case measure => simp [intOf]; omega
      · obtain rfl : k = n.nodes.length := by omega
        have vv : v.toNat < n.nodes.length := by omega
        have hfm : fillM n.nodes.length n.nodes.length = List.replicate n.nodes.length (-1) := by simp [fillM]
        rw [hfm] at sm
        clear hfm
        obtain ⟨e0, e1, e2, ef⟩ := three_cells sm.box
        have f1 := sm.dst.frozen v.toNat
        obtain ⟨o1, d1⟩ : ∃ o1, wr.cell? ⟨bd, v.toNat, none⟩ = some o1 := ⟨_, sm.dst.cell v.toNat (by simpa using vv)⟩
        have HA : Hid (SAll n.nodes.length bs bd be [.slice a0 n.nodes.length k0, .slice a1 n.pipes.length k1] w (sIter n v 0) (wr.setCell ⟨bd, v.toNat, none⟩ (.int .i64 0))) := by
          have kk : Kept (fun b => b = bd) wr (wr.setCell ⟨bd, v.toNat, none⟩ (.int .i64 0)) := (Kept.refl (fun b => b = bd) _).setCell (p := ⟨bd, v.toNat, none⟩) rfl _
          obtain ⟨r, hr⟩ := hr
          refine ⟨ov, sm.set1 AP.out v.toNat 0, bx.kept kk (by omega), ⟨r, ?_⟩, hbel.setCell (p := ⟨bd, v.toNat, none⟩) (by simp only; omega) _⟩
          rw [kk.block _ (by rcases Nat.lt_or_ge (w.heap.size + 1) wr.heap.size with h1 | h1; exact h1; simp [Array.getElem?_eq_none h1] at hr) (by omega)]
          exact hr
        clear sm bx hr hbel
        go_wp2_with fail
        go_loopw [7] (fun i wr => S2Rel n v bs bd be [.slice a0 n.nodes.length k0, .slice a1 n.pipes.length k1] w i wr) (fun i _ => n.nodes.length - (intOf i).toNat)
        case atStart => exact ⟨0, rfl, by omega, HA.out⟩
        case round =>
          clear HA
          obtain ⟨k, rfl, hk, ov, sm, bx, hr, hbel⟩ := hrel
          have g := good_iter hb h0 h1 k
          have hle := g.le_nodes
          obtain ⟨s, hs⟩ : ∃ s, s = sIter n v k := ⟨_, rfl⟩
          have hsucc : Hid (sIter n v (k + 1) = if k < s.order.length then scan n (s.order.getD k 0) s else s) := by rw [hs]; rfl
          have hend : Hid (¬ k < s.order.length → s = srch n v) := by rw [hs]; exact fun h => sIter_end hb h0 h1 h hk
          have hpre : Hid (s.order <+: (sIter n v (k + 1)).order) := by rw [hs]; exact sIter_pre n v k
          rw [← hs] at g sm hk hle
          clear hs
          obtain ⟨e0, e1, e2, ef⟩ := three_cells sm.box
          obtain ⟨ao, co, rfl, hcs⟩ := sm.ord.shape
          obtain ⟨go, rfl, hgo, hgl, hgf, hgc⟩ := hcs.resolve_left (by intro e; have := g.pos; simp [e] at this)
          obtain ⟨c0, c1⟩ := bx.two
          clear hcs
          by_cases hlt : k < s.order.length
          · have hu := List.getElem_mem hlt
            obtain ⟨a, ha⟩ : ∃ a : Nat, s.order[k] = a := ⟨(s.order[k]).toNat, by have := (g.rng _ hu).1; omega⟩
            have q0 := hgc k hlt
            rw [ha] at q0
            rw [ha] at hu
            have hra := g.rng _ hu
            have hget : s.order.getD k 0 = a := by simp [List.getD, hlt, ha]
            have hsc := hsucc.out
            rw [if_pos hlt, hget] at hsc
            have HSC := hid hsc
            have HG := hid g
            have HSM := hid sm
            have HBX := hid bx
            have HR := hid hr
            have HB := hid hbel
            have HNA := hid (HP.out.below hbel)
            have hso := sm.ord.lt go rfl
            have hsl := sm.lt
            have hdl := sm.dst.lt
            have hel := sm.ent.lt
            clear sm bx hr hbel hgc ha hget hsc hsucc hend
            go_wp2_with fail
            refine (pipesAt_any _ _ n a _ HNA.out (by omega)).mono ?_
            rintro e w2 ⟨r, rfl, hrs, b2⟩
            have hL0 := hid (show Slc (fun b => wr.heap.size ≤ b ∧ b < w2.heap.size) w2 r (pipesOf n a) from hrs)
            obtain ⟨L, hL⟩ : ∃ L, L = pipesOf n a := ⟨_, rfl⟩
            have HL := hid hL
            rw [← hL] at hL0
            have hLl : L.length ≤ 1000 := by rw [hL]; have := selP_len (atF a) n.pipes n.pipes.length; unfold pipesOf; omega
            have HM2 := hid (HSM.out.below b2)
            have HX2 := hid (HBX.out.below b2)
            have HB2 := hid (HB.out.trans (b2.mono HB.out.size))
            have HR2 : Hid (∃ r, w2.heap[w.heap.size + 1]? = some (.cells #[r, r, r] 117 (0, 0))) := by
              obtain ⟨r, hr⟩ := HR.out
              exact ⟨r, by rw [b2.block _ (block_lt hr)]; exact hr⟩
            have hz2 := b2.size
            obtain ⟨_, ra, rc, rfl, _⟩ := hL0.out
            clear b2 hL hrs HSM HBX HB HR HNA c0 c1 e0 e1 e2 ef q0 hgf
            go_wp2_with fail
            go_loopw [58] (fun i wx => S3Rel n a s L bs bd be [.slice a0 n.nodes.length k0, .slice a1 n.pipes.length k1] w wr.heap.size w2.heap.size (.slice ra L.length rc) i wx) (fun i _ => L.length - (intOf i).toNat)
            case atStart =>
              refine ⟨0, rfl, by omega, _, HM2.out, HX2.out, HR2.out, HB2.out, hL0.out, ?_, Nat.le_refl _⟩
              intro b hb2 hbb
              simp [Value.ownBlock] at hb2
              omega
            case round =>
              clear HM2 HX2 HB2 HR2 hL0
              obtain ⟨j, rfl, hj, ov, sm, bx, hr, hbel, hsl3, hnb, hhi⟩ := hrel
              have hLsub : ∀ i ∈ L.take j, i ∈ pipesOf n a := fun i hi => by rw [← HL.out]; exact List.mem_of_mem_take hi
              have gj := good_fold hb (L.take j) HG.out hu hLsub
              have huj := (fold_pre n a (L.take j) s).subset hu
              by_cases hjl : j < L.length
              · have hft := fold_take_succ (n := n) (a := a) (s := s) hjl
                obtain ⟨t, ht⟩ : ∃ t, t = (L.take j).foldl (relax n a) s := ⟨_, rfl⟩
                rw [← ht] at hft gj huj sm
                clear ht hLsub
                have hmemL : L[j] ∈ pipesOf n a := by rw [← HL.out]; exact List.getElem_mem hjl
                obtain ⟨i, hi, hip, hat⟩ := pipesOf_mem hmemL
                rw [hi] at hft
                obtain ⟨br, off, rfl, hbr, hbrl, _, hbc⟩ := hsl3.at (by omega)
                have q1 := hbc j hjl
                rw [hi] at q1
                obtain ⟨r1, r2, r3, r4, r5⟩ := oth_rng hb hip hat
                obtain ⟨m, hm⟩ : ∃ m : Nat, oth n.pipes[i] a = m := ⟨(oth n.pipes[i] a).toNat, by omega⟩
                have hoe : ∀ W : World, Calls Try.prog 95 #[.agg #[.int .i64 n.pipes[i].fr, .int .i64 n.pipes[i].to, .int .i64 n.pipes[i].k, .int .i64 n.pipes[i].vol, .int .i64 n.pipes[i].lim], .int .i64 a] W fun e w' => e = .returned (.int .i64 m) ∧ w' = W.alloc (.cells #[.int .i64 n.pipes[i].fr, .int .i64 n.pipes[i].to, .int .i64 n.pipes[i].k, .int .i64 n.pipes[i].vol, .int .i64 n.pipes[i].lim] 73) := fun W => by
                  have := otherEnd_alloc n.pipes[i] a W
                  rw [hm] at this
                  exact this
                have HO := hid hoe
                rw [hm] at r1 r2 r5
                have hml : m < t.dist.length := by rw [gj.ld]; omega
                have hal : a < t.dist.length := by rw [gj.ld]; omega
                have hml2 : m < t.ent.length := by rw [gj.le]; omega
                have e3 : t.dist.getD m 0 = t.dist[m] := by simp [List.getD, hml]
                have e4 : t.dist.getD a 0 = t.dist[a] := by simp [List.getD, hal]
                have hhia := gj.hi a
                have hma := (gj.mem a (by omega) (by omega)).2 huj
                rw [Int.toNat_natCast] at hma
                rw [e4] at hhia hma
                have hlej := gj.le_nodes
                obtain ⟨e0, e1, e2, ef⟩ := three_cells sm.box
                obtain ⟨c0, c1⟩ := bx.two
                obtain ⟨pb, poff, rfl, hpb, hpc⟩ := (HP.out.below hbel).2.2.at' (by omega)
                obtain ⟨x0, x1, x2, x3, x4⟩ := cellsP (hpc i hip)
                have d1 := sm.dst.cell m hml
                have d2 := sm.dst.cell a hal
                have d3 := sm.ent.cell m hml2
                have f1 := sm.dst.frozen m
                have f2 := sm.ent.frozen m
                have hbs3 := sm.lt
                have hbd3 := sm.dst.lt
                have hbe3 := sm.ent.lt
                clear hpc hmemL hi hat hoe hbc
                by_cases hneg : t.dist[m] < 0
                · 
                  rw [relax_yes hip hm (by rw [e3]; exact hneg), e4] at hft
                  have HFT := hid hft
                  have HM := hid (sm.set2 AP.out m m (t.dist[a] + 1) i)
                  have HX := hid bx
                  have HR := hid hr
                  have HB := hid hbel
                  have HS3 := hid hsl3
                  have HNB := hid hnb
                  have hlo := sm.ord.lt
                  have HLO := hid hlo
                  clear hft hm sm bx hr hbel hsl3 hnb gj hlo
                  go_wp2_with (go_at_call 95; refine (HO.out _).mono ?_; rintro e w' ⟨rfl, rfl⟩)
                  go_region
                  go_wp2_with (at_builtin; refine wpList_app1 rfl (.tmp 91) (.tmp 93) rfl (w.heap.size + 2) ov _ rfl (HM.out.ord.below ((below_new _ _).alloc (by simp) _).drew) (wr.heap.size + 1) (m : Int) rfl ?c1 ?c2 ?c3 ?_)
                  case c1 => exact cell_at_new _ _ _ _ (by simp)
                  case c2 => omega
                  case c3 => simp; omega
                  intro v1 w1 hv1 hk1 hb1
                  have hW := HM.out.below ((below_new _ (.cells #[.int .i64 n.pipes[i].fr, .int .i64 n.pipes[i].to, .int .i64 n.pipes[i].k, .int .i64 n.pipes[i].vol, .int .i64 n.pipes[i].lim] 73)).alloc (by simp) (.cells #[.int .i64 m] 2)).drew
                  have hnew := hW.app AP.out hv1 hk1 (by simpa using hb1) (by simp; omega) (by simp; omega)
                  have hbx1 := hk1.block bs (by simp; omega) hW.n1
                  rw [hW.box] at hbx1
                  obtain ⟨y0, y1, y2, yf⟩ := three_cells hbx1
                  have kk : Kept (fun b => b = bd ∨ b = be ∨ b = bs ∨ ov.ownBlock = some b) wr (w1.setCell ⟨bs, 0, none⟩ v1) :=
                    ((((((Kept.refl (fun b => b = bd ∨ b = be ∨ b = bs ∨ ov.ownBlock = some b) wr).setCell (p := ⟨bd, m, none⟩) (Or.inl rfl) (.int .i64 (t.dist[a] + 1))).setCell (p := ⟨be, m, none⟩) (Or.inr (Or.inl rfl)) (.int .i64 i)).alloc (.cells #[.int .i64 n.pipes[i].fr, .int .i64 n.pipes[i].to, .int .i64 n.pipes[i].k, .int .i64 n.pipes[i].vol, .int .i64 n.pipes[i].lim] 73)).alloc (.cells #[.int .i64 m] 2)).drew.trans (hk1.mono (fun b _ h => Or.inr (Or.inr (Or.inr h))))).setCell (p := ⟨bs, 0, none⟩) (Or.inr (Or.inr (Or.inl rfl))) v1
                  have HNEW := hid hnew
                  have KK := hid kk
                  have HB1 := hid hb1
                  have hln : (t.order ++ [(m : Int)]).length = t.order.length + 1 := by simp
                  obtain ⟨va, vc, hve, _⟩ := hv1.shape
                  simp only [hln] at hve
                  subst hve
                  clear hW hnew hbx1 hk1 hb1 hv1 kk
                  go_wp2_with fail
                  go_roundw
                  case rel =>
                    have hlo := HLO.out
                    have ho2 : ∀ b, b < wr.heap.size → ov.ownBlock = some b → w.heap.size + 2 ≤ b := fun b _ h => (hlo b h).1
                    refine ⟨j + 1, by go_num, by omega, _, by rw [HFT.out]; exact HNEW.out, HX.out.kept KK.out ?_, ?_, ?_, HS3.out.kept KK.out ?_, ?_, ?_⟩
                    · rintro (h | h | h | h)
                      · omega
                      · omega
                      · omega
                      · have := (hlo _ h).1; omega
                    · obtain ⟨r, hr⟩ := HR.out
                      refine ⟨r, ?_⟩
                      rw [KK.out.block _ (block_lt hr) ?_]
                      · exact hr
                      · rintro (h | h | h | h)
                        · omega
                        · omega
                        · omega
                        · have := (hlo _ h).1; omega
                    · exact HB.out.trans (KK.out.below HB.out.size (by
                        rintro b (h | h | h | h)
                        · omega
                        · omega
                        · omega
                        · have := (hlo _ h).1; omega))
                    · rintro b hbl hbb (h | h | h | h)
                      · omega
                      · omega
                      · omega
                      · exact HNB.out b h hbb
                    · intro b hb2 hbb
                      rcases HB1.out with h1 | h1
                      · rw [h1] at hb2; exact HNB.out b hb2 hbb
                      · rw [h1] at hb2
                        simp at hb2
                        omega
                    · have := KK.out.size; omega
                  case measure => simp [intOf]; omega
                · 
                  rw [relax_no hip hm (by rw [e3]; exact hneg)] at hft
                  have HFT := hid hft
                  have HM := hid (sm.below (below_new _ (.cells #[.int .i64 n.pipes[i].fr, .int .i64 n.pipes[i].to, .int .i64 n.pipes[i].k, .int .i64 n.pipes[i].vol, .int .i64 n.pipes[i].lim] 73)))
                  have HX := hid bx
                  have HR := hid hr
                  have HB := hid hbel
                  have HS3 := hid hsl3
                  have HNB := hid hnb
                  clear hft hm sm bx hr hbel hsl3 hnb gj
                  go_wp2_with (go_at_call 95; refine (HO.out _).mono ?_; rintro e w' ⟨rfl, rfl⟩)
                  go_roundw
                  case rel =>
                    refine ⟨j + 1, by go_num, by omega, ov, by rw [HFT.out]; exact HM.out, HX.out.below (below_new _ _), ?_, HB.out.alloc HB.out.size _, HS3.out.below (below_new _ _), HNB.out, by simp; omega⟩
                    obtain ⟨r, hr⟩ := HR.out
                    exact ⟨r, by rw [Below.heap_alloc _ _ _ (block_lt hr)]; exact hr⟩
                  case measure => simp [intOf]; omega
              · obtain rfl : j = L.length := by omega
                rw [List.take_length] at sm
                have hsi : sIter n v (k + 1) = L.foldl (relax n a) s := by rw [HSC.out, HL.out]; rfl
                have hpl := hpre.out.length_le
                have HSI := hid hsi
                have HM := hid sm
                have HX := hid bx
                have HR := hid hr
                have HB := hid hbel
                clear sm bx hr hbel hsl3 hnb gj huj hLsub hsi
                go_wp2_with fail
                go_roundw
                case rel =>
                  refine ⟨k + 1, by go_num, ?_, ov, by rw [HSI.out]; exact HM.out, HX.out, HR.out, HB.out⟩
                  omega
                case measure => simp [intOf]; omega
          · have hend := hend.out hlt
            subst hend
            have HM := hid sm
            have HX := hid bx
            have HB := hid hbel
            obtain ⟨r, hr⟩ := hr
            obtain ⟨r0, r1, r2, rf⟩ := three_cells hr
            clear sm bx hbel hgc hsucc hpre
            go_wp2_with fail
            have kk : ∀ v0 v1 v2, Kept (fun b => b = w.heap.size + 1) wr (((wr.setCell ⟨w.heap.size + 1, 0, none⟩ v0).setCell ⟨w.heap.size + 1, 1, none⟩ v1).setCell ⟨w.heap.size + 1, 2, none⟩ v2) := fun v0 v1 v2 =>
              (((Kept.refl (fun b => b = w.heap.size + 1) wr).setCell (p := ⟨w.heap.size + 1, 0, none⟩) rfl v0).setCell (p := ⟨w.heap.size + 1, 1, none⟩) rfl v1).setCell (p := ⟨w.heap.size + 1, 2, none⟩) rfl v2
            have hM := HM.out
            have hd1 := hM.dst.lt
            have he1 := hM.ent.lt
            have ld := g.ld
            have le := g.le
            refine bodyPost_ret (v := .agg #[.slice (some ⟨go, 0, none⟩) (srch n v).order.length co, .slice (some ⟨bd, 0, none⟩) n.nodes.length n.nodes.length, .slice (some ⟨be, 0, none⟩) n.nodes.length n.nodes.length]) (by simp [results, Try.results143, go_sem, r0, r1, r2]) rfl ⟨_, _, _, rfl, ?_, ?_, ?_, ?_, hM.ord.capOk⟩
            · exact ((hM.ord.slc (by omega)).kept (kk _ _ _) (fun b _ h h' => by omega)).mono (fun b hb h => ⟨by omega, hb⟩)
            · have := hM.dst.slc (P := fun b => w.heap.size + 2 ≤ b ∧ b < wr.heap.size) (cap := n.nodes.length) ⟨by omega, hd1⟩ (by omega)
              rw [ld] at this
              exact (this.kept (kk _ _ _) (fun b _ h h' => by omega)).mono (fun b hb h => ⟨by omega, hb⟩)
            · have := hM.ent.slc (P := fun b => w.heap.size + 2 ≤ b ∧ b < wr.heap.size) (cap := n.nodes.length) ⟨by omega, he1⟩ (by omega)
              rw [le] at this
              exact (this.kept (kk _ _ _) (fun b _ h h' => by omega)).mono (fun b hb h => ⟨by omega, hb⟩)
            · exact HB.out.trans ((kk _ _ _).below HB.out.size (fun b h => by omega))

theorem searchFrom_any (nv pv : Value) (n : Net) (v : Int) (w : World) (h : NetAt w nv pv n) (hb : netB n = true) (h0 : 0 ≤ v) (h1 : v < n.nodes.length) :
    Calls Try.prog 143 #[.agg #[nv, pv], .int .i64 v] w (SrOut w (srch n v)) :=
  (searchFrom_cap nv pv n v w h hb h0 h1).mono fun _ _ ⟨ov, dv, ev, h1, h2, h3, h4, h5, _⟩ => ⟨ov, dv, ev, h1, h2, h3, h4, h5⟩

end Go.Proofs.Ytdapdaadglaoiaa
