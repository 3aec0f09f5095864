/- spec.l05Tree: the network of the forest's pipes. The cycle of a chord, plain: what the steps of l05Cycle want to know. No program. spec.l05Cycle: the cycle of a chord along the tree. -/
import Derived.Test.YtdapdaadglaoiaaForestS
import Derived.Test.YtdapdaadglaoiaaRows2
import Derived.Test.YtdapdaadglaoiaaCycP
import Derived.Test.YtdapdaadglaoiaaPathS
import Derived.StillTailTactics
import Derived.Deep.QuietTactic
namespace Go.Proofs.Ytdapdaadglaoiaa
open Go.RowKit

theorem row1_at {α : Type} {en : α → List Value} {sz : Nat} {w : World} {b : Nat} {x : α} {T : TypeId} (h : w.heap[b]? = some (.cells (en x).toArray T (0, 0))) : RowsAt en sz w (.slice (some ⟨b, 0, none⟩) 1 1) [x] := by
  refine ⟨by simp, _, _, rfl, .inr ⟨b, 0, rfl, block_lt h, fun i hi => ?_⟩⟩
  obtain rfl : i = 0 := by simpa using hi
  intro j hj
  have hj' : j < (en x).length := by simpa using hj
  simp [World.cell?, h, hj']
theorem cell_far2 {w : World} {b o b' o' : Nat} {u : Value} (h : b ≠ b' ∨ o ≠ o') : (w.setCell ⟨b, o, none⟩ u).cell? ⟨b', o', none⟩ = w.cell? ⟨b', o', none⟩ :=
  World.cell?_setCell_other w ⟨b, o, none⟩ ⟨b', o', none⟩ u (fun e => h.elim (fun h => h (congrArg Addr.block e)) (fun h => h (congrArg Addr.off e)))
theorem treeAt {X : Nat → Prop} {w W : World} {nv pv qv : Value} {n : Net} (h : NetAt w nv pv n) (hb : Below w.heap.size w W) (hr : RowsOwn encP 5 X W qv (treeN n).pipes) : NetAt W nv qv (treeN n) := ⟨(h.below hb).1, (h.below hb).2.1, hr.at⟩
def TrRel (n : Net) (l : List Value) (w : World) (B : Nat) (fv : Value) (i p : Value) (wr : World) : Prop :=
  ∃ k : Nat, i = .int .i64 k ∧ k ≤ (forest n).length ∧ OwnR encP 5 73 B wr p (((forest n).take k).map (pAt n)) ∧ Box wr w.heap.size l ∧ (∃ x y, wr.heap[w.heap.size + 1]? = some (.cells #[x, y] 27 (0, 0))) ∧
    Slc (fun c => w.heap.size + 1 < c ∧ c < B) wr fv (forest n) ∧ Below w.heap.size w wr ∧ B ≤ wr.heap.size

set_option maxHeartbeats 1000000 in
set_option maxRecDepth 100000 in
theorem l05Tree_any (nv pv : Value) (n : Net) (w : World) (h : NetAt w nv pv n) (hb : netB n = true) :
    Calls Try.prog 170 #[.agg #[nv, pv]] w fun e w' => ∃ qv fv, e = .returned (.tuple #[.agg #[nv, qv], fv]) ∧ RowsOwn encP 5 (fun b => w.heap.size < b ∧ b < w'.heap.size) w' qv (treeN n).pipes ∧ Slc (fun c => w.heap.size ≤ c ∧ c < w'.heap.size) w' fv (forest n) ∧ Below w.heap.size w w' := by
  obtain ⟨a0, k0, rfl⟩ := h.1.shape
  obtain ⟨a1, k1, rfl⟩ := h.2.2.shape
  have hnl := netB_t hb
  have HP := hid h
  have hWb := (below_new w (.cells #[.slice a0 n.nodes.length k0, .slice a1 n.pipes.length k1] 27)).alloc (by simp) (.cells #[.slice none 0 0, .slice none 0 0] 27)
  have hbx := (Box.new w #[.slice a0 n.nodes.length k0, .slice a1 n.pipes.length k1] 27).below (below_new _ (.cells #[.slice none 0 0, .slice none 0 0] 27))
  obtain ⟨c0, c1⟩ := hbx.two
  have h := h.below hWb
  have hfl := forest_le n
  have HM : Hid (∀ j (hj : j < (forest n).length), ∃ i : Nat, (forest n)[j] = i ∧ i < n.pipes.length) := fun j hj => by
    obtain ⟨i, h1, h2, _⟩ := forest_mem.1 (List.getElem_mem hj)
    exact ⟨i, h1, h2⟩
  have hbx1 : ((w.alloc (.cells #[.slice a0 n.nodes.length k0, .slice a1 n.pipes.length k1] 27)).alloc (.cells #[.slice none 0 0, .slice none 0 0] 27)).heap[w.heap.size + 1]? = some (.cells #[.slice none 0 0, .slice none 0 0] 27 (0, 0)) := by
    have := heap_alloc_new (w.alloc (.cells #[.slice a0 n.nodes.length k0, .slice a1 n.pipes.length k1] 27)) (.cells #[.slice none 0 0, .slice none 0 0] 27)
    rw [World.size_alloc] at this
    exact this
  go_enter Try.func170, Try.ntmps170
  go_wp2_with fail
  refine (l04Forest_any _ _ n _ h hb).mono ?_
  rintro e w1 ⟨r, rfl, o1, b1⟩
  have z1 := b1.size
  simp only [World.size_alloc] at z1
  have HB := hid (hWb.trans (b1.mono hWb.size))
  have HX := hid (hbx.below b1)
  have HR : Hid (∃ x y, w1.heap[w.heap.size + 1]? = some (.cells #[x, y] 27 (0, 0))) := ⟨_, _, (b1.block _ (by simp)).trans hbx1⟩
  have SF := hid ((o1.slc (by omega)).mono (Q := fun c => w.heap.size + 1 < c ∧ c < w1.heap.size) (fun c _ h => ⟨by have := h.1; simp at this; omega, h.2⟩))
  obtain ⟨fa, fc, rfl, _⟩ := o1.shape
  clear b1 hWb hbx hbx1 h o1 c0 c1
  go_wp2_with fail
  go_loopw [6, 5] (fun i p wr => TrRel n [.slice a0 n.nodes.length k0, .slice a1 n.pipes.length k1] w w1.heap.size (.slice fa (forest n).length fc) i p wr) (fun i _ _ => (forest n).length - (intOf i).toNat)
  case atStart =>
    obtain ⟨x, y, hr⟩ := HR.out
    exact ⟨0, rfl, by omega, OwnR.made _ _ _ _ _ (Nat.le_refl _), HX.out.below (below_new _ _), ⟨x, y, by rw [(below_new w1 (.cells #[] 73)).block _ (by omega)]; exact hr⟩, SF.out.below (below_new _ _), HB.out.alloc HB.out.size _, by simp⟩
  case round =>
    clear HX HB SF HR
    obtain ⟨k, rfl, hk, ho, bx, hr, sc, hbel, hB1⟩ := hrel
    have hpl : (((forest n).take k).map (pAt n)).length = k := by simp; omega
    by_cases hlt : k < (forest n).length
    · have hltI : (k : Int) < (forest n).length := by omega
      obtain ⟨i, hi, hip⟩ := HM.out k hlt
      have hipI : (i : Int) < n.pipes.length := by omega
      obtain ⟨db, doff, rfl, hdb, hdbl, _, hdc⟩ := sc.at (by omega)
      have q0 := hdc k hlt
      rw [hi] at q0
      have hS : Hid (((forest n).take (k + 1)).map (pAt n) = ((forest n).take k).map (pAt n) ++ [n.pipes[i]]) := by
        rw [Hid, List.take_succ_eq_append_getElem hlt, List.map_append, hi]
        simp [pAt_nat hip]
      obtain ⟨pb0, poff, rfl, hpb5, hpc5⟩ := HP.out.2.2.at' (by omega)
      have hpc : CellsAt wr pb0 (poff + i * 5) (encP n.pipes[i]) := (hpc5 i hip).kept (hbel.block pb0 hpb5)
      have hpb : pb0 < wr.heap.size := by have := hbel.size; omega
      obtain ⟨x0, x1, x2, x3, x4⟩ := cellsP hpc
      obtain ⟨X10, X11⟩ := bx.two
      have zx := bx.1
      have HO := hid ho
      have HBL := hid hbel
      have HBX := hid bx
      have HR := hid hr
      have HSC := hid sc
      have zw := hbel.size
      have hlo := ho.lt
      have KP : Hid (∀ W, Below wr.heap.size wr W → W.cell? ⟨w.heap.size, 1, none⟩ = some (.slice (some ⟨pb0, poff, none⟩) n.pipes.length k1) ∧ W.cell? ⟨db, doff + k, none⟩ = some (.int .i64 i) ∧ W.cell? ⟨pb0, poff + i * 5, none⟩ = some (.int .i64 n.pipes[i].fr) ∧ W.cell? ⟨pb0, poff + i * 5 + 1, none⟩ = some (.int .i64 n.pipes[i].to) ∧ W.cell? ⟨pb0, poff + i * 5 + 2, none⟩ = some (.int .i64 n.pipes[i].k) ∧ W.cell? ⟨pb0, poff + i * 5 + 3, none⟩ = some (.int .i64 n.pipes[i].vol) ∧ W.cell? ⟨pb0, poff + i * 5 + 4, none⟩ = some (.int .i64 n.pipes[i].lim)) := fun W hW =>
        ⟨(hW.cell (p := ⟨w.heap.size, 1, none⟩) zx).trans X11, (hW.cell (p := ⟨db, doff + k, none⟩) hdbl).trans q0, (hW.cell (p := ⟨pb0, _, none⟩) hpb).trans x0, (hW.cell (p := ⟨pb0, _, none⟩) hpb).trans x1, (hW.cell (p := ⟨pb0, _, none⟩) hpb).trans x2, (hW.cell (p := ⟨pb0, _, none⟩) hpb).trans x3, (hW.cell (p := ⟨pb0, _, none⟩) hpb).trans x4⟩
      have kq : ∀ (W W' : World), Kept (fun b => u5.ownBlock = some b) W W' → Below wr.heap.size wr W → (fun W => W.cell? ⟨w.heap.size, 1, none⟩ = some (.slice (some ⟨pb0, poff, none⟩) n.pipes.length k1) ∧ W.cell? ⟨db, doff + k, none⟩ = some (.int .i64 i) ∧ W.cell? ⟨pb0, poff + i * 5, none⟩ = some (.int .i64 n.pipes[i].fr) ∧ W.cell? ⟨pb0, poff + i * 5 + 1, none⟩ = some (.int .i64 n.pipes[i].to) ∧ W.cell? ⟨pb0, poff + i * 5 + 2, none⟩ = some (.int .i64 n.pipes[i].k) ∧ W.cell? ⟨pb0, poff + i * 5 + 3, none⟩ = some (.int .i64 n.pipes[i].vol) ∧ W.cell? ⟨pb0, poff + i * 5 + 4, none⟩ = some (.int .i64 n.pipes[i].lim)) W' := fun W W' hk hW => by
        obtain ⟨e1, e2, e3, e4, e5, e6, e7⟩ := KP.out W hW
        have ne : ∀ b, b < w1.heap.size → ¬ (u5.ownBlock = some b) := fun b h1 h2 => by have := (hlo b h2).1; omega
        exact ⟨hk.cell e1 (ne _ (by simp only; omega)), hk.cell e2 (ne _ (by simp only; omega)), hk.cell e3 (ne _ (by simp only; omega)), hk.cell e4 (ne _ (by simp only; omega)), hk.cell e5 (ne _ (by simp only; omega)), hk.cell e6 (ne _ (by simp only; omega)), hk.cell e7 (ne _ (by simp only; omega))⟩
      clear hdc hpc ho hbel hi bx hr sc
      go_wp2_with fail
      go_region_held3 (fun W => W.cell? ⟨w.heap.size, 1, none⟩ = some (.slice (some ⟨pb0, poff, none⟩) n.pipes.length k1) ∧ W.cell? ⟨db, doff + k, none⟩ = some (.int .i64 i) ∧ W.cell? ⟨pb0, poff + i * 5, none⟩ = some (.int .i64 n.pipes[i].fr) ∧ W.cell? ⟨pb0, poff + i * 5 + 1, none⟩ = some (.int .i64 n.pipes[i].to) ∧ W.cell? ⟨pb0, poff + i * 5 + 2, none⟩ = some (.int .i64 n.pipes[i].k) ∧ W.cell? ⟨pb0, poff + i * 5 + 3, none⟩ = some (.int .i64 n.pipes[i].vol) ∧ W.cell? ⟨pb0, poff + i * 5 + 4, none⟩ = some (.int .i64 n.pipes[i].lim))
        (first | exact KP.out _ (Below.refl _ _).drew | exact KP.out _ ((Below.refl _ _).drew.alloc (Nat.le_refl _) _) | exact KP.out _ (below_new _ _).drew | exact KQ.out)
        (first
          | (refine step_appP rfl (.tmp 16) (.tmp 25) rfl w1.heap.size u5 (.slice (some ⟨wr.heap.size, 0, none⟩) 1 1) (((forest n).take k).map (pAt n)) [n.pipes[i]] rfl rfl ?_ ?_ ?_ ?_ ?_; (· first | exact HO.out.below (below_new _ _).drew | exact HO.out.below ((Below.refl _ _).drew.alloc (Nat.le_refl _) _)); (· first | exact row1_at (heap_alloc_new wr (.cells (encP n.pipes[i]).toArray 73)) | exact row1_at (heap_alloc_new wr.drew (.cells (encP n.pipes[i]).toArray 73))); (· simp; omega); (· simp; omega); intro v7 w7 h7 k7 b7; have KQ := hid (kq _ _ k7 (by first | exact (below_new _ _).drew | exact (Below.refl _ _).drew.alloc (Nat.le_refl _) _))))
      all_goals
        have bW := (show Below wr.heap.size wr _ from by first | exact (below_new wr (.cells (encP n.pipes[i]).toArray 73)).drew | exact (Below.refl wr.heap.size wr).drew.alloc (Nat.le_refl _) (.cells (encP n.pipes[i]).toArray 73))
        have hlB : ∀ b, u5.ownBlock = some b → w1.heap.size ≤ b := fun b hb => (HO.out.lt b hb).1
        have HBL7 := hid ((HBL.out.trans (bW.mono HBL.out.size)).trans (k7.below (B := w.heap.size) (Nat.le_trans zw bW.size) (fun b hb => by have := hlB b hb; omega)))
        have HBX7 := hid ((HBX.out.below bW).kept k7 (fun hb => by have := hlB _ hb; omega))
        have HR7 : Hid (∃ x y, w7.heap[w.heap.size + 1]? = some (.cells #[x, y] 27 (0, 0))) := by
          obtain ⟨x, y, hr⟩ := HR.out
          exact ⟨x, y, (k7.block _ (Nat.lt_of_lt_of_le (by omega : w.heap.size + 1 < wr.heap.size) bW.size) (fun hb => by have := hlB _ hb; omega)).trans ((bW.block _ (by omega)).trans hr)⟩
        have HSC7 := hid ((HSC.out.below bW).kept k7 (fun b _ h1 h2 => by have := hlB _ h2; omega))
        have hz7 : w1.heap.size ≤ w7.heap.size := Nat.le_trans hB1 (Nat.le_trans bW.size k7.size)
        have HV := hid h7
        clear k7 b7 h7 KP KQ X10 X11 x0 x1 x2 x3 x4 q0 bW kq hlo hlB
        go_wp2_with fail
        go_roundw
        case rel => exact ⟨k + 1, by go_num, by omega, by rw [hS.out]; exact HV.out, HBX7.out, HR7.out, HSC7.out, HBL7.out, hz7⟩
        case measure => simp [intOf]; omega
    · obtain rfl : k = (forest n).length := by omega
      rw [List.take_length] at ho
      have htl : ((forest n).map (pAt n)).length = (forest n).length := by simp
      obtain ⟨hrows, hcap⟩ := ho.own lenP (by omega)
      obtain ⟨X10, X11⟩ := bx.two
      obtain ⟨x, y, hr⟩ := hr
      obtain ⟨r0, r1, rf⟩ : wr.cell? ⟨w.heap.size + 1, 0, none⟩ = some x ∧ wr.cell? ⟨w.heap.size + 1, 1, none⟩ = some y ∧ (∀ o, wr.frozen? ⟨w.heap.size + 1, o, none⟩ = false) := ⟨by simp [World.cell?, hr], by simp [World.cell?, hr], fun o => by simp [World.frozen?, hr]⟩
      obtain ⟨_, pa, pc, hpe, _⟩ := id hrows
      rw [htl] at hpe
      subst hpe
      have HRW := hid hrows
      have HSC := hid sc
      have HBL := hid hbel
      clear ho sc hbel bx hr hrows htl
      go_wp2_with fail
      have kk : Kept (fun b => b = w.heap.size + 1) wr ((wr.setCell ⟨w.heap.size + 1, 0, none⟩ (.slice a0 n.nodes.length k0)).setCell ⟨w.heap.size + 1, 1, none⟩ (.slice pa (forest n).length pc)) :=
        ((Kept.refl (fun b => b = w.heap.size + 1) _).setCell (p := ⟨w.heap.size + 1, 0, none⟩) rfl _).setCell (p := ⟨w.heap.size + 1, 1, none⟩) rfl _
      have bf := HBL.out.trans (kk.below HBL.out.size (fun b hb => by omega))
      refine bodyPost_ret (v := .tuple #[.agg #[.slice a0 n.nodes.length k0, .slice pa (forest n).length pc], .slice fa (forest n).length fc]) (by simp [results, Try.results170, go_sem, r0, r1]) rfl ⟨_, _, rfl, ?_, ?_, ?_⟩
      · exact (HRW.out.kept kk (fun b _ h1 h2 => by omega)).mono (fun b _ h1 => ⟨by omega, by have := kk.size; omega⟩)
      · exact (HSC.out.kept kk (fun b _ h1 h2 => by omega)).mono (fun b _ h1 => ⟨by omega, by have := kk.size; omega⟩)
      · exact bf

end Go.Proofs.Ytdapdaadglaoiaa

namespace Go.Proofs.Ytdapdaadglaoiaa
open Go.RowKit

theorem pb_take {n : Net} {v : Int} {s : Sr} (g : Good n v s) (d : Nat) : ∀ x : Nat, (x : Int) ∈ s.order → s.dist.getD x 0 = d → ∀ k, k ≤ d →
    ∃ y : Nat, (y : Int) ∈ s.order ∧ s.dist.getD y 0 = k ∧ (pb n s d x).reverse.take k = (pb n s k y).reverse := by
  induction d with
  | zero =>
    intro x hx hd k hk
    obtain rfl : k = 0 := by omega
    exact ⟨x, hx, hd, rfl⟩
  | succ d ih =>
    intro x hx hd k hk
    have hne : (x : Int) ≠ v := fun e => by
      have := g.d0
      rw [← e, Int.toNat_natCast] at this
      omega
    obtain ⟨i, y, e, hi, he, h1, h2, h3, h4, h5, h6⟩ := g.back hx hne hd
    obtain rfl : e = d := by omega
    by_cases hkd : k ≤ e
    · obtain ⟨z, hz, hzd, hzt⟩ := ih y h4 h5 k hkd
      refine ⟨z, hz, hzd, ?_⟩
      rw [h6, List.reverse_cons, List.take_append_of_le_length (by simp [pb_len]; exact hkd)]
      exact hzt
    · obtain rfl : k = e + 1 := by omega
      exact ⟨x, hx, hd, by rw [List.take_of_length_le (by simp [pb_len])]⟩
theorem pb_elem {n : Net} {v : Int} {s : Sr} (g : Good n v s) (d : Nat) : ∀ x : Nat, (x : Int) ∈ s.order → s.dist.getD x 0 = d → ∀ j ∈ pb n s d x, ∃ i : Nat, j = i ∧ i < n.pipes.length := by
  induction d with
  | zero => intro x _ _ j hj; cases hj
  | succ d ih =>
    intro x hx hd j hj
    have hne : (x : Int) ≠ v := fun e => by
      have := g.d0
      rw [← e, Int.toNat_natCast] at this
      omega
    obtain ⟨i, y, e, hi, he, h1, h2, h3, h4, h5, h6⟩ := g.back hx hne hd
    obtain rfl : e = d := by omega
    rw [h6] at hj
    rcases List.mem_cons.1 hj with rfl | hj
    · exact ⟨i, rfl, hi⟩
    · exact ih y h4 h5 j hj
def csAt (n : Net) (c : Int) (k : Nat) : List Int × Int := ((pathOf (treeN n) (pAt n c).to (pAt n c).fr).take k).foldl (csStep n) (csIni n c)
theorem csAt_succ {n : Net} {c : Int} {k : Nat} (h : k < (pathOf (treeN n) (pAt n c).to (pAt n c).fr).length) : csAt n c (k + 1) = csStep n (csAt n c k) (pathOf (treeN n) (pAt n c).to (pAt n c).fr)[k] := by
  unfold csAt
  rw [List.take_succ_eq_append_getElem h, List.foldl_append]; rfl
theorem csAt_succ' {n : Net} {c : Int} {k : Nat} {P : List Int} (hp : pathOf (treeN n) (pAt n c).to (pAt n c).fr = P) (h : k < P.length) : csAt n c (k + 1) = csStep n (csAt n c k) P[k] := by
  subst hp
  exact csAt_succ h
theorem csAt_end (n : Net) (c : Int) : (csAt n c (pathOf (treeN n) (pAt n c).to (pAt n c).fr).length).1 = cyS n c := by
  unfold csAt cyS
  rw [List.take_length]
theorem csAt_len (n : Net) (c : Int) (k : Nat) : (csAt n c k).1.length = n.pipes.length := by
  have hf : ∀ (xs : List Int) (st : List Int × Int), (xs.foldl (csStep n) st).1.length = st.1.length := by
    intro xs
    induction xs with
    | nil => intro st; rfl
    | cons x xs ih => intro st; exact (ih _).trans (by simp [csStep])
  unfold csAt
  rw [hf]; simp [csIni]
theorem csStep_two (n : Net) (st : List Int × Int) (j : Int) : (csStep n st j).2 = (pAt (treeN n) j).fr + (pAt (treeN n) j).to - st.2 := rfl
theorem cyc_path {n : Net} (hb : netB n = true) {c : Nat} (hc : c < n.pipes.length) :
    ∃ t f : Nat, n.pipes[c].to = t ∧ n.pipes[c].fr = f ∧ t < n.nodes.length ∧ f < n.nodes.length ∧ t ≠ f ∧ 0 ≤ (srch (treeN n) t).dist.getD f 0 ∧
      (∀ k, k ≤ (pathOf (treeN n) t f).length → ∃ x : Nat, (csAt n c k).2 = x ∧ x < n.nodes.length) ∧
      (∀ k (hk : k < (pathOf (treeN n) t f).length), ∃ j q : Nat, (pathOf (treeN n) t f)[k] = j ∧ ∃ hj : j < (treeN n).pipes.length, (forest n).getD j 0 = q ∧ ∃ hq : q < n.pipes.length, (treeN n).pipes[j] = n.pipes[q]) := by
  obtain ⟨f0, f1, t0, t1, hne⟩ := netB_pipe hb (List.getElem_mem hc)
  have hbt := netB_tree hb
  obtain ⟨f, hf⟩ : ∃ f : Nat, n.pipes[c].fr = f := ⟨n.pipes[c].fr.toNat, by omega⟩
  obtain ⟨t, ht⟩ : ∃ t : Nat, n.pipes[c].to = t := ⟨n.pipes[c].to.toNat, by omega⟩
  rw [ht] at t0 t1 hne
  rw [hf] at f0 f1 hne
  have g := good_srch hbt (v := (t : Int)) t0 t1
  have at' : atF n.pipes[c].to n.pipes[c] = true := atF_iff.2 (Or.inr rfl)
  have ot : oth n.pipes[c] n.pipes[c].to = n.pipes[c].fr := by unfold oth; rw [if_neg (by rw [hf, ht]; exact hne)]
  have hr : Reach (treeN n) n.pipes[c].to f := (tree_reach hb _ _).2 (by rw [← hf]; exact Reach.refl.step ⟨c, hc, at', ot⟩)
  rw [ht] at hr
  have hm := (srch_iff hbt t0 t1 f).2 hr
  have hnn := g.nn hm
  rw [Int.toNat_natCast] at hnn
  obtain ⟨D, hD⟩ : ∃ D : Nat, (srch (treeN n) t).dist.getD f 0 = D := ⟨((srch (treeN n) t).dist.getD f 0).toNat, by omega⟩
  have hpath : pathOf (treeN n) t f = (pb (treeN n) (srch (treeN n) t) D f).reverse := by
    unfold pathOf
    rw [Int.toNat_natCast, hD, Int.toNat_natCast]
  have hcs : ∀ k, csAt n c k = ((pathOf (treeN n) t f).take k).foldl (csStep n) ((List.replicate n.pipes.length 0).set c 1, (t : Int)) := fun k => by
    unfold csAt csIni
    rw [pAt_nat hc, ht, hf, Int.toNat_natCast]
  refine ⟨t, f, ht, hf, by omega, by omega, by omega, hnn, fun k hk => ?_, fun k hk => ?_⟩
  · rw [hpath, List.length_reverse, pb_len] at hk
    obtain ⟨y, hy, hyd, hyt⟩ := pb_take g D f hm hD k hk
    have hys := g.rng _ hy
    refine ⟨y, ?_, by simpa [treeN] using hys.2⟩
    rw [hcs, hpath, hyt]
    have key : ∀ (d x : Nat) (o : List Int), (x : Int) ∈ (srch (treeN n) t).order → (srch (treeN n) t).dist.getD x 0 = d → ((pb (treeN n) (srch (treeN n) t) d x).reverse.foldl (csStep n) (o, (t : Int))).2 = x := by
      intro d
      induction d with
      | zero =>
        intro x o hx hd
        exact (g.zero hx (by rw [Int.toNat_natCast]; exact hd)).symm
      | succ d ih =>
        intro x o hx hd
        have hne : (x : Int) ≠ (t : Int) := fun e => by
          have h0 := g.d0
          rw [Int.toNat_natCast] at h0
          obtain rfl : x = t := by omega
          omega
        obtain ⟨i, y, e, hi, he, h1, h2, h3, h4, h5, h6⟩ := g.back hx hne hd
        obtain rfl : e = d := by omega
        rw [h6, List.reverse_cons, List.foldl_append]
        show (csStep n _ _).2 = _
        rw [csStep_two, ih y o h4 h5, pAt_nat hi]
        have h7 := oth_sum h2
        rw [h3] at h7
        omega
    exact key k y _ hy hyd
  · have hk2 : k < (pb (treeN n) (srch (treeN n) t) D f).reverse.length := by rw [← hpath]; exact hk
    have hmem : (pathOf (treeN n) t f)[k] ∈ pb (treeN n) (srch (treeN n) t) D f := by
      have h1 := List.getElem_mem hk
      generalize (pathOf (treeN n) t f)[k] = z at h1
      rw [hpath] at h1
      exact List.mem_reverse.1 h1
    obtain ⟨j, hj, hjl⟩ := pb_elem g D f hm hD _ hmem
    obtain ⟨q, hq, h1, _, h2⟩ := tree_pipe hjl
    exact ⟨j, q, hj, hjl, h1, hq, h2⟩
theorem csStep_nat {n : Net} {st : List Int × Int} {j q x : Nat} (hj : j < (treeN n).pipes.length) (hq : q < n.pipes.length) (h1 : (forest n).getD j 0 = q) (h2 : (treeN n).pipes[j] = n.pipes[q]) (hx : st.2 = x) :
    csStep n st j = (st.1.set q (if n.pipes[q].fr = x then 1 else -1), n.pipes[q].fr + n.pipes[q].to - x) := by
  unfold csStep
  rw [Int.toNat_natCast, h1, Int.toNat_natCast, pAt_nat hj, h2, hx]
end Go.Proofs.Ytdapdaadglaoiaa

namespace Go.Proofs.Ytdapdaadglaoiaa
open Go.RowKit

def CyRel (n : Net) (c t f : Nat) (l0 qv : Value) (w : World) (bT lo hi : Nat) (fv pv : Value) (i a : Value) (wr : World) : Prop :=
  ∃ k x : Nat, i = .int .i64 k ∧ k ≤ (pathOf (treeN n) t f).length ∧ a = .int .i64 x ∧ x < n.nodes.length ∧ (csAt n c k).2 = x ∧ IntBlk 2 wr (w.heap.size + 1) (csAt n c k).1 ∧ Box wr bT [l0, qv] ∧
    RowsOwn encP 5 (fun b => lo ≤ b ∧ b < hi) wr qv (treeN n).pipes ∧ Slc (fun b => lo ≤ b ∧ b < hi) wr fv (forest n) ∧ Slc (fun b => lo ≤ b ∧ b < hi) wr pv (pathOf (treeN n) t f) ∧ Below w.heap.size w wr ∧ hi ≤ wr.heap.size

set_option maxHeartbeats 2000000 in
set_option maxRecDepth 100000 in
theorem l05Cycle_any (nv pv : Value) (n : Net) (c : Nat) (w : World) (h : NetAt w nv pv n) (hb : netB n = true) (hc : c < n.pipes.length) :
    Calls Try.prog 133 #[.agg #[nv, pv], .int .i64 c] w fun e w' => ∃ r, e = .returned r ∧ Slc (fun b => w.heap.size ≤ b ∧ b < w'.heap.size) w' r (cyS n c) ∧ Below w.heap.size w w' := by
  obtain ⟨a0, k0, rfl⟩ := h.1.shape
  obtain ⟨a1, k1, rfl⟩ := h.2.2.shape
  have hnl := netB_t hb
  have HP := hid h
  have hbt := netB_tree hb
  obtain ⟨t, f, ht, hf, htl, hfl, htf, hdn, hAT, hEL⟩ := cyc_path hb hc
  have HAT := hid hAT
  have HEL := hid hEL
  have hpn : pathOf (treeN n) (pAt n c).to (pAt n c).fr = pathOf (treeN n) t f := by rw [pAt_nat hc, ht, hf]
  have HPN := hid hpn
  have htn : (treeN n).nodes.length = n.nodes.length := rfl
  have htp : (treeN n).pipes.length = (forest n).length := by simp [treeN]
  have hfle := forest_le n
  have hplen : (pathOf (treeN n) t f).length ≤ 1000 := by
    rw [pathOf_len, Int.toNat_natCast]
    have g := good_srch hbt (v := (t : Int)) (by omega) (by omega)
    have h1 := g.hi f
    have h2 := g.le_nodes
    omega
  clear hAT hEL hpn
  have hcI : (c : Int) < n.pipes.length := by omega
  have hmk := run_make_row' (P := Try.prog) 33 2 (.int .i64 0) 8 Try.underlying33 info64 rfl .i64 .i64 n.pipes.length (by omega) (by omega)
  have hWb := below_new w (.cells #[.slice a0 n.nodes.length k0, .slice a1 n.pipes.length k1] 27)
  have hbx := Box.new w #[.slice a0 n.nodes.length k0, .slice a1 n.pipes.length k1] 27
  obtain ⟨c0, c1⟩ := hbx.two
  go_enter Try.func133, Try.ntmps133
  go_upto_region 2 with fail
  have hI0 := IntBlk.made 2 (w.alloc (.cells #[.slice a0 n.nodes.length k0, .slice a1 n.pipes.length k1] 27)) n.pipes.length
  rw [World.size_alloc] at hI0
  have hW1 := hWb.alloc (by simp) (.cells (madeCells #[.int .i64 0] n.pipes.length) 2)
  have hbx1 := hbx.below (below_new _ (.cells (madeCells #[.int .i64 0] n.pipes.length) 2))
  have hz1 : ((w.alloc (.cells #[.slice a0 n.nodes.length k0, .slice a1 n.pipes.length k1] 27)).alloc (.cells (madeCells #[.int .i64 0] n.pipes.length) 2)).heap.size = w.heap.size + 1 + 1 := by simp
  obtain ⟨W1, hW1e⟩ : ∃ W1, (w.alloc (.cells #[.slice a0 n.nodes.length k0, .slice a1 n.pipes.length k1] 27)).alloc (.cells (madeCells #[.int .i64 0] n.pipes.length) 2) = W1 := ⟨_, rfl⟩
  rw [hW1e] at hI0 hW1 hbx1 hz1 ⊢
  have q0 := hI0.cell c (by simpa using hc)
  have f0 := hI0.frozen c
  have I1 := hid (hI0.set c 1)
  have kk1 : Kept (fun b => b = w.heap.size + 1) W1 (W1.setCell ⟨w.heap.size + 1, c, none⟩ (.int .i64 1)) := (Kept.refl (fun b => b = w.heap.size + 1) _).setCell (p := ⟨w.heap.size + 1, c, none⟩) rfl _
  have X1 := hid (hbx1.kept kk1 (by omega))
  have B1 := hid (hW1.trans (kk1.below hW1.size (fun b hb => by omega)))
  have N1 := hid (HP.out.below B1.out)
  have zz1 : (W1.setCell ⟨w.heap.size + 1, c, none⟩ (.int .i64 1)).heap.size = w.heap.size + 1 + 1 := by simp [hz1]
  obtain ⟨d0, d1⟩ := X1.out.two
  clear hmk hWb hbx hbx1 c0 c1 hW1 hW1e hI0 kk1
  go_wp2_with fail
  refine (l05Tree_any _ _ n _ N1.out hb).mono ?_
  rintro e w2 ⟨qv, fv, rfl, hq, hfv, b2⟩
  have z2 := b2.size
  obtain ⟨qa, qc, hqe⟩ := hq.at.shape
  rw [htp] at hqe
  subst hqe
  obtain ⟨_, fa, fc, hfe, _⟩ := id hfv
  subst hfe
  rw [zz1] at z2
  have I2 := hid (I1.out.kept (Kept.of_below (X := fun _ => False) b2) (fun e => e))
  have X2 := hid (X1.out.below b2)
  have B2 := hid (B1.out.trans (b2.mono B1.out.size))
  have Q2 := hid (hq.mono (Y := fun b => w.heap.size + 2 ≤ b ∧ b < w2.heap.size) (fun b _ h1 => ⟨by have := h1.1; omega, h1.2⟩))
  have F2 := hid (hfv.mono (Q := fun b => w.heap.size + 2 ≤ b ∧ b < w2.heap.size) (fun b _ h1 => ⟨by have := h1.1; omega, h1.2⟩))
  clear hq hfv b2 d0 d1 X1 B1 N1 I1 q0 f0
  go_upto_region 4 with fail
  have b3 := below_new w2 (.cells #[.slice a0 n.nodes.length k0, .slice qa (forest n).length qc] 27)
  have T3 := hid (Box.new w2 #[.slice a0 n.nodes.length k0, .slice qa (forest n).length qc] 27)
  have hz3 : (w2.alloc (.cells #[.slice a0 n.nodes.length k0, .slice qa (forest n).length qc] 27)).heap.size = w2.heap.size + 1 := by simp
  obtain ⟨W3, hW3⟩ : ∃ W3, w2.alloc (.cells #[.slice a0 n.nodes.length k0, .slice qa (forest n).length qc] 27) = W3 := ⟨_, rfl⟩
  rw [hW3] at b3 T3 hz3 ⊢
  have I3 := hid (I2.out.kept (Kept.of_below (X := fun _ => False) b3) (fun e => e))
  have X3 := hid (X2.out.below b3)
  have B3 := hid (B2.out.trans (b3.mono B2.out.size))
  have Q3 := hid (Q2.out.kept (Y := fun _ => False) (Kept.of_below b3) (fun _ _ _ e => e))
  have F3 := hid (F2.out.below b3)
  clear b3 hW3 I2 X2 B2 Q2 F2
  obtain ⟨d0, d1⟩ := X3.out.two
  obtain ⟨g0, g1⟩ := T3.out.two
  obtain ⟨pb0, poff, hpa, hpl, hpc⟩ := (HP.out.below B3.out).2.2.at' (by omega)
  subst hpa
  obtain ⟨x0, x1, x2, x3, x4⟩ := cellsP (hpc c hc)
  rw [hf] at x0
  rw [ht] at x1
  have hpth := fun W (hW : Below W3.heap.size W3 W) => l04Path_any _ _ (treeN n) t f W (treeAt HP.out (B3.out.trans (hW.mono B3.out.size)) (Q3.out.kept (Y := fun _ => False) (Kept.of_below hW) (fun _ _ _ e => e))) hbt (by omega) (by omega) (by omega) hdn
  have HPT := hid hpth
  clear hpth hpc
  go_wp2_with fail
  go_still_tail 8, (by kernel_rfl)
  change wpList _ _ _ _ _ (World.drew _)
  go_wp2_with fail
  refine (HPT.out _ (Below.refl _ _).drew).mono ?_
  rintro e w4 ⟨pv, rfl, hpv, b4⟩
  have b4 := below_undrew b4
  have z4 := b4.size
  obtain ⟨_, pa, pc, hpve, _⟩ := id hpv
  subst hpve
  have I4 := hid (I3.out.kept (Kept.of_below (X := fun _ => False) b4) (fun e => e))
  have T4 := hid (T3.out.below b4)
  have B4 := hid (B3.out.trans (b4.mono B3.out.size))
  have zw := B3.out.size
  have Q4 := hid ((Q3.out.kept (Y := fun _ => False) (Kept.of_below b4) (fun _ _ _ e => e)).mono (Y := fun b => w.heap.size + 2 ≤ b ∧ b < w4.heap.size) (fun b _ h1 => ⟨h1.1, by have := h1.2; omega⟩))
  have F4 := hid ((F3.out.below b4).mono (Q := fun b => w.heap.size + 2 ≤ b ∧ b < w4.heap.size) (fun b _ h1 => ⟨h1.1, by have := h1.2; omega⟩))
  have P4 := hid (hpv.mono (Q := fun b => w.heap.size + 2 ≤ b ∧ b < w4.heap.size) (fun b _ h1 => ⟨by have h2 := h1.1; simp only [World.drew] at h2; omega, h1.2⟩))
  have hz3b : w2.heap.size < w4.heap.size := by omega
  clear hpv b4 I3 T3 B3 Q3 F3 HPT x0 x1 x2 x3 x4 d0 d1 g0 g1 X3
  go_wp2_with fail
  go_loopw [10, 8] (fun i a wr => CyRel n c t f (.slice a0 n.nodes.length k0) (.slice qa (forest n).length qc) w w2.heap.size (w.heap.size + 2) w4.heap.size (.slice fa (forest n).length fc) (.slice pa (pathOf (treeN n) t f).length pc) i a wr) (fun i _ _ => (pathOf (treeN n) t f).length - (intOf i).toNat)
  case atStart =>
    refine ⟨0, t, rfl, by omega, rfl, htl, ?_, ?_, T4.out, Q4.out, F4.out, P4.out, B4.out, Nat.le_refl _⟩
    · show (pAt n c).to = t
      rw [pAt_nat hc, ht]
    · exact I4.out
  case round =>
    clear I4 T4 B4 Q4 F4 P4
    obtain ⟨k, x, rfl, hk, rfl, hxl, hx, hI, hT, hQ, hF, hP, hbel, hsz⟩ := hrel
    have hol := csAt_len n c k
    by_cases hlt : k < (pathOf (treeN n) t f).length
    · obtain ⟨j, q, e1, hj, e2, hq, e3⟩ := HEL.out k hlt
      obtain ⟨x', hx', hxl'⟩ := HAT.out (k + 1) (by omega)
      have hstep := csAt_succ' HPN.out hlt
      rw [e1, csStep_nat hj hq e2 e3 hx] at hstep
      obtain ⟨hs1, hs2⟩ := Prod.ext_iff.1 hstep
      have hnx : n.pipes[q].fr + n.pipes[q].to - (x : Int) = x' := by rw [← hx', hs2]
      obtain ⟨f0, f1, t0, t1, _⟩ := netB_pipe hb (List.getElem_mem hq)
      obtain ⟨F, hF0⟩ : ∃ F, n.pipes[q].fr = F := ⟨_, rfl⟩
      obtain ⟨T, hT0⟩ : ∃ T, n.pipes[q].to = T := ⟨_, rfl⟩
      rw [hF0] at hs1 hnx f0 f1
      rw [hT0] at hnx t0 t1
      have hjf : j < (forest n).length := by rw [← htp]; exact hj
      have hjI : (j : Int) < (forest n).length := by omega
      have hkI : (k : Int) < (pathOf (treeN n) t f).length := by omega
      have hqI : (q : Int) < n.pipes.length := by omega
      obtain ⟨qb, qo, hqa, hqbl, hqX, _, hqc⟩ := hQ.at' (by omega)
      subst hqa
      obtain ⟨y0, y1, _, _, _⟩ := cellsP (hqc j hj)
      rw [e3, hF0] at y0
      rw [e3, hT0] at y1
      obtain ⟨fb, fo, hfa, hfX, hfbl, _, hfcc⟩ := hF.at (by omega)
      subst hfa
      have u0 := hfcc j hjf
      have hfg : (forest n)[j] = q := by rw [← e2]; simp [List.getD, hjf]
      rw [hfg] at u0
      obtain ⟨bb, bo, hpaa, hpX, hpbl, _, hpcc⟩ := hP.at (by omega)
      subst hpaa
      have v0 := hpcc k hlt
      rw [e1] at v0
      obtain ⟨g0, g1⟩ := hT.two
      have o0 := hI.cell q (by rw [hol]; exact hq)
      have o1 := hI.frozen q
      obtain ⟨O, hO⟩ : ∃ O, (csAt n c k).1[q]'(by rw [hol]; exact hq) = O := ⟨_, rfl⟩
      rw [hO] at o0
      have HI := hid hI
      have HT := hid hT
      have HQ := hid hQ
      have HF := hid hF
      have HPP := hid hP
      have HB := hid hbel
      have HS1 := hid hs1
      have HX' := hid hx'
      have HNX := hid hnx
      have HF0 := hid hF0
      have HT0 := hid hT0
      have HE3 := hid e3
      clear hI hT hQ hF hP hbel hs1 hs2 hstep hx' hnx hF0 hT0 e1 e2 e3 hqc hfcc hpcc hfg hO hx
      have fin : ∀ sg : Int, (if F = (x : Int) then (1 : Int) else -1) = sg → ∀ W, Below (wr.setCell ⟨w.heap.size + 1, q, none⟩ (.int .i64 sg)).heap.size (wr.setCell ⟨w.heap.size + 1, q, none⟩ (.int .i64 sg)) W →
          CyRel n c t f (.slice a0 n.nodes.length k0) (.slice (some ⟨qb, qo, none⟩) (forest n).length qc) w w2.heap.size (w.heap.size + 2) w4.heap.size (.slice (some ⟨fb, fo, none⟩) (forest n).length fc) (.slice (some ⟨bb, bo, none⟩) (pathOf (treeN n) t f).length pc) (.int .i64 (k + 1 : Nat)) (.int .i64 x') W := fun sg hsg W hW => by
        have kk : Kept (fun b => b = w.heap.size + 1) wr (wr.setCell ⟨w.heap.size + 1, q, none⟩ (.int .i64 sg)) := (Kept.refl (fun b => b = w.heap.size + 1) _).setCell (p := ⟨w.heap.size + 1, q, none⟩) rfl _
        have k2 := kk.trans (Kept.of_below (X := fun b => b = w.heap.size + 1) hW)
        refine ⟨k + 1, x', rfl, by omega, rfl, hxl', HX'.out, ?_, HT.out.kept k2 (by omega), HQ.out.kept k2 (fun b _ h1 h2 => by omega), HF.out.kept k2 (fun b _ h1 h2 => by omega), HPP.out.kept k2 (fun b _ h1 h2 => by omega), HB.out.trans (k2.below HB.out.size (fun b h1 => by omega)), Nat.le_trans hsz k2.size⟩
        rw [HS1.out, hsg]
        exact (HI.out.set q sg).kept (Kept.of_below (X := fun _ => False) hW) (fun e => e)
      have HFIN := hid fin
      clear fin
      have HOT : Hid (∀ (sg : Int) (W : World), Below (wr.setCell ⟨w.heap.size + 1, q, none⟩ (.int .i64 sg)).heap.size (wr.setCell ⟨w.heap.size + 1, q, none⟩ (.int .i64 sg)) W →
          Calls Try.prog 98 #[.agg #[.slice a0 n.nodes.length k0, .slice (some ⟨qb, qo, none⟩) (forest n).length qc], .int .i64 j, .int .i64 x] W fun e w' => e = .returned (.int .i64 x') ∧ Below W.heap.size W w') := fun sg W hW => by
        have kk : Kept (fun b => b = w.heap.size + 1) wr (wr.setCell ⟨w.heap.size + 1, q, none⟩ (.int .i64 sg)) := (Kept.refl (fun b => b = w.heap.size + 1) _).setCell (p := ⟨w.heap.size + 1, q, none⟩) rfl _
        have k2 := kk.trans (Kept.of_below (X := fun b => b = w.heap.size + 1) hW)
        have hB2 := HB.out.trans (k2.below HB.out.size (fun b h1 => by omega))
        have ho := l02Other_any _ _ (treeN n) j x W (treeAt HP.out hB2 (HQ.out.kept k2 (fun b _ h1 h2 => by omega))) hj (by rw [HE3.out, HF0.out]; exact f0) (by rw [HE3.out, HF0.out]; omega) (by rw [HE3.out, HT0.out]; exact t0) (by rw [HE3.out, HT0.out]; omega) (by omega) (by omega)
        rw [HE3.out, HF0.out, HT0.out, HNX.out] at ho
        exact ho
      by_cases hsg : F = (x : Int)
      · have hbq : (F != (x : Int)) = false := by simpa using hsg
        have HSG := hid hsg
        clear hsg
        have sc0 := (cell_far2 (w := wr) (b := w.heap.size + 1) (o := q) (b' := w2.heap.size) (o' := 0) (u := .int .i64 1) (.inl (by omega))).trans g0
        have sc1 := (cell_far2 (w := wr) (b := w.heap.size + 1) (o := q) (b' := w2.heap.size) (o' := 1) (u := .int .i64 1) (.inl (by omega))).trans g1
        have sv0 := (cell_far2 (w := wr) (b := w.heap.size + 1) (o := q) (b' := bb) (o' := bo + k) (u := .int .i64 1) (.inl (by omega))).trans v0
        go_wp2_with fail
        go_quiet (fail)
        go_upto_region 13 with fail
        obtain ⟨W9, hW9⟩ : ∃ W9, (wr.drewN nq).setCell ⟨w.heap.size + 1, q, none⟩ (.int .i64 1) = W9 := ⟨_, rfl⟩
        have sc0 : W9.cell? ⟨w2.heap.size, 0, none⟩ = some (.slice a0 n.nodes.length k0) := by rw [← hW9]; exact sc0
        have sc1 : W9.cell? ⟨w2.heap.size, 1, none⟩ = some (.slice (some ⟨qb, qo, none⟩) (forest n).length qc) := by rw [← hW9]; exact sc1
        have sv0 : W9.cell? ⟨bb, bo + k, none⟩ = some (.int .i64 j) := by rw [← hW9]; exact sv0
        rw [hW9]
        have HW9 := hid hW9
        clear hW9
        go_still_tail 6, (by kernel_rfl)
        change wpList _ _ _ _ _ (World.drew _)
        go_wp2_with fail
        rw [← HW9.out]
        refine (HOT.out 1 (((wr.drewN nq).setCell ⟨w.heap.size + 1, q, none⟩ (.int .i64 1)).drew) ⟨rfl, rfl, rfl, Nat.le_refl _, fun _ _ => rfl⟩).mono ?_
        rintro e w5 ⟨rfl, b5⟩
        have b5 := (show Below (wr.setCell ⟨w.heap.size + 1, q, none⟩ (.int .i64 1)).heap.size (wr.setCell ⟨w.heap.size + 1, q, none⟩ (.int .i64 1)) w5 from ⟨b5.os, b5.tape, b5.output, b5.size, b5.block⟩)
        have R5 := hid (HFIN.out 1 (if_pos HSG.out) _ b5)
        clear b5 sc0 sc1 sv0 hbq
        go_wp2_with fail
        go_roundw
        case rel => exact R5.out
        case measure => simp [intOf]; omega
      · have hbq : (F != (x : Int)) = true := by simpa using hsg
        have HSG := hid hsg
        clear hsg
        have sc0 := (cell_far2 (w := wr) (b := w.heap.size + 1) (o := q) (b' := w2.heap.size) (o' := 0) (u := .int .i64 (-1)) (.inl (by omega))).trans g0
        have sc1 := (cell_far2 (w := wr) (b := w.heap.size + 1) (o := q) (b' := w2.heap.size) (o' := 1) (u := .int .i64 (-1)) (.inl (by omega))).trans g1
        have sv0 := (cell_far2 (w := wr) (b := w.heap.size + 1) (o := q) (b' := bb) (o' := bo + k) (u := .int .i64 (-1)) (.inl (by omega))).trans v0
        go_wp2_with fail
        go_quiet (fail)
        go_upto_region 13 with fail
        obtain ⟨W9, hW9⟩ : ∃ W9, (wr.drewN nq).setCell ⟨w.heap.size + 1, q, none⟩ (.int .i64 (-1)) = W9 := ⟨_, rfl⟩
        have sc0 : W9.cell? ⟨w2.heap.size, 0, none⟩ = some (.slice a0 n.nodes.length k0) := by rw [← hW9]; exact sc0
        have sc1 : W9.cell? ⟨w2.heap.size, 1, none⟩ = some (.slice (some ⟨qb, qo, none⟩) (forest n).length qc) := by rw [← hW9]; exact sc1
        have sv0 : W9.cell? ⟨bb, bo + k, none⟩ = some (.int .i64 j) := by rw [← hW9]; exact sv0
        rw [hW9]
        have HW9 := hid hW9
        clear hW9
        go_still_tail 6, (by kernel_rfl)
        change wpList _ _ _ _ _ (World.drew _)
        go_wp2_with fail
        rw [← HW9.out]
        refine (HOT.out (-1) (((wr.drewN nq).setCell ⟨w.heap.size + 1, q, none⟩ (.int .i64 (-1))).drew) ⟨rfl, rfl, rfl, Nat.le_refl _, fun _ _ => rfl⟩).mono ?_
        rintro e w5 ⟨rfl, b5⟩
        have b5 := (show Below (wr.setCell ⟨w.heap.size + 1, q, none⟩ (.int .i64 (-1))).heap.size (wr.setCell ⟨w.heap.size + 1, q, none⟩ (.int .i64 (-1))) w5 from ⟨b5.os, b5.tape, b5.output, b5.size, b5.block⟩)
        have R5 := hid (HFIN.out (-1) (if_neg HSG.out) _ b5)
        clear b5 sc0 sc1 sv0 hbq
        go_wp2_with fail
        go_roundw
        case rel => exact R5.out
        case measure => simp [intOf]; omega
    · obtain rfl : k = (pathOf (treeN n) t f).length := by omega
      have hend := csAt_end n c
      rw [HPN.out] at hend
      have HR := hid (hI.slc (P := fun b => w.heap.size ≤ b ∧ b < wr.heap.size) (cap := n.pipes.length) ⟨by omega, hI.lt⟩ (by omega))
      rw [hol, hend] at HR
      have HB := hid hbel
      clear hI hT hQ hF hP hbel hend
      go_wp2_with fail
      go_ret
      exact ⟨_, rfl, HR.out, HB.out⟩

end Go.Proofs.Ytdapdaadglaoiaa
