/- spec.l05Tree: the network of the forest's pipes. -/
import Derived.Test.YtdapdaadglaoiaaForestS
import Derived.Test.YtdapdaadglaoiaaRows2
namespace Go.Proofs.Ytdapdaadglaoiaa
open Go.RowKit

theorem row1_at {α : Type} {en : α → List Value} {sz : Nat} {w : World} {b : Nat} {x : α} {T : TypeId} (h : w.heap[b]? = some (.cells (en x).toArray T (0, 0))) : RowsAt en sz w (.slice (some ⟨b, 0, none⟩) 1 1) [x] := by
  refine ⟨by simp, _, _, rfl, .inr ⟨b, 0, rfl, block_lt h, fun i hi => ?_⟩⟩
  obtain rfl : i = 0 := by simpa using hi
  intro j hj
  have hj' : j < (en x).length := by simpa using hj
  simp [World.cell?, h, hj']
theorem cell_far2 {w : World} {b o b' o' : Nat} {u : Value} (h : b ≠ b' ∨ o ≠ o') : (w.setCell ⟨b, o, none⟩ u).cell? ⟨b', o', none⟩ = w.cell? ⟨b', o', none⟩ :=
  World.cell?_setCell_other w ⟨b, o, none⟩ ⟨b', o', none⟩ u (fun e => h.elim (fun h => h (congrArg Addr.block e)) (fun h => h (congrArg Addr.off e)))
theorem treeAt {X : Nat → Prop} {w W : World} {nv pv qv : Value} {n : Net} (h : NetAt w nv pv n) (hb : Below w.heap.size w W) (hr : RowsOwn encP 5 X W qv (treeN n).pipes) : NetAt W nv qv (treeN n) := ⟨(h.below hb).1, (h.below hb).2.1, hr.at⟩
def TrRel (n : Net) (l : List Value) (w : World) (B : Nat) (fv : Value) (i p : Value) (wr : World) : Prop :=
  ∃ k : Nat, i = .int .i64 k ∧ k ≤ (forest n).length ∧ OwnR encP 5 73 B wr p (((forest n).take k).map (pAt n)) ∧ Box wr w.heap.size l ∧ (∃ x y, wr.heap[w.heap.size + 1]? = some (.cells #[x, y] 27 (0, 0))) ∧
    Slc (fun c => w.heap.size + 1 < c ∧ c < B) wr fv (forest n) ∧ Below w.heap.size w wr ∧ B ≤ wr.heap.size

set_option maxHeartbeats 1000000 in
set_option maxRecDepth 100000 in
theorem l05Tree_any (nv pv : Value) (n : Net) (w : World) (h : NetAt w nv pv n) (hb : netB n = true) :
    Calls Try.prog 170 #[.agg #[nv, pv]] w fun e w' => ∃ qv fv, e = .returned (.tuple #[.agg #[nv, qv], fv]) ∧ RowsOwn encP 5 (fun b => w.heap.size < b ∧ b < w'.heap.size) w' qv (treeN n).pipes ∧ Slc (fun c => w.heap.size ≤ c ∧ c < w'.heap.size) w' fv (forest n) ∧ Below w.heap.size w w' := by
  obtain ⟨a0, k0, rfl⟩ := h.1.shape
  obtain ⟨a1, k1, rfl⟩ := h.2.2.shape
  have hnl := netB_t hb
  have HP := hid h
  have hWb := (below_new w (.cells #[.slice a0 n.nodes.length k0, .slice a1 n.pipes.length k1] 27)).alloc (by simp) (.cells #[.slice none 0 0, .slice none 0 0] 27)
  have hbx := (Box.new w #[.slice a0 n.nodes.length k0, .slice a1 n.pipes.length k1] 27).below (below_new _ (.cells #[.slice none 0 0, .slice none 0 0] 27))
  obtain ⟨c0, c1⟩ := hbx.two
  have h := h.below hWb
  have hfl := forest_le n
  have HM : Hid (∀ j (hj : j < (forest n).length), ∃ i : Nat, (forest n)[j] = i ∧ i < n.pipes.length) := fun j hj => by
    obtain ⟨i, h1, h2, _⟩ := forest_mem.1 (List.getElem_mem hj)
    exact ⟨i, h1, h2⟩
  have hbx1 : ((w.alloc (.cells #[.slice a0 n.nodes.length k0, .slice a1 n.pipes.length k1] 27)).alloc (.cells #[.slice none 0 0, .slice none 0 0] 27)).heap[w.heap.size + 1]? = some (.cells #[.slice none 0 0, .slice none 0 0] 27 (0, 0)) := by
    have := heap_alloc_new (w.alloc (.cells #[.slice a0 n.nodes.length k0, .slice a1 n.pipes.length k1] 27)) (.cells #[.slice none 0 0, .slice none 0 0] 27)
    rw [World.size_alloc] at this
    exact this
  go_enter Try.func170, Try.ntmps170
  go_wp2_with fail
  refine (l04Forest_any _ _ n _ h hb).mono ?_
  rintro e w1 ⟨r, rfl, o1, b1⟩
  have z1 := b1.size
  simp only [World.size_alloc] at z1
  have HB := hid (hWb.trans (b1.mono hWb.size))
  have HX := hid (hbx.below b1)
  have HR : Hid (∃ x y, w1.heap[w.heap.size + 1]? = some (.cells #[x, y] 27 (0, 0))) := ⟨_, _, (b1.block _ (by simp)).trans hbx1⟩
  have SF := hid ((o1.slc (by omega)).mono (Q := fun c => w.heap.size + 1 < c ∧ c < w1.heap.size) (fun c _ h => ⟨by have := h.1; simp at this; omega, h.2⟩))
  obtain ⟨fa, fc, rfl, _⟩ := o1.shape
  clear b1 hWb hbx hbx1 h o1 c0 c1
  go_wp2_with fail
  go_loopw [6, 5] (fun i p wr => TrRel n [.slice a0 n.nodes.length k0, .slice a1 n.pipes.length k1] w w1.heap.size (.slice fa (forest n).length fc) i p wr) (fun i _ _ => (forest n).length - (intOf i).toNat)
  case atStart =>
    obtain ⟨x, y, hr⟩ := HR.out
    exact ⟨0, rfl, by omega, OwnR.made _ _ _ _ _ (Nat.le_refl _), HX.out.below (below_new _ _), ⟨x, y, by rw [(below_new w1 (.cells #[] 73)).block _ (by omega)]; exact hr⟩, SF.out.below (below_new _ _), HB.out.alloc HB.out.size _, by simp⟩
  case round =>
    clear HX HB SF HR
    obtain ⟨k, rfl, hk, ho, bx, hr, sc, hbel, hB1⟩ := hrel
    have hpl : (((forest n).take k).map (pAt n)).length = k := by simp; omega
    by_cases hlt : k < (forest n).length
    · have hltI : (k : Int) < (forest n).length := by omega
      obtain ⟨i, hi, hip⟩ := HM.out k hlt
      have hipI : (i : Int) < n.pipes.length := by omega
      obtain ⟨db, doff, rfl, hdb, hdbl, _, hdc⟩ := sc.at (by omega)
      have q0 := hdc k hlt
      rw [hi] at q0
      have hS : Hid (((forest n).take (k + 1)).map (pAt n) = ((forest n).take k).map (pAt n) ++ [n.pipes[i]]) := by
        rw [Hid, List.take_succ_eq_append_getElem hlt, List.map_append, hi]
        simp [pAt_nat hip]
      obtain ⟨pb0, poff, rfl, hpb5, hpc5⟩ := HP.out.2.2.at' (by omega)
      have hpc : CellsAt wr pb0 (poff + i * 5) (encP n.pipes[i]) := (hpc5 i hip).kept (hbel.block pb0 hpb5)
      have hpb : pb0 < wr.heap.size := by have := hbel.size; omega
      obtain ⟨x0, x1, x2, x3, x4⟩ := cellsP hpc
      obtain ⟨X10, X11⟩ := bx.two
      have zx := bx.1
      have HO := hid ho
      have HBL := hid hbel
      have HBX := hid bx
      have HR := hid hr
      have HSC := hid sc
      have zw := hbel.size
      have hlo := ho.lt
      have KP : Hid (∀ W, Below wr.heap.size wr W → W.cell? ⟨w.heap.size, 1, none⟩ = some (.slice (some ⟨pb0, poff, none⟩) n.pipes.length k1) ∧ W.cell? ⟨db, doff + k, none⟩ = some (.int .i64 i) ∧ W.cell? ⟨pb0, poff + i * 5, none⟩ = some (.int .i64 n.pipes[i].fr) ∧ W.cell? ⟨pb0, poff + i * 5 + 1, none⟩ = some (.int .i64 n.pipes[i].to) ∧ W.cell? ⟨pb0, poff + i * 5 + 2, none⟩ = some (.int .i64 n.pipes[i].k) ∧ W.cell? ⟨pb0, poff + i * 5 + 3, none⟩ = some (.int .i64 n.pipes[i].vol) ∧ W.cell? ⟨pb0, poff + i * 5 + 4, none⟩ = some (.int .i64 n.pipes[i].lim)) := fun W hW =>
        ⟨(hW.cell (p := ⟨w.heap.size, 1, none⟩) zx).trans X11, (hW.cell (p := ⟨db, doff + k, none⟩) hdbl).trans q0, (hW.cell (p := ⟨pb0, _, none⟩) hpb).trans x0, (hW.cell (p := ⟨pb0, _, none⟩) hpb).trans x1, (hW.cell (p := ⟨pb0, _, none⟩) hpb).trans x2, (hW.cell (p := ⟨pb0, _, none⟩) hpb).trans x3, (hW.cell (p := ⟨pb0, _, none⟩) hpb).trans x4⟩
      have kq : ∀ (W W' : World), Kept (fun b => u5.ownBlock = some b) W W' → Below wr.heap.size wr W → (fun W => W.cell? ⟨w.heap.size, 1, none⟩ = some (.slice (some ⟨pb0, poff, none⟩) n.pipes.length k1) ∧ W.cell? ⟨db, doff + k, none⟩ = some (.int .i64 i) ∧ W.cell? ⟨pb0, poff + i * 5, none⟩ = some (.int .i64 n.pipes[i].fr) ∧ W.cell? ⟨pb0, poff + i * 5 + 1, none⟩ = some (.int .i64 n.pipes[i].to) ∧ W.cell? ⟨pb0, poff + i * 5 + 2, none⟩ = some (.int .i64 n.pipes[i].k) ∧ W.cell? ⟨pb0, poff + i * 5 + 3, none⟩ = some (.int .i64 n.pipes[i].vol) ∧ W.cell? ⟨pb0, poff + i * 5 + 4, none⟩ = some (.int .i64 n.pipes[i].lim)) W' := fun W W' hk hW => by
        obtain ⟨e1, e2, e3, e4, e5, e6, e7⟩ := KP.out W hW
        have ne : ∀ b, b < w1.heap.size → ¬ (u5.ownBlock = some b) := fun b h1 h2 => by have := (hlo b h2).1; omega
        exact ⟨hk.cell e1 (ne _ (by simp only; omega)), hk.cell e2 (ne _ (by simp only; omega)), hk.cell e3 (ne _ (by simp only; omega)), hk.cell e4 (ne _ (by simp only; omega)), hk.cell e5 (ne _ (by simp only; omega)), hk.cell e6 (ne _ (by simp only; omega)), hk.cell e7 (ne _ (by simp only; omega))⟩
      clear hdc hpc ho hbel hi bx hr sc
      go_wp2_with fail
      go_region_held3 (fun W => W.cell? ⟨w.heap.size, 1, none⟩ = some (.slice (some ⟨pb0, poff, none⟩) n.pipes.length k1) ∧ W.cell? ⟨db, doff + k, none⟩ = some (.int .i64 i) ∧ W.cell? ⟨pb0, poff + i * 5, none⟩ = some (.int .i64 n.pipes[i].fr) ∧ W.cell? ⟨pb0, poff + i * 5 + 1, none⟩ = some (.int .i64 n.pipes[i].to) ∧ W.cell? ⟨pb0, poff + i * 5 + 2, none⟩ = some (.int .i64 n.pipes[i].k) ∧ W.cell? ⟨pb0, poff + i * 5 + 3, none⟩ = some (.int .i64 n.pipes[i].vol) ∧ W.cell? ⟨pb0, poff + i * 5 + 4, none⟩ = some (.int .i64 n.pipes[i].lim))
        (first | exact KP.out _ (Below.refl _ _).drew | exact KP.out _ ((Below.refl _ _).drew.alloc (Nat.le_refl _) _) | exact KP.out _ (below_new _ _).drew | exact KQ.out)
        (first
          | (refine step_appP rfl (.tmp 16) (.tmp 25) rfl w1.heap.size u5 (.slice (some ⟨wr.heap.size, 0, none⟩) 1 1) (((forest n).take k).map (pAt n)) [n.pipes[i]] rfl rfl ?_ ?_ ?_ ?_ ?_; (· first | exact HO.out.below (below_new _ _).drew | exact HO.out.below ((Below.refl _ _).drew.alloc (Nat.le_refl _) _)); (· first | exact row1_at (heap_alloc_new wr (.cells (encP n.pipes[i]).toArray 73)) | exact row1_at (heap_alloc_new wr.drew (.cells (encP n.pipes[i]).toArray 73))); (· simp; omega); (· simp; omega); intro v7 w7 h7 k7 b7; have KQ := hid (kq _ _ k7 (by first | exact (below_new _ _).drew | exact (Below.refl _ _).drew.alloc (Nat.le_refl _) _))))
      all_goals
        have bW := (show Below wr.heap.size wr _ from by first | exact (below_new wr (.cells (encP n.pipes[i]).toArray 73)).drew | exact (Below.refl wr.heap.size wr).drew.alloc (Nat.le_refl _) (.cells (encP n.pipes[i]).toArray 73))
        have hlB : ∀ b, u5.ownBlock = some b → w1.heap.size ≤ b := fun b hb => (HO.out.lt b hb).1
        have HBL7 := hid ((HBL.out.trans (bW.mono HBL.out.size)).trans (k7.below (B := w.heap.size) (Nat.le_trans zw bW.size) (fun b hb => by have := hlB b hb; omega)))
        have HBX7 := hid ((HBX.out.below bW).kept k7 (fun hb => by have := hlB _ hb; omega))
        have HR7 : Hid (∃ x y, w7.heap[w.heap.size + 1]? = some (.cells #[x, y] 27 (0, 0))) := by
          obtain ⟨x, y, hr⟩ := HR.out
          exact ⟨x, y, (k7.block _ (Nat.lt_of_lt_of_le (by omega : w.heap.size + 1 < wr.heap.size) bW.size) (fun hb => by have := hlB _ hb; omega)).trans ((bW.block _ (by omega)).trans hr)⟩
        have HSC7 := hid ((HSC.out.below bW).kept k7 (fun b _ h1 h2 => by have := hlB _ h2; omega))
        have hz7 : w1.heap.size ≤ w7.heap.size := Nat.le_trans hB1 (Nat.le_trans bW.size k7.size)
        have HV := hid h7
        clear k7 b7 h7 KP KQ X10 X11 x0 x1 x2 x3 x4 q0 bW kq hlo hlB
        go_wp2_with fail
        go_roundw
        case rel => exact ⟨k + 1, by go_num, by omega, by rw [hS.out]; exact HV.out, HBX7.out, HR7.out, HSC7.out, HBL7.out, hz7⟩
        case measure => simp [intOf]; omega
    · obtain rfl : k = (forest n).length := by omega
      rw [List.take_length] at ho
      have htl : ((forest n).map (pAt n)).length = (forest n).length := by simp
      obtain ⟨hrows, hcap⟩ := ho.own lenP (by omega)
      obtain ⟨X10, X11⟩ := bx.two
      obtain ⟨x, y, hr⟩ := hr
      obtain ⟨r0, r1, rf⟩ : wr.cell? ⟨w.heap.size + 1, 0, none⟩ = some x ∧ wr.cell? ⟨w.heap.size + 1, 1, none⟩ = some y ∧ (∀ o, wr.frozen? ⟨w.heap.size + 1, o, none⟩ = false) := ⟨by simp [World.cell?, hr], by simp [World.cell?, hr], fun o => by simp [World.frozen?, hr]⟩
      obtain ⟨_, pa, pc, hpe, _⟩ := id hrows
      rw [htl] at hpe
      subst hpe
      have HRW := hid hrows
      have HSC := hid sc
      have HBL := hid hbel
      clear ho sc hbel bx hr hrows htl
      go_wp2_with fail
      have kk : Kept (fun b => b = w.heap.size + 1) wr ((wr.setCell ⟨w.heap.size + 1, 0, none⟩ (.slice a0 n.nodes.length k0)).setCell ⟨w.heap.size + 1, 1, none⟩ (.slice pa (forest n).length pc)) :=
        ((Kept.refl (fun b => b = w.heap.size + 1) _).setCell (p := ⟨w.heap.size + 1, 0, none⟩) rfl _).setCell (p := ⟨w.heap.size + 1, 1, none⟩) rfl _
      have bf := HBL.out.trans (kk.below HBL.out.size (fun b hb => by omega))
      refine bodyPost_ret (v := .tuple #[.agg #[.slice a0 n.nodes.length k0, .slice pa (forest n).length pc], .slice fa (forest n).length fc]) (by simp [results, Try.results170, go_sem, r0, r1]) rfl ⟨_, _, rfl, ?_, ?_, ?_⟩
      · exact (HRW.out.kept kk (fun b _ h1 h2 => by omega)).mono (fun b _ h1 => ⟨by omega, by have := kk.size; omega⟩)
      · exact (HSC.out.kept kk (fun b _ h1 h2 => by omega)).mono (fun b _ h1 => ⟨by omega, by have := kk.size; omega⟩)
      · exact bf

end Go.Proofs.Ytdapdaadglaoiaa
