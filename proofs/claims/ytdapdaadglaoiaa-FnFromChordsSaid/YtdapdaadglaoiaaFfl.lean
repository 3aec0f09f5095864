/- impl.forestFlows. -/
import Derived.Test.YtdapdaadglaoiaaFfM
import Derived.Test.YtdapdaadglaoiaaComp
import Derived.Test.YtdapdaadglaoiaaSrI
import Derived.Shelf.RegionOpen
namespace Go.Proofs.Ytdapdaadglaoiaa
open Go.RowKit

attribute [local go_sem] Oper.semAt_some

def FfRel (n : Net) (S : List Int) (l0 l1 : Value) (w : World) (bf bl bF g cap : Nat) (lo hi : Nat) (cv : Value) (k : Nat) (ds : List Nat) (W : World) : Prop :=
  k ≤ n.nodes.length ∧ FfMem n.pipes.length S.length l0 l1 w bf bl bF g cap W (ffIter n S k) ∧ Slc (fun b => lo ≤ b ∧ b < hi) W cv (comps n) ∧ (∀ D ∈ ds, W.heap[D]? = some (.deferred (some [])) ∧ hi ≤ D) ∧ ds.Nodup ∧ hi ≤ W.heap.size

set_option maxHeartbeats 16000000 in
set_option maxRecDepth 100000 in
theorem forestFlows_any (P : Nat → Prop) (nv pv sv : Value) (n : Net) (S : List Int) (w : World) (h : NetAt w nv pv n) (hb : netB n = true) (hs : Slc P w sv S) (hsl : S.length = n.nodes.length)
    (heven : ∀ r, r < n.nodes.length → isRoot n r = true → sumL S (srch n r).order = 0) (hS : ∀ i, -1 ≤ S.getD i 0 ∧ S.getD i 0 ≤ 1) :
    Calls Try.prog 167 #[.agg #[nv, pv], sv] w fun e w' => ∃ b, e = .returned (.slice (some ⟨b, 0, none⟩) n.pipes.length n.pipes.length) ∧ FRow w' b (fflows n S) ∧ w.heap.size ≤ b ∧ Below w.heap.size w w' := by
  obtain ⟨a0, k0, rfl⟩ := h.1.shape
  obtain ⟨a1, k1, rfl⟩ := h.2.2.shape
  have hnb := netB_t hb
  have HP := hid h
  have HEV := hid heven
  have HSB := hid hS
  clear heven hS
  have hmk := run_make_row' (P := Try.prog) 33 2 (.int .i64 0) 8 Try.underlying33 info64 rfl .i64 .i64 n.pipes.length (by omega) (by omega)
  refine (callsIn_wide (n := 10)).1 ?_
  refine callsIn_of_wp_marks Try.func167 rfl trivial ?_ rfl
  simp only [Try.ntmps167, List.size_toArray, List.length_cons, List.length_nil, Nat.reduceAdd, Nat.reduceSub, Array.replicate_succ, Array.replicate_zero, List.push_toArray, List.append_toArray, List.nil_append, List.cons_append]
  refine wpIn_wide.2 ?_
  go_wp2_with fail
  have X1 := hid (Box.new w #[.slice a0 n.nodes.length k0, .slice a1 n.pipes.length k1] 27)
  have b1 := below_new w (.cells #[.slice a0 n.nodes.length k0, .slice a1 n.pipes.length k1] 27)
  have N1 := hid (h.below b1)
  have S1 := hid (hs.below b1)
  have F1 := hid (IntBlk.made 2 (w.alloc (.cells #[.slice a0 n.nodes.length k0, .slice a1 n.pipes.length k1] 27)) n.pipes.length)
  refine (cloneI_any P sv S _ ((S1.out.below (below_new _ _)).below (below_new _ _)) (by omega) (by omega)).mono ?_
  rintro e w2 ⟨lv, rfl, hlv, b2⟩
  have z2 := b2.size
  simp only [World.size_alloc] at z2
  obtain ⟨_, _, hle, hgg⟩ := hlv.shape
  subst hle
  obtain ⟨g, rfl, hg0, hg1, hgf, hgc⟩ := hgg.resolve_left (by intro e; simp [e] at hsl; omega)
  rename_i la cap
  simp only [World.size_alloc] at hg0
  have L2 : Hid (FRow w2 g S) := fun i hi => ⟨hgc i hi, hgf⟩
  clear hlv hgg hgf hgc
  have bA := hid ((((b1.alloc (by simp) (.cells (madeCells #[.int .i64 0] n.pipes.length) 2)).alloc (by simp; omega) (.cells #[.slice (some ⟨w.heap.size + 1, 0, none⟩) n.pipes.length n.pipes.length] 33)).trans (b2.mono (by simp; omega))))
  have HSL := hid hsl
  have hsp : 0 < S.length := by omega
  clear hsl
  have ap : FfAp w.heap.size (w.heap.size + 1 + 1) w2.heap.size (w.heap.size + 1) g := ⟨by omega, by omega, by omega, by omega, by omega, by omega, by omega, by omega, by omega⟩
  obtain ⟨W3, hW3⟩ : ∃ W3, w2.alloc (.cells #[.slice (some ⟨g, 0, none⟩) S.length cap] 33) = W3 := ⟨_, rfl⟩
  have bB := below_new w2 (.cells #[.slice (some ⟨g, 0, none⟩) S.length cap] 33)
  have M3 : Hid (FfMem n.pipes.length S.length (.slice a0 n.nodes.length k0) (.slice a1 n.pipes.length k1) w (w.heap.size + 1 + 1) w2.heap.size (w.heap.size + 1) g cap W3 (ffIter n S 0)) := by
    have x2 := (((X1.out.below (below_new _ _)).below (below_new _ _)).below b2).below bB
    obtain ⟨y0, y1⟩ := x2.two
    have f2 := (((F1.out.kept (Kept.of_below (X := fun _ => False) (below_new _ _)) (fun e => e)).kept (Kept.of_below (X := fun _ => False) b2) (fun e => e)).kept (Kept.of_below (X := fun _ => False) bB) (fun e => e))
    rw [← hW3]
    refine ⟨y0, y1, ?_, by simp, ?_, L2.out.kept (Kept.of_below (X := fun _ => False) bB) (fun e => e), bA.out.trans (bB.mono bA.out.size)⟩
    · have f3 := (Box.new ((w.alloc (.cells #[.slice a0 n.nodes.length k0, .slice a1 n.pipes.length k1] 27)).alloc (.cells (madeCells #[.int .i64 0] n.pipes.length) 2)) #[.slice (some ⟨w.heap.size + 1, 0, none⟩) n.pipes.length n.pipes.length] 33)
      have f4 := (f3.below b2).below bB
      have := f4.2 0 (by simp)
      simpa using this
    · intro i hi
      rw [World.size_alloc] at f2
      exact ⟨f2.cell i hi, f2.frozen⟩
  have z3 : W3.heap.size = w2.heap.size + 1 := by rw [← hW3]; simp
  have HW3 := hid hW3
  have N3 := hid (HP.out.below M3.out.bel)
  obtain ⟨y0, y1⟩ : W3.cell? ⟨w.heap.size, 0, none⟩ = some (.slice a0 n.nodes.length k0) ∧ W3.cell? ⟨w.heap.size, 1, none⟩ = some (.slice a1 n.pipes.length k1) := ⟨M3.out.x0, M3.out.x1⟩
  rw [← hW3] at y0 y1
  obtain ⟨y2, y3⟩ := (((X1.out.below (below_new _ _)).below (below_new _ _)).below b2).two
  clear X1 b1 N1 S1 F1 hmk L2 bA bB b2 hW3
  go_wp2_with fail
  rw [HW3.out]
  refine (componentsOf_any _ _ n _ N3.out hb).mono ?_
  rintro e w4 ⟨cv, rfl, hcv, b4⟩
  have M4 := hid (M3.out.below b4)
  have C4 := hid hcv
  have z4 := b4.size
  have hcl := comps_len n
  obtain ⟨_, ca, cc, hcve, _⟩ := id hcv
  subst hcve
  rw [hcl] at C4
  clear y0 y1 y2 y3 M3 N3 HW3 hcv b4
  go_wp2_with fail
  refine wp_loop (fun a W => ∃ (k : Nat) (ds : List Nat), ∃ u7 : Value, ∃ u8 : Value, ∃ u9 : Value, ∃ u24 : Value, ∃ u25 : Value, ∃ u26 : Value, ∃ u27 : Value, ∃ u28 : Value, ∃ u29 : Value, ∃ u30 : Value, ∃ u31 : Value, ∃ u32 : Value, ∃ u33 : Value, ∃ u34 : Value, ∃ u35 : Value, ∃ u36 : Value, ∃ u37 : Value, ∃ u81 : Value, a = { tmps := #[Value.agg #[.slice a0 n.nodes.length k0, .slice a1 n.pipes.length k1], sv, .pointer (some ⟨w.heap.size, 0, none⟩), undef, .slice none 0 0, .pointer (some ⟨w.heap.size + 1 + 1, 0, none⟩), .pointer (some ⟨w2.heap.size, 0, none⟩), u7, u8, u9, undef, undef, undef, undef, .pointer (some ⟨w.heap.size, 1, none⟩), .slice a1 n.pipes.length k1, .int .i64 n.pipes.length, .slice (some ⟨w.heap.size + 1, 0, none⟩) n.pipes.length n.pipes.length, sv, .slice (some ⟨g, 0, none⟩) S.length cap, .agg #[.slice a0 n.nodes.length k0, .slice a1 n.pipes.length k1], .slice ca n.nodes.length cc, .int .i64 n.nodes.length, .int .i64 k, u24, u25, u26, u27, u28, u29, u30, u31, u32, u33, u34, u35, u36, u37, undef, undef, undef, undef, undef, undef, undef, undef, undef, undef, undef, undef, undef, undef, undef, undef, undef, undef, undef, undef, undef, undef, undef, undef, undef, undef, undef, undef, undef, undef, undef, undef, undef, undef, undef, undef, undef, undef, undef, undef, undef, undef, undef, u81, undef], defers := ds.map (fun D => { target := .collected D, args := #[] }) } ∧
      FfRel n S (.slice a0 n.nodes.length k0) (.slice a1 n.pipes.length k1) w (w.heap.size + 1 + 1) w2.heap.size (w.heap.size + 1) g cap W3.heap.size w4.heap.size (.slice ca n.nodes.length cc) k ds W)
    (fun a _ => n.nodes.length - (intOf (a.tmps.getD 23 undef)).toNat) ?_ ?_
  · refine ⟨0, [], _, _, _, _, _, _, _, _, _, _, _, _, _, _, _, _, _, _, rfl, by omega, M4.out, C4.out, by simp, by simp, Nat.le_refl _⟩
  clear M4 C4
  rintro a W ⟨k, ds, u7, u8, u9, u24, u25, u26, u27, u28, u29, u30, u31, u32, u33, u34, u35, u36, u37, u81, rfl, hk, M5, C5, D5, nd5, hsz5⟩
  by_cases hlt : k < n.nodes.length
  case neg =>
    obtain rfl : k = n.nodes.length := by omega
    have fb := M5.fb
    have hK : Hid (∀ W', Kept (fun b => b ∈ ds) W W' → FRow W' (w.heap.size + 1) (fflows n S) ∧ Below w.heap.size w W') := fun W' hk => by
      refine ⟨?_, M5.bel.trans (hk.below M5.bel.size (fun k hk => by have := (D5 k hk).2; omega))⟩
      by_cases hp : (fflows n S).length = 0
      · intro i hi; omega
      · refine M5.fr.kept hk (fun hm => ?_)
        have h1 := (D5 _ hm).1
        have h2 := (M5.fr 0 (by show 0 < (fflows n S).length; omega)).1
        simp [World.cell?, h1] at h2
    have DS := hid (fun D hD => (D5 D hD).1)
    clear M5 C5 D5
    go_wp2_with fail
    refine leaves_marks ds W DS.out nd5 (fun W' hk => ?_)
    obtain ⟨r1, r2⟩ := hK.out W' hk
    exact ⟨_, results_tmp rfl _ _ _, _, rfl, r1, by omega, r2⟩
  have NW := hid (HP.out.below M5.bel)
  obtain ⟨cb, co, hcae, hcb1, hcb2, _, hcbc⟩ := C5.at (by omega)
  subst hcae
  have q0 := hcbc k (by omega)
  have hgc : (comps n).getD k 0 = (comps n)[k]'(by omega) := by simp [List.getD, hcl, hlt]
  have x0 := M5.x0
  have x1 := M5.x1
  cases hroot : isRoot n k
  case false =>
    have hrf : Hid (¬ isRoot n k = true) := by rw [Hid, hroot]; exact Bool.false_ne_true
    have hne : ¬ (comps n)[k]'(by omega) = k := by
      intro e
      unfold isRoot at hroot
      rw [hgc, e] at hroot
      simp at hroot
    have M6 := hid M5
    have C6 := hid C5
    have D6 := hid D5
    clear M5 C5 D5 hcbc hroot
    go_wp2_with fail
    refine ⟨⟨k + 1, ds, _, _, _, _, _, _, _, _, _, _, _, _, _, _, _, _, _, _, rfl, by omega, ?_, C6.out, D6.out, nd5, hsz5⟩, ?_⟩
    · rw [ffIter_no hrf.out]; exact M6.out
    · simp [intOf]; omega
  case true =>
    have heq : (comps n)[k]'(by omega) = k := by
      unfold isRoot at hroot
      rw [hgc] at hroot
      simpa using hroot
    rw [heq] at q0
    have HRT := hid hroot
    have M6 := hid M5
    have C6 := hid C5
    have D6 := hid D5
    clear M5 C5 D5 hcbc hroot heq hgc
    go_wp2_with fail
    refine (searchFrom_cap _ _ n k _ NW.out hb (by omega) (by omega)).mono ?_
    rintro e w5 ⟨ov, dv, ev, rfl, so, sd, se, b5, hcapo⟩
    have g6 := good_srch hb (v := (k : Int)) (by omega) (by omega)
    obtain ⟨_, oa, oc, hov, _⟩ := id so
    subst hov
    obtain ⟨ob, oo, hoa, hob1, hob2, _, hoc⟩ := so.at g6.pos
    subst hoa
    have hcp : (srch n k).order.length ≤ oc := hcapo _ _ _ rfl
    obtain ⟨_, da, dc, hdv, _⟩ := id sd
    subst hdv
    obtain ⟨_, ea, ec, hev, _⟩ := id se
    subst hev
    have hel := g6.le
    obtain ⟨be, eo, hea, heb1, heb2, _, hec⟩ := se.at (by omega)
    subst hea
    have HEL := hid hel
    clear hel
    have hp0 := g6.pos
    clear x0 x1 q0
    have hpt := hp0
    by_cases hoc1 : oc = 1
    case pos =>
      subst hoc1
      go_wp2_with fail
      refine (callsIn_wide.1 (back_in Fence.wide 9 trivial rfl _ _ _ _)).mono ?_
      rintro e w' ⟨rfl, rfl⟩
      have hz9 : (w5.alloc (.cells #[.slice (some ⟨ob, oo, none⟩) (srch n k).order.length 1, .slice da (srch n k).dist.length dc, .slice (some ⟨be, eo, none⟩) (srch n k).ent.length ec] 117)).heap.size = w5.heap.size + 1 := by simp
      obtain ⟨w6, hw6⟩ : ∃ w6, w5.alloc (.cells #[.slice (some ⟨ob, oo, none⟩) (srch n k).order.length 1, .slice da (srch n k).dist.length dc, .slice (some ⟨be, eo, none⟩) (srch n k).ent.length ec] 117) = w6 := ⟨_, rfl⟩
      have b6 := below_new w5 (.cells #[.slice (some ⟨ob, oo, none⟩) (srch n k).order.length 1, .slice da (srch n k).dist.length dc, .slice (some ⟨be, eo, none⟩) (srch n k).ent.length ec] 117)
      have X6 := Box.new w5 #[.slice (some ⟨ob, oo, none⟩) (srch n k).order.length 1, .slice da (srch n k).dist.length dc, .slice (some ⟨be, eo, none⟩) (srch n k).ent.length ec] 117
      rw [hw6] at hz9 b6 X6 ⊢
      rw [hz9]
      have b7 := below_new w6 (.cells #[.slice (some ⟨ob, oo, none⟩) (0) 0] 33)
      have hz7 : (w6.alloc (.cells #[.slice (some ⟨ob, oo, none⟩) (0) 0] 33)).heap.size = w5.heap.size + 1 + 1 := by simp [hz9]
      have X7 := Box.new w6 #[.slice (some ⟨ob, oo, none⟩) (0) 0] 33
      rw [hz9] at X7
      obtain ⟨w7, hw7⟩ : ∃ w7, w6.alloc (.cells #[.slice (some ⟨ob, oo, none⟩) (0) 0] 33) = w7 := ⟨_, rfl⟩
      rw [hw7] at b7 hz7 X7 ⊢
      have hBs := X7.2 0 (by simp)
      simp only [List.getElem_cons_zero] at hBs
      clear hw6 hw7
      have hS6 : FfS w5.heap.size be eo (.slice (some ⟨ob, oo, none⟩) (srch n k).order.length 1) (.slice da (srch n k).dist.length dc) ec (srch n k).ent w7 := by
        obtain ⟨y0, _, y2⟩ := (X6.below b7).three
        exact ⟨y0, y2, fun i hi => (b7.cell (p := ⟨be, eo + i, none⟩) (by simp only; omega)).trans ((b6.cell (p := ⟨be, eo + i, none⟩) (by simp only; omega)).trans (hec i hi))⟩
      have hM7 := ((M6.out.below b5).below b6).below b7
      have hzl : ((srch n k).order.drop 1).length = 0 := by (simp only [List.length_drop]) <;> omega
      have hbl := back_len (srch n k)
      replace hBs : w7.cell? ⟨w5.heap.size + 1, 0, none⟩ = some (.slice (some ⟨ob, oo, none⟩) ((srch n k).order.drop 1).length 0) := by rw [hzl]; exact hBs
      have hI7 : ∀ j (hj : j < ((srch n k).order.drop 1).length), w7.cell? ⟨ob, oo + j, none⟩ = some (.int .i64 ((srch n k).order.drop 1)[j]) := fun j hj => by omega
      have HC7 := hid (((C6.out.below b5).below b6).below b7)
      have k7 := Kept.of_below (X := fun _ => False) ((b5.trans (b6.mono b5.size)).trans (b7.mono (by have := b5.size; have := b6.size; omega)))
      have HS6 := hid hS6
      have HDL : Hid (∀ D ∈ ds, D < W.heap.size) := fun D hD => (Array.getElem?_eq_some_iff.1 (D6.out D hD).1).1
      have HM7 := hid hM7
      have z5 := b5.size
      have hle6 := g6.le_nodes
      obtain ⟨zs, hzs⟩ : ∃ zs, (srch n k).order.drop 1 = zs := ⟨_, rfl⟩
      rw [hzs] at hI7 hBs hzl
      have hzlen : zs.length ≤ 1000000 := by omega
      have HZS := hid hzs
      have HZL := hid hzl
      have hzl2 : zs.length = (backOf (srch n k)).length := by omega
      have HZ2 := hid hzl2
      have bkall : (List.range (backOf (srch n k)).length).map (fun j => (bk zs j).2) = backOf (srch n k) := by
        have h1 := bk_all zs
        rw [hzl2] at h1
        rw [h1, ← hzs]; rfl
      clear hS6 hM7 X6 X7 b5 b6 b7 M6 C6 hec hoc hpt hzs hzl hzl2 hbl
      go_wp2_with fail
      refine wpIn_wide.1 (wpIn_rangeFunc_ownG (n := 10) rfl (by omega) (gf := 196) (lb := #[.pointer (some ⟨w5.heap.size + 1, 0, none⟩)]) rfl trivial (enters_of Try.func196 (by kernel_rfl) rfl)
        (back_stops Fence.wide 9 trivial rfl (by omega) (w5.heap.size + 1) ob oo _ zs hzlen w7 (by omega) (by omega) hBs hI7) KeepB.trans (keepB_b (by omega) (by omega)) (Below.refl _ _) (fun _ => rfl)
        (fun pre W' => FfMem n.pipes.length S.length (.slice a0 n.nodes.length k0) (.slice a1 n.pipes.length k1) w (w.heap.size + 1 + 1) w2.heap.size (w.heap.size + 1) g cap W' ((pre.map (fun j => (bk zs j).2)).foldl (ffW n (srch n k)) (ffIter n S k)) ∧
          FfRest w5.heap.size be eo (.slice (some ⟨ob, oo, none⟩) (srch n k).order.length 1) (.slice da (srch n k).dist.length dc) ec (srch n k).ent W3.heap.size w4.heap.size (.slice (some ⟨cb, co, none⟩) n.nodes.length cc) (comps n) ds w7.heap.size W')
        (fun _ _ _ => False) ?own (fun _ _ _ _ _ hs _ _ => hs) ⟨HM7.out, HS6.out, HC7.out, fun D hD => by rw [k7.block D (HDL.out D hD) (fun e => e)]; exact (D6.out D hD).1, Nat.le_refl _⟩ (fun x => { tmps := #[Value.agg #[.slice a0 n.nodes.length k0, .slice a1 n.pipes.length k1], sv, .pointer (some ⟨w.heap.size, 0, none⟩), undef, .slice none 0 0, .pointer (some ⟨w.heap.size + 1 + 1, 0, none⟩), .pointer (some ⟨w2.heap.size, 0, none⟩), .int .i64 k, .int .i64 k, .pointer (some ⟨w5.heap.size, 0, none⟩), undef, .int .i64 (bk zs x).2, undef, undef, .pointer (some ⟨w.heap.size, 1, none⟩), .slice a1 n.pipes.length k1, .int .i64 n.pipes.length, .slice (some ⟨w.heap.size + 1, 0, none⟩) n.pipes.length n.pipes.length, sv, .slice (some ⟨g, 0, none⟩) S.length cap, .agg #[.slice a0 n.nodes.length k0, .slice a1 n.pipes.length k1], .slice (some ⟨cb, co, none⟩) n.nodes.length cc, .int .i64 n.nodes.length, .int .i64 k, .bool true, .int .i64 k, .pointer (some ⟨cb, co + k, none⟩), .int .i64 k, .int .i64 k, .int .i64 k, .bool false, .agg #[.slice a0 n.nodes.length k0, .slice a1 n.pipes.length k1], .int .i64 k, .agg #[.slice (some ⟨ob, oo, none⟩) (srch n k).order.length 1, .slice da (srch n k).dist.length dc, .slice (some ⟨be, eo, none⟩) (srch n k).ent.length ec], .pointer (some ⟨w5.heap.size, 0, none⟩), .slice (some ⟨ob, oo, none⟩) (srch n k).order.length 1, .slice (some ⟨ob, oo, none⟩) (0) 0, .func (.func 196) #[] #[.pointer (some ⟨w5.heap.size + 1, 0, none⟩)], .int .i64 ((bk zs x).1 : Nat), .int .i64 (bk zs x).2, undef, undef, undef, undef, undef, undef, undef, undef, undef, undef, undef, undef, undef, undef, undef, undef, undef, undef, undef, undef, undef, undef, undef, undef, undef, undef, undef, undef, undef, undef, undef, undef, undef, undef, undef, undef, undef, undef, undef, undef, undef, u81, undef], defers := [] }) ?assign ?body ?done ?stop)
      case own =>
        intro s A B row hs hg hr
        have hk : Kept (fun b => w7.heap.size ≤ b) A B := (Kept.of_grown hg).mono (fun b _ e => (hr b e).1)
        exact ⟨hs.1.kept hk (by omega) (by omega) (by omega) (by omega) (by omega) (fun b hb => by omega), hs.2.kept hk (by omega) (by omega) (fun b _ _ => by omega) (fun D hD => by have := HDL.out D hD; have := k7.size; omega)⟩
      case assign =>
        intro l x W' K hK
        gi_wp2
        exact hK
      case stop =>
        rintro D c pre W' hD _ h _
        exact h.elim
      case done =>
        rintro D xs W' hD rfl ⟨hm, hs⟩ hDh
        rw [HZ2.out, bkall, ffW_all hb HSL.out HEV.out HSB.out hlt HRT.out] at hm
        have HM9 := hid hm
        have HS9 := hid hs
        have HD9 := hid hDh
        have hz9 := hs.z
        clear hm hs hDh
        go_wp2_with fail
        refine ⟨⟨k + 1, D :: ds, _, _, _, _, _, _, _, _, _, _, _, _, _, _, _, _, _, _, rfl, by omega, HM9.out, HS9.out.c, ?_, ?_, by omega⟩, ?_⟩
        · intro D' hD'
          rcases List.mem_cons.1 hD' with rfl | hD'
          · exact ⟨HD9.out, by omega⟩
          · exact ⟨HS9.out.d D' hD', (D6.out D' hD').2⟩
        · refine List.nodup_cons.2 ⟨fun hm => ?_, nd5⟩
          have := HDL.out D hm
          omega
        · simp [intOf]; omega
      case body =>
        rintro l pre x W' ⟨hm, hs⟩ hlen
        have hvz : (bk zs x).2 ∈ zs := bk_mem (by omega)
        have hvb : (bk zs x).2 ∈ backOf (srch n k) := by unfold backOf; rw [HZS.out]; exact List.mem_reverse.2 hvz
        obtain ⟨m, hml, hmv⟩ := List.getElem_of_mem hvb
        obtain ⟨xx, i, y, e1, _, hxn, e2, hi, e3, _, hyn, hyx⟩ := ff_node hb (by omega : k < n.nodes.length) hml
        have hxv : (bk zs x).2 = (xx : Int) := by rw [← hmv, e1]
        obtain ⟨st, hst⟩ : ∃ st, (pre.map (fun j => (bk zs j).2)).foldl (ffW n (srch n k)) (ffIter n S k) = st := ⟨_, rfl⟩
        have hl12 := ffW_fold_len n (srch n k) (pre.map (fun j => (bk zs j).2)) (ffIter n S k)
        have hl34 := ff_len (n := n) S HSL.out k
        rw [hst] at hm hl12
        have hl1 : st.1.length = n.pipes.length := hl12.1.trans hl34.1
        have hl2 : st.2.length = n.nodes.length := hl12.2.trans hl34.2
        have hnext := ffW_step (st := st) e2 hi e3
        have HG : Hid (ffW n (srch n k) st xx = ((pre ++ [x]).map (fun j => (bk zs j).2)).foldl (ffW n (srch n k)) (ffIter n S k)) := by
          rw [Hid, List.map_append, List.foldl_append, hst, List.map_singleton, List.foldl_cons, List.foldl_nil, hxv]
        rw [hnext] at HG
        obtain ⟨a, ha⟩ : ∃ a, st.2.getD xx 0 = a := ⟨_, rfl⟩
        obtain ⟨b, hbb⟩ : ∃ b, st.2.getD y 0 = b := ⟨_, rfl⟩
        rw [ha, hbb] at HG
        have ca := hm.lr xx (by omega)
        have cy := hm.lr y (by omega)
        have ci := hm.fr i (by omega)
        have ha2 : st.2[xx]'(by omega) = a := by rw [← ha]; simp [List.getD, hl2, hxn]
        have hb2 : st.2[y]'(by omega) = b := by rw [← hbb]; simp [List.getD, hl2, hyn]
        rw [ha2] at ca
        rw [hb2] at cy
        obtain ⟨o1, ho1⟩ : ∃ o1, st.1[i]'(by omega) = o1 := ⟨_, rfl⟩
        rw [ho1] at ci
        obtain ⟨ca1, ca2⟩ := ca
        obtain ⟨cy1, cy2⟩ := cy
        obtain ⟨ci1, ci2⟩ := ci
        replace ca2 := ca2 xx
        replace cy2 := cy2 y
        replace ci2 := ci2 i
        have hen := hs.s.en xx (by rw [HEL.out]; omega)
        have he4 : (srch n k).ent[xx]'(by rw [HEL.out]; omega) = i := by rw [← e2]; simp [List.getD, HEL.out, hxn]
        rw [he4] at hen
        have s2 := hs.s.s2
        obtain ⟨pb, po, hpa, hpl, hpc⟩ := (HP.out.below hm.bel).2.2.at' (by omega)
        subst hpa
        obtain ⟨p0, p1, p2, p3, p4⟩ := cellsP (hpc i hi)
        have hx1 := hm.x1
        have hfb := hm.fb
        have hlb := hm.lb
        have hoe : ∀ W : World, Calls Try.prog 95 #[.agg #[.int .i64 n.pipes[i].fr, .int .i64 n.pipes[i].to, .int .i64 n.pipes[i].k, .int .i64 n.pipes[i].vol, .int .i64 n.pipes[i].lim], .int .i64 xx] W fun e w' => e = .returned (.int .i64 y) ∧ w' = W.alloc (.cells #[.int .i64 n.pipes[i].fr, .int .i64 n.pipes[i].to, .int .i64 n.pipes[i].k, .int .i64 n.pipes[i].vol, .int .i64 n.pipes[i].lim] 73) := fun W => by
          have := otherEnd_alloc n.pipes[i] xx W
          rw [e3] at this
          exact this
        have HO := hid hoe
        have HNE := hid hyx
        have HMM := hid hm
        have HSS := hid hs
        have hmx : Try.prog.follows .mixedOrders = true := by kernel_rfl
        have hd : 1 ≤ 10 - 1 - 1 := by omega
        have hzz := hs.z
        have hxE : xx < (srch n k).ent.length := by rw [HEL.out]; exact hxn
        have hxEI : (xx : Int) < ((srch n k).ent.length : Int) := by omega
        have hxS : xx < S.length := by rw [HSL.out]; exact hxn
        have hxSI : (xx : Int) < (S.length : Int) := by omega
        have hyS : y < S.length := by rw [HSL.out]; exact hyn
        have hySI : (y : Int) < (S.length : Int) := by omega
        have hiI : (i : Int) < (n.pipes.length : Int) := by omega
        clear hoe hm hs hpc e1 e2 e3 hmv hst hl12 hl34 hnext ha hbb ha2 hb2 ho1 he4 hvz hvb
        rw [hxv]
        gi_wp2
        have b8 := below_new W' (.cells #[.int .i64 n.pipes[i].fr, .int .i64 n.pipes[i].to, .int .i64 n.pipes[i].k, .int .i64 n.pipes[i].vol, .int .i64 n.pipes[i].lim] 73)
        have X8 := Box.new W' #[.int .i64 n.pipes[i].fr, .int .i64 n.pipes[i].to, .int .i64 n.pipes[i].k, .int .i64 n.pipes[i].vol, .int .i64 n.pipes[i].lim] 73
        obtain ⟨W8, hW8⟩ : ∃ W8, W'.alloc (.cells #[.int .i64 n.pipes[i].fr, .int .i64 n.pipes[i].to, .int .i64 n.pipes[i].k, .int .i64 n.pipes[i].vol, .int .i64 n.pipes[i].lim] 73) = W8 := ⟨_, rfl⟩
        have hz8 : W8.heap.size = W'.heap.size + 1 := by rw [← hW8]; simp
        rw [hW8] at b8 X8 ⊢
        have HM8 := hid (HMM.out.below b8)
        have HS8 := hid (HSS.out.kept (X := fun _ => False) (Kept.of_below b8) (fun e => e) (fun e => e) (fun _ _ _ e => e) (fun _ _ e => e))
        obtain ⟨d0, d1, d2, d3, d4⟩ := X8.five
        have b8h := hid b8
        have hfb := (b8.cell (p := ⟨w.heap.size + 1 + 1, 0, none⟩) (by simp only; omega)).trans hfb
        have hlb := (b8.cell (p := ⟨w2.heap.size, 0, none⟩) (by simp only; omega)).trans hlb
        have ca1 := (b8.cell (p := ⟨g, xx, none⟩) (by simp only; omega)).trans ca1
        have cy1 := (b8.cell (p := ⟨g, y, none⟩) (by simp only; omega)).trans cy1
        have ci1 := (b8.cell (p := ⟨w.heap.size + 1, i, none⟩) (by simp only; omega)).trans ci1
        have ca2 := (b8.frozen (p := ⟨g, xx, none⟩) (by simp only; omega)).trans ca2
        have cy2 := (b8.frozen (p := ⟨g, y, none⟩) (by simp only; omega)).trans cy2
        have ci2 := (b8.frozen (p := ⟨w.heap.size + 1, i, none⟩) (by simp only; omega)).trans ci2
        clear hW8 X8 b8 s2 hen hx1 p0 p1 p2 p3 p4
        refine wpIn_region_held_drew (S := fun W => W.cell? ⟨w.heap.size + 1 + 1, 0, none⟩ = some (.slice (some ⟨w.heap.size + 1, 0, none⟩) n.pipes.length n.pipes.length) ∧ W.cell? ⟨w2.heap.size, 0, none⟩ = some (.slice (some ⟨g, 0, none⟩) S.length cap) ∧ W.cell? ⟨g, xx, none⟩ = some (.int .i64 a)) hmx (noDefer_at (by kernel_rfl)) (fun ⟨_, _, h⟩ => h) ?_ (fun hHeld => ?_)
        · exact ⟨hfb, hlb, ca1⟩
        refine wpAnyH_take (i := 0) (v := .slice (some ⟨w.heap.size + 1, 0, none⟩) n.pipes.length n.pipes.length) rfl (by kernel_rfl) (by kernel_rfl) (by kernel_rfl) (fun _ _ _ h => h) (Or.inl ⟨by rfl, ?_⟩) (by assumption) ?_
        · intro wq hSw
          try dsimp only at hSw
          go_simp
        try simp only [Act.put]
        refine wpAnyH_take (i := 1) (v := .int .i64 i) rfl (by kernel_rfl) (by kernel_rfl) (by kernel_rfl) (fun _ _ _ h => h) (Or.inl ⟨by rfl, ?_⟩) (by assumption) ?_
        · intro wq hSw
          try dsimp only at hSw
          go_simp
        try simp only [Act.put]
        refine wpAnyH_take (i := 2) (v := .slice (some ⟨g, 0, none⟩) S.length cap) rfl (by kernel_rfl) (by kernel_rfl) (by kernel_rfl) (fun _ _ _ h => h) (Or.inl ⟨by rfl, ?_⟩) (by assumption) ?_
        · intro wq hSw
          try dsimp only at hSw
          go_simp
        try simp only [Act.put]
        refine wpAnyH_take (i := 3) (v := .int .i64 xx) rfl (by kernel_rfl) (by kernel_rfl) (by kernel_rfl) (fun _ _ _ h => h) (Or.inl ⟨by rfl, ?_⟩) (by assumption) ?_
        · intro wq hSw
          try dsimp only at hSw
          go_simp
        try simp only [Act.put]
        refine wpAnyH_take (i := 4) (v := .pointer (some ⟨g, xx, none⟩)) rfl (by kernel_rfl) (by kernel_rfl) (by kernel_rfl) (fun _ _ _ h => h) (Or.inl ⟨by rfl, ?_⟩) (by assumption) ?_
        · intro wq hSw
          try dsimp only at hSw
          go_simp
        try simp only [Act.put]
        refine wpAnyH_take (i := 5) (v := .int .i64 a) rfl (by kernel_rfl) (by kernel_rfl) (by kernel_rfl) (fun _ _ _ h => h) (Or.inl ⟨by rfl, ?_⟩) (by assumption) ?_
        · intro wq hSw
          try dsimp only at hSw
          go_simp
        try simp only [Act.put]
        refine wpAnyH_take (i := 6) (v := .pointer (some ⟨w.heap.size + 1, i, none⟩)) rfl (by kernel_rfl) (by kernel_rfl) (by kernel_rfl) (fun _ _ _ h => h) (Or.inl ⟨by rfl, ?_⟩) (by assumption) ?_
        · intro wq hSw
          try dsimp only at hSw
          go_simp
        try simp only [Act.put]
        refine wpAnyH_ready (rs := [7]) (by kernel_rfl) (by simp) ?_
        refine AllReadyH.cons rfl (fun KK hK => ?_) AllReadyH.nil
        go_simp
        refine hK.out _ _ ?_ (fun hHeld => ?_)
        · exact ⟨(cell_far (Or.inl (by omega))).trans hfb, (cell_far (Or.inl (by omega))).trans hlb, (cell_far (Or.inl (by omega))).trans ca1⟩
        clear hK KK
        try simp only [Act.put]
        refine wpAnyH_done (by kernel_rfl) ?_ _
        have hne : y ≠ xx := by have := HNE.out; omega
        by_cases hto : n.pipes[i].to = (xx : Int)
        · have htoB : (n.pipes[i].to == (xx : Int)) = true := by simpa using hto
          have HTO := hid hto
          clear hto
          gi_wp2
          clear htoB
          have ci3 : (W8.setCell ⟨w.heap.size + 1, i, none⟩ (.int .i64 a)).cell? ⟨w.heap.size + 1, i, none⟩ = some (.int .i64 a) := cell_set_same ci1
          have ci4 : (W8.setCell ⟨w.heap.size + 1, i, none⟩ (.int .i64 a)).frozen? ⟨w.heap.size + 1, i, none⟩ = false := by rw [World.frozen?_setCell]; exact ci2
          refine wpIn_region_held_drew (S := fun W => W.cell? ⟨w.heap.size + 1 + 1, 0, none⟩ = some (.slice (some ⟨w.heap.size + 1, 0, none⟩) n.pipes.length n.pipes.length) ∧ W.cell? ⟨w2.heap.size, 0, none⟩ = some (.slice (some ⟨g, 0, none⟩) S.length cap) ∧ W.cell? ⟨g, xx, none⟩ = some (.int .i64 a)) hmx (noDefer_at (by kernel_rfl)) (fun ⟨_, _, h⟩ => h) ?_ (fun hHeld => ?_)
          · exact ⟨(cell_far (Or.inl (by omega))).trans hfb, (cell_far (Or.inl (by omega))).trans hlb, (cell_far (Or.inl (by omega))).trans ca1⟩
          refine wpAnyH_take (i := 0) (v := .slice (some ⟨w.heap.size + 1, 0, none⟩) n.pipes.length n.pipes.length) rfl (by kernel_rfl) (by kernel_rfl) (by kernel_rfl) (fun _ _ _ h => h) (Or.inl ⟨by rfl, ?_⟩) (by assumption) ?_
          · intro wq hSw
            try dsimp only at hSw
            go_simp
          try simp only [Act.put]
          refine wpAnyH_take (i := 1) (v := .int .i64 i) rfl (by kernel_rfl) (by kernel_rfl) (by kernel_rfl) (fun _ _ _ h => h) (Or.inl ⟨by rfl, ?_⟩) (by assumption) ?_
          · intro wq hSw
            try dsimp only at hSw
            go_simp
          try simp only [Act.put]
          refine wpAnyH_take (i := 2) (v := .slice (some ⟨g, 0, none⟩) S.length cap) rfl (by kernel_rfl) (by kernel_rfl) (by kernel_rfl) (fun _ _ _ h => h) (Or.inl ⟨by rfl, ?_⟩) (by assumption) ?_
          · intro wq hSw
            try dsimp only at hSw
            go_simp
          try simp only [Act.put]
          refine wpAnyH_take (i := 3) (v := .int .i64 xx) rfl (by kernel_rfl) (by kernel_rfl) (by kernel_rfl) (fun _ _ _ h => h) (Or.inl ⟨by rfl, ?_⟩) (by assumption) ?_
          · intro wq hSw
            try dsimp only at hSw
            go_simp
          try simp only [Act.put]
          refine wpAnyH_take (i := 4) (v := .pointer (some ⟨g, xx, none⟩)) rfl (by kernel_rfl) (by kernel_rfl) (by kernel_rfl) (fun _ _ _ h => h) (Or.inl ⟨by rfl, ?_⟩) (by assumption) ?_
          · intro wq hSw
            try dsimp only at hSw
            go_simp
          try simp only [Act.put]
          refine wpAnyH_take (i := 5) (v := .int .i64 a) rfl (by kernel_rfl) (by kernel_rfl) (by kernel_rfl) (fun _ _ _ h => h) (Or.inl ⟨by rfl, ?_⟩) (by assumption) ?_
          · intro wq hSw
            try dsimp only at hSw
            go_simp
          try simp only [Act.put]
          refine wpAnyH_take (i := 6) (v := .int .i64 (IntKind.i64.wrap (-a))) rfl (by kernel_rfl) (by kernel_rfl) (by kernel_rfl) (fun _ _ _ h => h) (Or.inl ⟨by rfl, ?_⟩) (by assumption) ?_
          · intro wq hSw
            try dsimp only at hSw
            go_simp
          try simp only [Act.put]
          refine wpAnyH_take (i := 7) (v := .pointer (some ⟨w.heap.size + 1, i, none⟩)) rfl (by kernel_rfl) (by kernel_rfl) (by kernel_rfl) (fun _ _ _ h => h) (Or.inl ⟨by rfl, ?_⟩) (by assumption) ?_
          · intro wq hSw
            try dsimp only at hSw
            go_simp
          try simp only [Act.put]
          refine wpAnyH_ready (rs := [8]) (by kernel_rfl) (by simp) ?_
          refine AllReadyH.cons rfl (fun KK hK => ?_) AllReadyH.nil
          go_simp
          refine hK.out _ _ ?_ (fun hHeld => ?_)
          · exact ⟨(cell_far (Or.inl (by omega))).trans ((cell_far (Or.inl (by omega))).trans hfb), (cell_far (Or.inl (by omega))).trans ((cell_far (Or.inl (by omega))).trans hlb), (cell_far (Or.inl (by omega))).trans ((cell_far (Or.inl (by omega))).trans ca1)⟩
          clear hK KK
          try simp only [Act.put]
          refine wpAnyH_done (by kernel_rfl) ?_ _
          gi_wp2
          have k9 : Kept (fun b => b = w.heap.size + 1) W8 (((W8.setCell ⟨w.heap.size + 1, i, none⟩ (.int .i64 a)).setCell ⟨w.heap.size + 1, i, none⟩ (.int .i64 (IntKind.i64.wrap (-a)))).drew.drew) := ((((Kept.refl (fun b => b = w.heap.size + 1) _).setCell (p := ⟨w.heap.size + 1, i, none⟩) rfl _).setCell (p := ⟨w.heap.size + 1, i, none⟩) rfl _).drew).drew
          have HM9 : Hid (FfMem n.pipes.length S.length (.slice a0 n.nodes.length k0) (.slice (some ⟨pb, po, none⟩) n.pipes.length k1) w (w.heap.size + 1 + 1) w2.heap.size (w.heap.size + 1) g cap (((W8.setCell ⟨w.heap.size + 1, i, none⟩ (.int .i64 a)).setCell ⟨w.heap.size + 1, i, none⟩ (.int .i64 (IntKind.i64.wrap (-a)))).drew.drew) (st.1.set i (if n.pipes[i].to = (xx : Int) then IntKind.i64.wrap (-a) else a), st.2)) := by rw [if_pos HTO.out]; have h := (HM8.out.setF ap i a).setF ap i (IntKind.i64.wrap (-a)); simp only [List.set_set] at h; exact (h.below (Below.refl _ _).drew).below (Below.refl _ _).drew
          obtain ⟨W9, hW9⟩ : ∃ W9, ((W8.setCell ⟨w.heap.size + 1, i, none⟩ (.int .i64 a)).setCell ⟨w.heap.size + 1, i, none⟩ (.int .i64 (IntKind.i64.wrap (-a)))).drew.drew = W9 := ⟨_, rfl⟩
          rw [hW9] at k9 HM9 ⊢
          clear hW9
          have HS9 := hid (HS8.out.kept k9 (by omega) (by omega) (fun b _ _ => by omega) (fun D hD => by have := (D6.out D hD).2; omega))
          have hz9 := k9.size
          have hlb := k9.cell hlb (by simp only; omega)
          have ca1 := k9.cell ca1 (by simp only; omega)
          have cy1 := k9.cell cy1 (by simp only; omega)
          have d0 := k9.cell d0 (by simp only; omega)
          have d1 := k9.cell d1 (by simp only; omega)
          have d2 := k9.cell d2 (by simp only; omega)
          have d3 := k9.cell d3 (by simp only; omega)
          have d4 := k9.cell d4 (by simp only; omega)
          have cy2 := (HM9.out.lr y (by simp only; omega)).2 y
          clear hfb ci1 ci2 ca2
          refine wpIn_region_held_drew (S := fun W => W.cell? ⟨w2.heap.size, 0, none⟩ = some (.slice (some ⟨g, 0, none⟩) S.length cap) ∧ W.cell? ⟨g, xx, none⟩ = some (.int .i64 a) ∧ W.cell? ⟨W'.heap.size, 0, none⟩ = some (.int .i64 n.pipes[i].fr) ∧ W.cell? ⟨W'.heap.size, 1, none⟩ = some (.int .i64 n.pipes[i].to) ∧ W.cell? ⟨W'.heap.size, 2, none⟩ = some (.int .i64 n.pipes[i].k) ∧ W.cell? ⟨W'.heap.size, 3, none⟩ = some (.int .i64 n.pipes[i].vol) ∧ W.cell? ⟨W'.heap.size, 4, none⟩ = some (.int .i64 n.pipes[i].lim)) hmx (noDefer_at (by kernel_rfl)) (fun ⟨_, _, h⟩ => h) ?_ (fun hHeld => ?_)
          · exact ⟨hlb, ca1, d0, d1, d2, d3, d4⟩
          refine wpAnyH_take (i := 0) (v := .slice (some ⟨g, 0, none⟩) S.length cap) rfl (by kernel_rfl) (by kernel_rfl) (by kernel_rfl) (fun _ _ _ h => h) (Or.inl ⟨by rfl, ?_⟩) (by assumption) ?_
          · intro wq hSw
            try dsimp only at hSw
            go_simp
          try simp only [Act.put]
          refine wpAnyH_take (i := 1) (v := .agg #[.int .i64 n.pipes[i].fr, .int .i64 n.pipes[i].to, .int .i64 n.pipes[i].k, .int .i64 n.pipes[i].vol, .int .i64 n.pipes[i].lim]) rfl (by kernel_rfl) (by kernel_rfl) (by kernel_rfl) (fun _ _ _ h => h) (Or.inl ⟨by rfl, ?_⟩) (by assumption) ?_
          · intro wq hSw
            try dsimp only at hSw
            go_simp
          try simp only [Act.put]
          refine wpAnyH_take (i := 2) (v := .int .i64 xx) rfl (by kernel_rfl) (by kernel_rfl) (by kernel_rfl) (fun _ _ _ h => h) (Or.inl ⟨by rfl, ?_⟩) (by assumption) ?_
          · intro wq hSw
            try dsimp only at hSw
            go_simp
          try simp only [Act.put]
          refine wpAnyH_take (i := 6) (v := .slice (some ⟨g, 0, none⟩) S.length cap) rfl (by kernel_rfl) (by kernel_rfl) (by kernel_rfl) (fun _ _ _ h => h) (Or.inl ⟨by rfl, ?_⟩) (by assumption) ?_
          · intro wq hSw
            try dsimp only at hSw
            go_simp
          try simp only [Act.put]
          refine wpAnyH_take (i := 7) (v := .int .i64 xx) rfl (by kernel_rfl) (by kernel_rfl) (by kernel_rfl) (fun _ _ _ h => h) (Or.inl ⟨by rfl, ?_⟩) (by assumption) ?_
          · intro wq hSw
            try dsimp only at hSw
            go_simp
          try simp only [Act.put]
          refine wpAnyH_take (i := 8) (v := .pointer (some ⟨g, xx, none⟩)) rfl (by kernel_rfl) (by kernel_rfl) (by kernel_rfl) (fun _ _ _ h => h) (Or.inl ⟨by rfl, ?_⟩) (by assumption) ?_
          · intro wq hSw
            try dsimp only at hSw
            go_simp
          try simp only [Act.put]
          refine wpAnyH_take (i := 9) (v := .int .i64 a) rfl (by kernel_rfl) (by kernel_rfl) (by kernel_rfl) (fun _ _ _ h => h) (Or.inl ⟨by rfl, ?_⟩) (by assumption) ?_
          · intro wq hSw
            try dsimp only at hSw
            go_simp
          try simp only [Act.put]
          refine wpAnyH_ready (rs := [3]) (by kernel_rfl) (by simp) ?_
          refine AllReadyH.cons rfl (fun KK hK => ?_) AllReadyH.nil
          go_simp
          refine (HO.out _).mono ?_
          rintro e w6 ⟨rfl, rfl⟩
          have bq := below_new W9 (.cells #[.int .i64 n.pipes[i].fr, .int .i64 n.pipes[i].to, .int .i64 n.pipes[i].k, .int .i64 n.pipes[i].vol, .int .i64 n.pipes[i].lim] 73)
          have hlbq := (bq.cell (p := ⟨w2.heap.size, 0, none⟩) (by simp only; omega)).trans hlb
          have caq := (bq.cell (p := ⟨g, xx, none⟩) (by simp only; omega)).trans ca1
          have cyq := (bq.cell (p := ⟨g, y, none⟩) (by simp only; omega)).trans cy1
          have dq0 := (bq.cell (p := ⟨W'.heap.size, 0, none⟩) (by simp only; omega)).trans d0
          have dq1 := (bq.cell (p := ⟨W'.heap.size, 1, none⟩) (by simp only; omega)).trans d1
          have dq2 := (bq.cell (p := ⟨W'.heap.size, 2, none⟩) (by simp only; omega)).trans d2
          have dq3 := (bq.cell (p := ⟨W'.heap.size, 3, none⟩) (by simp only; omega)).trans d3
          have dq4 := (bq.cell (p := ⟨W'.heap.size, 4, none⟩) (by simp only; omega)).trans d4
          have cyq2 := (bq.frozen (p := ⟨g, y, none⟩) (by simp only; omega)).trans cy2
          have HM10 := hid (HM9.out.below bq)
          have HS10 := hid (HS9.out.kept (X := fun _ => False) (Kept.of_below bq) (fun e => e) (fun e => e) (fun _ _ _ e => e) (fun _ _ e => e))
          have k10 : Kept (fun b => b = w.heap.size + 1 ∨ b = g) W' (W9.alloc (.cells #[.int .i64 n.pipes[i].fr, .int .i64 n.pipes[i].to, .int .i64 n.pipes[i].k, .int .i64 n.pipes[i].vol, .int .i64 n.pipes[i].lim] 73)) := ((Kept.of_below b8h.out).trans (k9.mono (fun b _ e => .inl e))).trans (Kept.of_below bq)
          refine hK.out _ _ ?_ (fun hHeld => ?_)
          · exact ⟨hlbq, caq, dq0, dq1, dq2, dq3, dq4⟩
          clear hK KK
          try simp only [Act.put]
          refine wpAnyH_take (i := 4) (v := .pointer (some ⟨g, y, none⟩)) rfl (by kernel_rfl) (by kernel_rfl) (by kernel_rfl) (fun _ _ _ h => h) (Or.inl ⟨by rfl, ?_⟩) (by assumption) ?_
          · intro wq hSw
            try dsimp only at hSw
            go_simp
          try simp only [Act.put]
          refine wpAnyH_ready (rs := [5]) (by kernel_rfl) (by simp) ?_
          refine AllReadyH.cons rfl (fun KK hK => ?_) AllReadyH.nil
          go_simp
          refine hK.out _ _ ?_ (fun hHeld => ?_)
          · exact hHeld
          clear hK KK
          try simp only [Act.put]
          refine wpAnyH_ready (rs := [10]) (by kernel_rfl) (by simp) ?_
          refine AllReadyH.cons rfl (fun KK hK => ?_) AllReadyH.nil
          go_simp
          refine hK.out _ _ ?_ (fun hHeld => ?_)
          · exact hHeld
          clear hK KK
          try simp only [Act.put]
          refine wpAnyH_ready (rs := [11]) (by kernel_rfl) (by simp) ?_
          refine AllReadyH.cons rfl (fun KK hK => ?_) AllReadyH.nil
          go_simp
          refine hK.out _ _ ?_ (fun hHeld => ?_)
          · exact hHeld
          clear hK KK
          try simp only [Act.put]
          refine wpAnyH_ready (rs := [12]) (by kernel_rfl) (by simp) ?_
          refine AllReadyH.cons rfl (fun KK hK => ?_) AllReadyH.nil
          go_simp
          refine hK.out _ _ ?_ (fun hHeld => ?_)
          · exact ⟨(cell_far (Or.inl (by omega))).trans hlbq, (cell_far (Or.inr (by omega))).trans caq, (cell_far (Or.inl (by omega))).trans dq0, (cell_far (Or.inl (by omega))).trans dq1, (cell_far (Or.inl (by omega))).trans dq2, (cell_far (Or.inl (by omega))).trans dq3, (cell_far (Or.inl (by omega))).trans dq4⟩
          clear hK KK
          try simp only [Act.put]
          refine wpAnyH_done (by kernel_rfl) ?_ _
          gi_wp2
          have kf : Kept (fun b => b = w.heap.size + 1 ∨ b = g) W' (((W9.alloc (.cells #[.int .i64 n.pipes[i].fr, .int .i64 n.pipes[i].to, .int .i64 n.pipes[i].k, .int .i64 n.pipes[i].vol, .int .i64 n.pipes[i].lim] 73)).setCell ⟨g, y, none⟩ (.int .i64 (IntKind.i64.wrap (b + a)))).drew) := (k10.setCell (p := ⟨g, y, none⟩) (.inr rfl) _).drew
          have hfin : FfMem n.pipes.length S.length (.slice a0 n.nodes.length k0) (.slice (some ⟨pb, po, none⟩) n.pipes.length k1) w (w.heap.size + 1 + 1) w2.heap.size (w.heap.size + 1) g cap (((W9.alloc (.cells #[.int .i64 n.pipes[i].fr, .int .i64 n.pipes[i].to, .int .i64 n.pipes[i].k, .int .i64 n.pipes[i].vol, .int .i64 n.pipes[i].lim] 73)).setCell ⟨g, y, none⟩ (.int .i64 (IntKind.i64.wrap (b + a)))).drew) (st.1.set i (if n.pipes[i].to = (xx : Int) then IntKind.i64.wrap (-a) else a), st.2.set y (IntKind.i64.wrap (b + a))) := (HM10.out.setL ap y (IntKind.i64.wrap (b + a))).below (Below.refl _ _).drew
          rw [HG.out] at hfin
          exact ⟨KeepsFrom.of_kept kf (fun q hq => by omega), ⟨kf.block _ (by omega) (by omega), kf.block _ (by omega) (by omega)⟩, hfin, HSS.out.kept kf (by omega) (by omega) (fun b _ _ => by omega) (fun D hD => by have := (D6.out D hD).2; omega)⟩
        · have htoB : (n.pipes[i].to == (xx : Int)) = false := by simpa using hto
          have HTO := hid hto
          clear hto
          gi_wp2
          clear htoB
          have k9 : Kept (fun b => b = w.heap.size + 1) W8 ((W8.setCell ⟨w.heap.size + 1, i, none⟩ (.int .i64 a)).drew) := ((Kept.refl (fun b => b = w.heap.size + 1) _).setCell (p := ⟨w.heap.size + 1, i, none⟩) rfl _).drew
          have HM9 : Hid (FfMem n.pipes.length S.length (.slice a0 n.nodes.length k0) (.slice (some ⟨pb, po, none⟩) n.pipes.length k1) w (w.heap.size + 1 + 1) w2.heap.size (w.heap.size + 1) g cap ((W8.setCell ⟨w.heap.size + 1, i, none⟩ (.int .i64 a)).drew) (st.1.set i (if n.pipes[i].to = (xx : Int) then IntKind.i64.wrap (-a) else a), st.2)) := by rw [if_neg HTO.out]; exact (HM8.out.setF ap i a).below (Below.refl _ _).drew
          obtain ⟨W9, hW9⟩ : ∃ W9, (W8.setCell ⟨w.heap.size + 1, i, none⟩ (.int .i64 a)).drew = W9 := ⟨_, rfl⟩
          rw [hW9] at k9 HM9 ⊢
          clear hW9
          have HS9 := hid (HS8.out.kept k9 (by omega) (by omega) (fun b _ _ => by omega) (fun D hD => by have := (D6.out D hD).2; omega))
          have hz9 := k9.size
          have hlb := k9.cell hlb (by simp only; omega)
          have ca1 := k9.cell ca1 (by simp only; omega)
          have cy1 := k9.cell cy1 (by simp only; omega)
          have d0 := k9.cell d0 (by simp only; omega)
          have d1 := k9.cell d1 (by simp only; omega)
          have d2 := k9.cell d2 (by simp only; omega)
          have d3 := k9.cell d3 (by simp only; omega)
          have d4 := k9.cell d4 (by simp only; omega)
          have cy2 := (HM9.out.lr y (by simp only; omega)).2 y
          clear hfb ci1 ci2 ca2
          refine wpIn_region_held_drew (S := fun W => W.cell? ⟨w2.heap.size, 0, none⟩ = some (.slice (some ⟨g, 0, none⟩) S.length cap) ∧ W.cell? ⟨g, xx, none⟩ = some (.int .i64 a) ∧ W.cell? ⟨W'.heap.size, 0, none⟩ = some (.int .i64 n.pipes[i].fr) ∧ W.cell? ⟨W'.heap.size, 1, none⟩ = some (.int .i64 n.pipes[i].to) ∧ W.cell? ⟨W'.heap.size, 2, none⟩ = some (.int .i64 n.pipes[i].k) ∧ W.cell? ⟨W'.heap.size, 3, none⟩ = some (.int .i64 n.pipes[i].vol) ∧ W.cell? ⟨W'.heap.size, 4, none⟩ = some (.int .i64 n.pipes[i].lim)) hmx (noDefer_at (by kernel_rfl)) (fun ⟨_, _, h⟩ => h) ?_ (fun hHeld => ?_)
          · exact ⟨hlb, ca1, d0, d1, d2, d3, d4⟩
          refine wpAnyH_take (i := 0) (v := .slice (some ⟨g, 0, none⟩) S.length cap) rfl (by kernel_rfl) (by kernel_rfl) (by kernel_rfl) (fun _ _ _ h => h) (Or.inl ⟨by rfl, ?_⟩) (by assumption) ?_
          · intro wq hSw
            try dsimp only at hSw
            go_simp
          try simp only [Act.put]
          refine wpAnyH_take (i := 1) (v := .agg #[.int .i64 n.pipes[i].fr, .int .i64 n.pipes[i].to, .int .i64 n.pipes[i].k, .int .i64 n.pipes[i].vol, .int .i64 n.pipes[i].lim]) rfl (by kernel_rfl) (by kernel_rfl) (by kernel_rfl) (fun _ _ _ h => h) (Or.inl ⟨by rfl, ?_⟩) (by assumption) ?_
          · intro wq hSw
            try dsimp only at hSw
            go_simp
          try simp only [Act.put]
          refine wpAnyH_take (i := 2) (v := .int .i64 xx) rfl (by kernel_rfl) (by kernel_rfl) (by kernel_rfl) (fun _ _ _ h => h) (Or.inl ⟨by rfl, ?_⟩) (by assumption) ?_
          · intro wq hSw
            try dsimp only at hSw
            go_simp
          try simp only [Act.put]
          refine wpAnyH_take (i := 6) (v := .slice (some ⟨g, 0, none⟩) S.length cap) rfl (by kernel_rfl) (by kernel_rfl) (by kernel_rfl) (fun _ _ _ h => h) (Or.inl ⟨by rfl, ?_⟩) (by assumption) ?_
          · intro wq hSw
            try dsimp only at hSw
            go_simp
          try simp only [Act.put]
          refine wpAnyH_take (i := 7) (v := .int .i64 xx) rfl (by kernel_rfl) (by kernel_rfl) (by kernel_rfl) (fun _ _ _ h => h) (Or.inl ⟨by rfl, ?_⟩) (by assumption) ?_
          · intro wq hSw
            try dsimp only at hSw
            go_simp
          try simp only [Act.put]
          refine wpAnyH_take (i := 8) (v := .pointer (some ⟨g, xx, none⟩)) rfl (by kernel_rfl) (by kernel_rfl) (by kernel_rfl) (fun _ _ _ h => h) (Or.inl ⟨by rfl, ?_⟩) (by assumption) ?_
          · intro wq hSw
            try dsimp only at hSw
            go_simp
          try simp only [Act.put]
          refine wpAnyH_take (i := 9) (v := .int .i64 a) rfl (by kernel_rfl) (by kernel_rfl) (by kernel_rfl) (fun _ _ _ h => h) (Or.inl ⟨by rfl, ?_⟩) (by assumption) ?_
          · intro wq hSw
            try dsimp only at hSw
            go_simp
          try simp only [Act.put]
          refine wpAnyH_ready (rs := [3]) (by kernel_rfl) (by simp) ?_
          refine AllReadyH.cons rfl (fun KK hK => ?_) AllReadyH.nil
          go_simp
          refine (HO.out _).mono ?_
          rintro e w6 ⟨rfl, rfl⟩
          have bq := below_new W9 (.cells #[.int .i64 n.pipes[i].fr, .int .i64 n.pipes[i].to, .int .i64 n.pipes[i].k, .int .i64 n.pipes[i].vol, .int .i64 n.pipes[i].lim] 73)
          have hlbq := (bq.cell (p := ⟨w2.heap.size, 0, none⟩) (by simp only; omega)).trans hlb
          have caq := (bq.cell (p := ⟨g, xx, none⟩) (by simp only; omega)).trans ca1
          have cyq := (bq.cell (p := ⟨g, y, none⟩) (by simp only; omega)).trans cy1
          have dq0 := (bq.cell (p := ⟨W'.heap.size, 0, none⟩) (by simp only; omega)).trans d0
          have dq1 := (bq.cell (p := ⟨W'.heap.size, 1, none⟩) (by simp only; omega)).trans d1
          have dq2 := (bq.cell (p := ⟨W'.heap.size, 2, none⟩) (by simp only; omega)).trans d2
          have dq3 := (bq.cell (p := ⟨W'.heap.size, 3, none⟩) (by simp only; omega)).trans d3
          have dq4 := (bq.cell (p := ⟨W'.heap.size, 4, none⟩) (by simp only; omega)).trans d4
          have cyq2 := (bq.frozen (p := ⟨g, y, none⟩) (by simp only; omega)).trans cy2
          have HM10 := hid (HM9.out.below bq)
          have HS10 := hid (HS9.out.kept (X := fun _ => False) (Kept.of_below bq) (fun e => e) (fun e => e) (fun _ _ _ e => e) (fun _ _ e => e))
          have k10 : Kept (fun b => b = w.heap.size + 1 ∨ b = g) W' (W9.alloc (.cells #[.int .i64 n.pipes[i].fr, .int .i64 n.pipes[i].to, .int .i64 n.pipes[i].k, .int .i64 n.pipes[i].vol, .int .i64 n.pipes[i].lim] 73)) := ((Kept.of_below b8h.out).trans (k9.mono (fun b _ e => .inl e))).trans (Kept.of_below bq)
          refine hK.out _ _ ?_ (fun hHeld => ?_)
          · exact ⟨hlbq, caq, dq0, dq1, dq2, dq3, dq4⟩
          clear hK KK
          try simp only [Act.put]
          refine wpAnyH_take (i := 4) (v := .pointer (some ⟨g, y, none⟩)) rfl (by kernel_rfl) (by kernel_rfl) (by kernel_rfl) (fun _ _ _ h => h) (Or.inl ⟨by rfl, ?_⟩) (by assumption) ?_
          · intro wq hSw
            try dsimp only at hSw
            go_simp
          try simp only [Act.put]
          refine wpAnyH_ready (rs := [5]) (by kernel_rfl) (by simp) ?_
          refine AllReadyH.cons rfl (fun KK hK => ?_) AllReadyH.nil
          go_simp
          refine hK.out _ _ ?_ (fun hHeld => ?_)
          · exact hHeld
          clear hK KK
          try simp only [Act.put]
          refine wpAnyH_ready (rs := [10]) (by kernel_rfl) (by simp) ?_
          refine AllReadyH.cons rfl (fun KK hK => ?_) AllReadyH.nil
          go_simp
          refine hK.out _ _ ?_ (fun hHeld => ?_)
          · exact hHeld
          clear hK KK
          try simp only [Act.put]
          refine wpAnyH_ready (rs := [11]) (by kernel_rfl) (by simp) ?_
          refine AllReadyH.cons rfl (fun KK hK => ?_) AllReadyH.nil
          go_simp
          refine hK.out _ _ ?_ (fun hHeld => ?_)
          · exact hHeld
          clear hK KK
          try simp only [Act.put]
          refine wpAnyH_ready (rs := [12]) (by kernel_rfl) (by simp) ?_
          refine AllReadyH.cons rfl (fun KK hK => ?_) AllReadyH.nil
          go_simp
          refine hK.out _ _ ?_ (fun hHeld => ?_)
          · exact ⟨(cell_far (Or.inl (by omega))).trans hlbq, (cell_far (Or.inr (by omega))).trans caq, (cell_far (Or.inl (by omega))).trans dq0, (cell_far (Or.inl (by omega))).trans dq1, (cell_far (Or.inl (by omega))).trans dq2, (cell_far (Or.inl (by omega))).trans dq3, (cell_far (Or.inl (by omega))).trans dq4⟩
          clear hK KK
          try simp only [Act.put]
          refine wpAnyH_done (by kernel_rfl) ?_ _
          gi_wp2
          have kf : Kept (fun b => b = w.heap.size + 1 ∨ b = g) W' (((W9.alloc (.cells #[.int .i64 n.pipes[i].fr, .int .i64 n.pipes[i].to, .int .i64 n.pipes[i].k, .int .i64 n.pipes[i].vol, .int .i64 n.pipes[i].lim] 73)).setCell ⟨g, y, none⟩ (.int .i64 (IntKind.i64.wrap (b + a)))).drew) := (k10.setCell (p := ⟨g, y, none⟩) (.inr rfl) _).drew
          have hfin : FfMem n.pipes.length S.length (.slice a0 n.nodes.length k0) (.slice (some ⟨pb, po, none⟩) n.pipes.length k1) w (w.heap.size + 1 + 1) w2.heap.size (w.heap.size + 1) g cap (((W9.alloc (.cells #[.int .i64 n.pipes[i].fr, .int .i64 n.pipes[i].to, .int .i64 n.pipes[i].k, .int .i64 n.pipes[i].vol, .int .i64 n.pipes[i].lim] 73)).setCell ⟨g, y, none⟩ (.int .i64 (IntKind.i64.wrap (b + a)))).drew) (st.1.set i (if n.pipes[i].to = (xx : Int) then IntKind.i64.wrap (-a) else a), st.2.set y (IntKind.i64.wrap (b + a))) := (HM10.out.setL ap y (IntKind.i64.wrap (b + a))).below (Below.refl _ _).drew
          rw [HG.out] at hfin
          exact ⟨KeepsFrom.of_kept kf (fun q hq => by omega), ⟨kf.block _ (by omega) (by omega), kf.block _ (by omega) (by omega)⟩, hfin, HSS.out.kept kf (by omega) (by omega) (fun b _ _ => by omega) (fun D hD => by have := (D6.out D hD).2; omega)⟩
    case neg =>
      go_wp2_with fail
      refine (callsIn_wide.1 (back_in Fence.wide 9 trivial rfl _ _ _ _)).mono ?_
      rintro e w' ⟨rfl, rfl⟩
      have hz9 : (w5.alloc (.cells #[.slice (some ⟨ob, oo, none⟩) (srch n k).order.length oc, .slice da (srch n k).dist.length dc, .slice (some ⟨be, eo, none⟩) (srch n k).ent.length ec] 117)).heap.size = w5.heap.size + 1 := by simp
      obtain ⟨w6, hw6⟩ : ∃ w6, w5.alloc (.cells #[.slice (some ⟨ob, oo, none⟩) (srch n k).order.length oc, .slice da (srch n k).dist.length dc, .slice (some ⟨be, eo, none⟩) (srch n k).ent.length ec] 117) = w6 := ⟨_, rfl⟩
      have b6 := below_new w5 (.cells #[.slice (some ⟨ob, oo, none⟩) (srch n k).order.length oc, .slice da (srch n k).dist.length dc, .slice (some ⟨be, eo, none⟩) (srch n k).ent.length ec] 117)
      have X6 := Box.new w5 #[.slice (some ⟨ob, oo, none⟩) (srch n k).order.length oc, .slice da (srch n k).dist.length dc, .slice (some ⟨be, eo, none⟩) (srch n k).ent.length ec] 117
      rw [hw6] at hz9 b6 X6 ⊢
      rw [hz9]
      have b7 := below_new w6 (.cells #[.slice (some ⟨ob, (oo + 1), none⟩) ((srch n k).order.length - 1) (oc - 1)] 33)
      have hz7 : (w6.alloc (.cells #[.slice (some ⟨ob, (oo + 1), none⟩) ((srch n k).order.length - 1) (oc - 1)] 33)).heap.size = w5.heap.size + 1 + 1 := by simp [hz9]
      have X7 := Box.new w6 #[.slice (some ⟨ob, (oo + 1), none⟩) ((srch n k).order.length - 1) (oc - 1)] 33
      rw [hz9] at X7
      obtain ⟨w7, hw7⟩ : ∃ w7, w6.alloc (.cells #[.slice (some ⟨ob, (oo + 1), none⟩) ((srch n k).order.length - 1) (oc - 1)] 33) = w7 := ⟨_, rfl⟩
      rw [hw7] at b7 hz7 X7 ⊢
      have hBs := X7.2 0 (by simp)
      simp only [List.getElem_cons_zero] at hBs
      clear hw6 hw7
      have hS6 : FfS w5.heap.size be eo (.slice (some ⟨ob, oo, none⟩) (srch n k).order.length oc) (.slice da (srch n k).dist.length dc) ec (srch n k).ent w7 := by
        obtain ⟨y0, _, y2⟩ := (X6.below b7).three
        exact ⟨y0, y2, fun i hi => (b7.cell (p := ⟨be, eo + i, none⟩) (by simp only; omega)).trans ((b6.cell (p := ⟨be, eo + i, none⟩) (by simp only; omega)).trans (hec i hi))⟩
      have hM7 := ((M6.out.below b5).below b6).below b7
      have hzl : ((srch n k).order.drop 1).length = (srch n k).order.length - 1 := by (simp only [List.length_drop]) <;> omega
      have hbl := back_len (srch n k)
      replace hBs : w7.cell? ⟨w5.heap.size + 1, 0, none⟩ = some (.slice (some ⟨ob, (oo + 1), none⟩) ((srch n k).order.drop 1).length (oc - 1)) := by rw [hzl]; exact hBs
      have hI7 : ∀ j (hj : j < ((srch n k).order.drop 1).length), w7.cell? ⟨ob, (oo + 1) + j, none⟩ = some (.int .i64 ((srch n k).order.drop 1)[j]) := fun j hj => by
        have hj2 : 1 + j < (srch n k).order.length := by omega
        have h1 := hoc (1 + j) hj2
        rw [Nat.add_assoc, List.getElem_drop]
        exact (b7.cell (p := ⟨ob, oo + (1 + j), none⟩) (by simp only; omega)).trans ((b6.cell (p := ⟨ob, oo + (1 + j), none⟩) (by simp only; omega)).trans h1)
      have HC7 := hid (((C6.out.below b5).below b6).below b7)
      have k7 := Kept.of_below (X := fun _ => False) ((b5.trans (b6.mono b5.size)).trans (b7.mono (by have := b5.size; have := b6.size; omega)))
      have HS6 := hid hS6
      have HDL : Hid (∀ D ∈ ds, D < W.heap.size) := fun D hD => (Array.getElem?_eq_some_iff.1 (D6.out D hD).1).1
      have HM7 := hid hM7
      have z5 := b5.size
      have hle6 := g6.le_nodes
      obtain ⟨zs, hzs⟩ : ∃ zs, (srch n k).order.drop 1 = zs := ⟨_, rfl⟩
      rw [hzs] at hI7 hBs hzl
      have hzlen : zs.length ≤ 1000000 := by omega
      have HZS := hid hzs
      have HZL := hid hzl
      have hzl2 : zs.length = (backOf (srch n k)).length := by omega
      have HZ2 := hid hzl2
      have bkall : (List.range (backOf (srch n k)).length).map (fun j => (bk zs j).2) = backOf (srch n k) := by
        have h1 := bk_all zs
        rw [hzl2] at h1
        rw [h1, ← hzs]; rfl
      clear hS6 hM7 X6 X7 b5 b6 b7 M6 C6 hec hoc hpt hzs hzl hzl2 hbl
      go_wp2_with fail
      refine wpIn_wide.1 (wpIn_rangeFunc_ownG (n := 10) rfl (by omega) (gf := 196) (lb := #[.pointer (some ⟨w5.heap.size + 1, 0, none⟩)]) rfl trivial (enters_of Try.func196 (by kernel_rfl) rfl)
        (back_stops Fence.wide 9 trivial rfl (by omega) (w5.heap.size + 1) ob (oo + 1) _ zs hzlen w7 (by omega) (by omega) hBs hI7) KeepB.trans (keepB_b (by omega) (by omega)) (Below.refl _ _) (fun _ => rfl)
        (fun pre W' => FfMem n.pipes.length S.length (.slice a0 n.nodes.length k0) (.slice a1 n.pipes.length k1) w (w.heap.size + 1 + 1) w2.heap.size (w.heap.size + 1) g cap W' ((pre.map (fun j => (bk zs j).2)).foldl (ffW n (srch n k)) (ffIter n S k)) ∧
          FfRest w5.heap.size be eo (.slice (some ⟨ob, oo, none⟩) (srch n k).order.length oc) (.slice da (srch n k).dist.length dc) ec (srch n k).ent W3.heap.size w4.heap.size (.slice (some ⟨cb, co, none⟩) n.nodes.length cc) (comps n) ds w7.heap.size W')
        (fun _ _ _ => False) ?own (fun _ _ _ _ _ hs _ _ => hs) ⟨HM7.out, HS6.out, HC7.out, fun D hD => by rw [k7.block D (HDL.out D hD) (fun e => e)]; exact (D6.out D hD).1, Nat.le_refl _⟩ (fun x => { tmps := #[Value.agg #[.slice a0 n.nodes.length k0, .slice a1 n.pipes.length k1], sv, .pointer (some ⟨w.heap.size, 0, none⟩), undef, .slice none 0 0, .pointer (some ⟨w.heap.size + 1 + 1, 0, none⟩), .pointer (some ⟨w2.heap.size, 0, none⟩), .int .i64 k, .int .i64 k, .pointer (some ⟨w5.heap.size, 0, none⟩), undef, .int .i64 (bk zs x).2, undef, undef, .pointer (some ⟨w.heap.size, 1, none⟩), .slice a1 n.pipes.length k1, .int .i64 n.pipes.length, .slice (some ⟨w.heap.size + 1, 0, none⟩) n.pipes.length n.pipes.length, sv, .slice (some ⟨g, 0, none⟩) S.length cap, .agg #[.slice a0 n.nodes.length k0, .slice a1 n.pipes.length k1], .slice (some ⟨cb, co, none⟩) n.nodes.length cc, .int .i64 n.nodes.length, .int .i64 k, .bool true, .int .i64 k, .pointer (some ⟨cb, co + k, none⟩), .int .i64 k, .int .i64 k, .int .i64 k, .bool false, .agg #[.slice a0 n.nodes.length k0, .slice a1 n.pipes.length k1], .int .i64 k, .agg #[.slice (some ⟨ob, oo, none⟩) (srch n k).order.length oc, .slice da (srch n k).dist.length dc, .slice (some ⟨be, eo, none⟩) (srch n k).ent.length ec], .pointer (some ⟨w5.heap.size, 0, none⟩), .slice (some ⟨ob, oo, none⟩) (srch n k).order.length oc, .slice (some ⟨ob, (oo + 1), none⟩) ((srch n k).order.length - 1) (oc - 1), .func (.func 196) #[] #[.pointer (some ⟨w5.heap.size + 1, 0, none⟩)], .int .i64 ((bk zs x).1 : Nat), .int .i64 (bk zs x).2, undef, undef, undef, undef, undef, undef, undef, undef, undef, undef, undef, undef, undef, undef, undef, undef, undef, undef, undef, undef, undef, undef, undef, undef, undef, undef, undef, undef, undef, undef, undef, undef, undef, undef, undef, undef, undef, undef, undef, undef, undef, u81, undef], defers := [] }) ?assign ?body ?done ?stop)
      case own =>
        intro s A B row hs hg hr
        have hk : Kept (fun b => w7.heap.size ≤ b) A B := (Kept.of_grown hg).mono (fun b _ e => (hr b e).1)
        exact ⟨hs.1.kept hk (by omega) (by omega) (by omega) (by omega) (by omega) (fun b hb => by omega), hs.2.kept hk (by omega) (by omega) (fun b _ _ => by omega) (fun D hD => by have := HDL.out D hD; have := k7.size; omega)⟩
      case assign =>
        intro l x W' K hK
        gi_wp2
        exact hK
      case stop =>
        rintro D c pre W' hD _ h _
        exact h.elim
      case done =>
        rintro D xs W' hD rfl ⟨hm, hs⟩ hDh
        rw [HZ2.out, bkall, ffW_all hb HSL.out HEV.out HSB.out hlt HRT.out] at hm
        have HM9 := hid hm
        have HS9 := hid hs
        have HD9 := hid hDh
        have hz9 := hs.z
        clear hm hs hDh
        go_wp2_with fail
        refine ⟨⟨k + 1, D :: ds, _, _, _, _, _, _, _, _, _, _, _, _, _, _, _, _, _, _, rfl, by omega, HM9.out, HS9.out.c, ?_, ?_, by omega⟩, ?_⟩
        · intro D' hD'
          rcases List.mem_cons.1 hD' with rfl | hD'
          · exact ⟨HD9.out, by omega⟩
          · exact ⟨HS9.out.d D' hD', (D6.out D' hD').2⟩
        · refine List.nodup_cons.2 ⟨fun hm => ?_, nd5⟩
          have := HDL.out D hm
          omega
        · simp [intOf]; omega
      case body =>
        rintro l pre x W' ⟨hm, hs⟩ hlen
        have hvz : (bk zs x).2 ∈ zs := bk_mem (by omega)
        have hvb : (bk zs x).2 ∈ backOf (srch n k) := by unfold backOf; rw [HZS.out]; exact List.mem_reverse.2 hvz
        obtain ⟨m, hml, hmv⟩ := List.getElem_of_mem hvb
        obtain ⟨xx, i, y, e1, _, hxn, e2, hi, e3, _, hyn, hyx⟩ := ff_node hb (by omega : k < n.nodes.length) hml
        have hxv : (bk zs x).2 = (xx : Int) := by rw [← hmv, e1]
        obtain ⟨st, hst⟩ : ∃ st, (pre.map (fun j => (bk zs j).2)).foldl (ffW n (srch n k)) (ffIter n S k) = st := ⟨_, rfl⟩
        have hl12 := ffW_fold_len n (srch n k) (pre.map (fun j => (bk zs j).2)) (ffIter n S k)
        have hl34 := ff_len (n := n) S HSL.out k
        rw [hst] at hm hl12
        have hl1 : st.1.length = n.pipes.length := hl12.1.trans hl34.1
        have hl2 : st.2.length = n.nodes.length := hl12.2.trans hl34.2
        have hnext := ffW_step (st := st) e2 hi e3
        have HG : Hid (ffW n (srch n k) st xx = ((pre ++ [x]).map (fun j => (bk zs j).2)).foldl (ffW n (srch n k)) (ffIter n S k)) := by
          rw [Hid, List.map_append, List.foldl_append, hst, List.map_singleton, List.foldl_cons, List.foldl_nil, hxv]
        rw [hnext] at HG
        obtain ⟨a, ha⟩ : ∃ a, st.2.getD xx 0 = a := ⟨_, rfl⟩
        obtain ⟨b, hbb⟩ : ∃ b, st.2.getD y 0 = b := ⟨_, rfl⟩
        rw [ha, hbb] at HG
        have ca := hm.lr xx (by omega)
        have cy := hm.lr y (by omega)
        have ci := hm.fr i (by omega)
        have ha2 : st.2[xx]'(by omega) = a := by rw [← ha]; simp [List.getD, hl2, hxn]
        have hb2 : st.2[y]'(by omega) = b := by rw [← hbb]; simp [List.getD, hl2, hyn]
        rw [ha2] at ca
        rw [hb2] at cy
        obtain ⟨o1, ho1⟩ : ∃ o1, st.1[i]'(by omega) = o1 := ⟨_, rfl⟩
        rw [ho1] at ci
        obtain ⟨ca1, ca2⟩ := ca
        obtain ⟨cy1, cy2⟩ := cy
        obtain ⟨ci1, ci2⟩ := ci
        replace ca2 := ca2 xx
        replace cy2 := cy2 y
        replace ci2 := ci2 i
        have hen := hs.s.en xx (by rw [HEL.out]; omega)
        have he4 : (srch n k).ent[xx]'(by rw [HEL.out]; omega) = i := by rw [← e2]; simp [List.getD, HEL.out, hxn]
        rw [he4] at hen
        have s2 := hs.s.s2
        obtain ⟨pb, po, hpa, hpl, hpc⟩ := (HP.out.below hm.bel).2.2.at' (by omega)
        subst hpa
        obtain ⟨p0, p1, p2, p3, p4⟩ := cellsP (hpc i hi)
        have hx1 := hm.x1
        have hfb := hm.fb
        have hlb := hm.lb
        have hoe : ∀ W : World, Calls Try.prog 95 #[.agg #[.int .i64 n.pipes[i].fr, .int .i64 n.pipes[i].to, .int .i64 n.pipes[i].k, .int .i64 n.pipes[i].vol, .int .i64 n.pipes[i].lim], .int .i64 xx] W fun e w' => e = .returned (.int .i64 y) ∧ w' = W.alloc (.cells #[.int .i64 n.pipes[i].fr, .int .i64 n.pipes[i].to, .int .i64 n.pipes[i].k, .int .i64 n.pipes[i].vol, .int .i64 n.pipes[i].lim] 73) := fun W => by
          have := otherEnd_alloc n.pipes[i] xx W
          rw [e3] at this
          exact this
        have HO := hid hoe
        have HNE := hid hyx
        have HMM := hid hm
        have HSS := hid hs
        have hmx : Try.prog.follows .mixedOrders = true := by kernel_rfl
        have hd : 1 ≤ 10 - 1 - 1 := by omega
        have hzz := hs.z
        have hxE : xx < (srch n k).ent.length := by rw [HEL.out]; exact hxn
        have hxEI : (xx : Int) < ((srch n k).ent.length : Int) := by omega
        have hxS : xx < S.length := by rw [HSL.out]; exact hxn
        have hxSI : (xx : Int) < (S.length : Int) := by omega
        have hyS : y < S.length := by rw [HSL.out]; exact hyn
        have hySI : (y : Int) < (S.length : Int) := by omega
        have hiI : (i : Int) < (n.pipes.length : Int) := by omega
        clear hoe hm hs hpc e1 e2 e3 hmv hst hl12 hl34 hnext ha hbb ha2 hb2 ho1 he4 hvz hvb
        rw [hxv]
        gi_wp2
        have b8 := below_new W' (.cells #[.int .i64 n.pipes[i].fr, .int .i64 n.pipes[i].to, .int .i64 n.pipes[i].k, .int .i64 n.pipes[i].vol, .int .i64 n.pipes[i].lim] 73)
        have X8 := Box.new W' #[.int .i64 n.pipes[i].fr, .int .i64 n.pipes[i].to, .int .i64 n.pipes[i].k, .int .i64 n.pipes[i].vol, .int .i64 n.pipes[i].lim] 73
        obtain ⟨W8, hW8⟩ : ∃ W8, W'.alloc (.cells #[.int .i64 n.pipes[i].fr, .int .i64 n.pipes[i].to, .int .i64 n.pipes[i].k, .int .i64 n.pipes[i].vol, .int .i64 n.pipes[i].lim] 73) = W8 := ⟨_, rfl⟩
        have hz8 : W8.heap.size = W'.heap.size + 1 := by rw [← hW8]; simp
        rw [hW8] at b8 X8 ⊢
        have HM8 := hid (HMM.out.below b8)
        have HS8 := hid (HSS.out.kept (X := fun _ => False) (Kept.of_below b8) (fun e => e) (fun e => e) (fun _ _ _ e => e) (fun _ _ e => e))
        obtain ⟨d0, d1, d2, d3, d4⟩ := X8.five
        have b8h := hid b8
        have hfb := (b8.cell (p := ⟨w.heap.size + 1 + 1, 0, none⟩) (by simp only; omega)).trans hfb
        have hlb := (b8.cell (p := ⟨w2.heap.size, 0, none⟩) (by simp only; omega)).trans hlb
        have ca1 := (b8.cell (p := ⟨g, xx, none⟩) (by simp only; omega)).trans ca1
        have cy1 := (b8.cell (p := ⟨g, y, none⟩) (by simp only; omega)).trans cy1
        have ci1 := (b8.cell (p := ⟨w.heap.size + 1, i, none⟩) (by simp only; omega)).trans ci1
        have ca2 := (b8.frozen (p := ⟨g, xx, none⟩) (by simp only; omega)).trans ca2
        have cy2 := (b8.frozen (p := ⟨g, y, none⟩) (by simp only; omega)).trans cy2
        have ci2 := (b8.frozen (p := ⟨w.heap.size + 1, i, none⟩) (by simp only; omega)).trans ci2
        clear hW8 X8 b8 s2 hen hx1 p0 p1 p2 p3 p4
        refine wpIn_region_held_drew (S := fun W => W.cell? ⟨w.heap.size + 1 + 1, 0, none⟩ = some (.slice (some ⟨w.heap.size + 1, 0, none⟩) n.pipes.length n.pipes.length) ∧ W.cell? ⟨w2.heap.size, 0, none⟩ = some (.slice (some ⟨g, 0, none⟩) S.length cap) ∧ W.cell? ⟨g, xx, none⟩ = some (.int .i64 a)) hmx (noDefer_at (by kernel_rfl)) (fun ⟨_, _, h⟩ => h) ?_ (fun hHeld => ?_)
        · exact ⟨hfb, hlb, ca1⟩
        refine wpAnyH_take (i := 0) (v := .slice (some ⟨w.heap.size + 1, 0, none⟩) n.pipes.length n.pipes.length) rfl (by kernel_rfl) (by kernel_rfl) (by kernel_rfl) (fun _ _ _ h => h) (Or.inl ⟨by rfl, ?_⟩) (by assumption) ?_
        · intro wq hSw
          try dsimp only at hSw
          go_simp
        try simp only [Act.put]
        refine wpAnyH_take (i := 1) (v := .int .i64 i) rfl (by kernel_rfl) (by kernel_rfl) (by kernel_rfl) (fun _ _ _ h => h) (Or.inl ⟨by rfl, ?_⟩) (by assumption) ?_
        · intro wq hSw
          try dsimp only at hSw
          go_simp
        try simp only [Act.put]
        refine wpAnyH_take (i := 2) (v := .slice (some ⟨g, 0, none⟩) S.length cap) rfl (by kernel_rfl) (by kernel_rfl) (by kernel_rfl) (fun _ _ _ h => h) (Or.inl ⟨by rfl, ?_⟩) (by assumption) ?_
        · intro wq hSw
          try dsimp only at hSw
          go_simp
        try simp only [Act.put]
        refine wpAnyH_take (i := 3) (v := .int .i64 xx) rfl (by kernel_rfl) (by kernel_rfl) (by kernel_rfl) (fun _ _ _ h => h) (Or.inl ⟨by rfl, ?_⟩) (by assumption) ?_
        · intro wq hSw
          try dsimp only at hSw
          go_simp
        try simp only [Act.put]
        refine wpAnyH_take (i := 4) (v := .pointer (some ⟨g, xx, none⟩)) rfl (by kernel_rfl) (by kernel_rfl) (by kernel_rfl) (fun _ _ _ h => h) (Or.inl ⟨by rfl, ?_⟩) (by assumption) ?_
        · intro wq hSw
          try dsimp only at hSw
          go_simp
        try simp only [Act.put]
        refine wpAnyH_take (i := 5) (v := .int .i64 a) rfl (by kernel_rfl) (by kernel_rfl) (by kernel_rfl) (fun _ _ _ h => h) (Or.inl ⟨by rfl, ?_⟩) (by assumption) ?_
        · intro wq hSw
          try dsimp only at hSw
          go_simp
        try simp only [Act.put]
        refine wpAnyH_take (i := 6) (v := .pointer (some ⟨w.heap.size + 1, i, none⟩)) rfl (by kernel_rfl) (by kernel_rfl) (by kernel_rfl) (fun _ _ _ h => h) (Or.inl ⟨by rfl, ?_⟩) (by assumption) ?_
        · intro wq hSw
          try dsimp only at hSw
          go_simp
        try simp only [Act.put]
        refine wpAnyH_ready (rs := [7]) (by kernel_rfl) (by simp) ?_
        refine AllReadyH.cons rfl (fun KK hK => ?_) AllReadyH.nil
        go_simp
        refine hK.out _ _ ?_ (fun hHeld => ?_)
        · exact ⟨(cell_far (Or.inl (by omega))).trans hfb, (cell_far (Or.inl (by omega))).trans hlb, (cell_far (Or.inl (by omega))).trans ca1⟩
        clear hK KK
        try simp only [Act.put]
        refine wpAnyH_done (by kernel_rfl) ?_ _
        have hne : y ≠ xx := by have := HNE.out; omega
        by_cases hto : n.pipes[i].to = (xx : Int)
        · have htoB : (n.pipes[i].to == (xx : Int)) = true := by simpa using hto
          have HTO := hid hto
          clear hto
          gi_wp2
          clear htoB
          have ci3 : (W8.setCell ⟨w.heap.size + 1, i, none⟩ (.int .i64 a)).cell? ⟨w.heap.size + 1, i, none⟩ = some (.int .i64 a) := cell_set_same ci1
          have ci4 : (W8.setCell ⟨w.heap.size + 1, i, none⟩ (.int .i64 a)).frozen? ⟨w.heap.size + 1, i, none⟩ = false := by rw [World.frozen?_setCell]; exact ci2
          refine wpIn_region_held_drew (S := fun W => W.cell? ⟨w.heap.size + 1 + 1, 0, none⟩ = some (.slice (some ⟨w.heap.size + 1, 0, none⟩) n.pipes.length n.pipes.length) ∧ W.cell? ⟨w2.heap.size, 0, none⟩ = some (.slice (some ⟨g, 0, none⟩) S.length cap) ∧ W.cell? ⟨g, xx, none⟩ = some (.int .i64 a)) hmx (noDefer_at (by kernel_rfl)) (fun ⟨_, _, h⟩ => h) ?_ (fun hHeld => ?_)
          · exact ⟨(cell_far (Or.inl (by omega))).trans hfb, (cell_far (Or.inl (by omega))).trans hlb, (cell_far (Or.inl (by omega))).trans ca1⟩
          refine wpAnyH_take (i := 0) (v := .slice (some ⟨w.heap.size + 1, 0, none⟩) n.pipes.length n.pipes.length) rfl (by kernel_rfl) (by kernel_rfl) (by kernel_rfl) (fun _ _ _ h => h) (Or.inl ⟨by rfl, ?_⟩) (by assumption) ?_
          · intro wq hSw
            try dsimp only at hSw
            go_simp
          try simp only [Act.put]
          refine wpAnyH_take (i := 1) (v := .int .i64 i) rfl (by kernel_rfl) (by kernel_rfl) (by kernel_rfl) (fun _ _ _ h => h) (Or.inl ⟨by rfl, ?_⟩) (by assumption) ?_
          · intro wq hSw
            try dsimp only at hSw
            go_simp
          try simp only [Act.put]
          refine wpAnyH_take (i := 2) (v := .slice (some ⟨g, 0, none⟩) S.length cap) rfl (by kernel_rfl) (by kernel_rfl) (by kernel_rfl) (fun _ _ _ h => h) (Or.inl ⟨by rfl, ?_⟩) (by assumption) ?_
          · intro wq hSw
            try dsimp only at hSw
            go_simp
          try simp only [Act.put]
          refine wpAnyH_take (i := 3) (v := .int .i64 xx) rfl (by kernel_rfl) (by kernel_rfl) (by kernel_rfl) (fun _ _ _ h => h) (Or.inl ⟨by rfl, ?_⟩) (by assumption) ?_
          · intro wq hSw
            try dsimp only at hSw
            go_simp
          try simp only [Act.put]
          refine wpAnyH_take (i := 4) (v := .pointer (some ⟨g, xx, none⟩)) rfl (by kernel_rfl) (by kernel_rfl) (by kernel_rfl) (fun _ _ _ h => h) (Or.inl ⟨by rfl, ?_⟩) (by assumption) ?_
          · intro wq hSw
            try dsimp only at hSw
            go_simp
          try simp only [Act.put]
          refine wpAnyH_take (i := 5) (v := .int .i64 a) rfl (by kernel_rfl) (by kernel_rfl) (by kernel_rfl) (fun _ _ _ h => h) (Or.inl ⟨by rfl, ?_⟩) (by assumption) ?_
          · intro wq hSw
            try dsimp only at hSw
            go_simp
          try simp only [Act.put]
          refine wpAnyH_take (i := 6) (v := .int .i64 (IntKind.i64.wrap (-a))) rfl (by kernel_rfl) (by kernel_rfl) (by kernel_rfl) (fun _ _ _ h => h) (Or.inl ⟨by rfl, ?_⟩) (by assumption) ?_
          · intro wq hSw
            try dsimp only at hSw
            go_simp
          try simp only [Act.put]
          refine wpAnyH_take (i := 7) (v := .pointer (some ⟨w.heap.size + 1, i, none⟩)) rfl (by kernel_rfl) (by kernel_rfl) (by kernel_rfl) (fun _ _ _ h => h) (Or.inl ⟨by rfl, ?_⟩) (by assumption) ?_
          · intro wq hSw
            try dsimp only at hSw
            go_simp
          try simp only [Act.put]
          refine wpAnyH_ready (rs := [8]) (by kernel_rfl) (by simp) ?_
          refine AllReadyH.cons rfl (fun KK hK => ?_) AllReadyH.nil
          go_simp
          refine hK.out _ _ ?_ (fun hHeld => ?_)
          · exact ⟨(cell_far (Or.inl (by omega))).trans ((cell_far (Or.inl (by omega))).trans hfb), (cell_far (Or.inl (by omega))).trans ((cell_far (Or.inl (by omega))).trans hlb), (cell_far (Or.inl (by omega))).trans ((cell_far (Or.inl (by omega))).trans ca1)⟩
          clear hK KK
          try simp only [Act.put]
          refine wpAnyH_done (by kernel_rfl) ?_ _
          gi_wp2
          have k9 : Kept (fun b => b = w.heap.size + 1) W8 (((W8.setCell ⟨w.heap.size + 1, i, none⟩ (.int .i64 a)).setCell ⟨w.heap.size + 1, i, none⟩ (.int .i64 (IntKind.i64.wrap (-a)))).drew.drew) := ((((Kept.refl (fun b => b = w.heap.size + 1) _).setCell (p := ⟨w.heap.size + 1, i, none⟩) rfl _).setCell (p := ⟨w.heap.size + 1, i, none⟩) rfl _).drew).drew
          have HM9 : Hid (FfMem n.pipes.length S.length (.slice a0 n.nodes.length k0) (.slice (some ⟨pb, po, none⟩) n.pipes.length k1) w (w.heap.size + 1 + 1) w2.heap.size (w.heap.size + 1) g cap (((W8.setCell ⟨w.heap.size + 1, i, none⟩ (.int .i64 a)).setCell ⟨w.heap.size + 1, i, none⟩ (.int .i64 (IntKind.i64.wrap (-a)))).drew.drew) (st.1.set i (if n.pipes[i].to = (xx : Int) then IntKind.i64.wrap (-a) else a), st.2)) := by rw [if_pos HTO.out]; have h := (HM8.out.setF ap i a).setF ap i (IntKind.i64.wrap (-a)); simp only [List.set_set] at h; exact (h.below (Below.refl _ _).drew).below (Below.refl _ _).drew
          obtain ⟨W9, hW9⟩ : ∃ W9, ((W8.setCell ⟨w.heap.size + 1, i, none⟩ (.int .i64 a)).setCell ⟨w.heap.size + 1, i, none⟩ (.int .i64 (IntKind.i64.wrap (-a)))).drew.drew = W9 := ⟨_, rfl⟩
          rw [hW9] at k9 HM9 ⊢
          clear hW9
          have HS9 := hid (HS8.out.kept k9 (by omega) (by omega) (fun b _ _ => by omega) (fun D hD => by have := (D6.out D hD).2; omega))
          have hz9 := k9.size
          have hlb := k9.cell hlb (by simp only; omega)
          have ca1 := k9.cell ca1 (by simp only; omega)
          have cy1 := k9.cell cy1 (by simp only; omega)
          have d0 := k9.cell d0 (by simp only; omega)
          have d1 := k9.cell d1 (by simp only; omega)
          have d2 := k9.cell d2 (by simp only; omega)
          have d3 := k9.cell d3 (by simp only; omega)
          have d4 := k9.cell d4 (by simp only; omega)
          have cy2 := (HM9.out.lr y (by simp only; omega)).2 y
          clear hfb ci1 ci2 ca2
          refine wpIn_region_held_drew (S := fun W => W.cell? ⟨w2.heap.size, 0, none⟩ = some (.slice (some ⟨g, 0, none⟩) S.length cap) ∧ W.cell? ⟨g, xx, none⟩ = some (.int .i64 a) ∧ W.cell? ⟨W'.heap.size, 0, none⟩ = some (.int .i64 n.pipes[i].fr) ∧ W.cell? ⟨W'.heap.size, 1, none⟩ = some (.int .i64 n.pipes[i].to) ∧ W.cell? ⟨W'.heap.size, 2, none⟩ = some (.int .i64 n.pipes[i].k) ∧ W.cell? ⟨W'.heap.size, 3, none⟩ = some (.int .i64 n.pipes[i].vol) ∧ W.cell? ⟨W'.heap.size, 4, none⟩ = some (.int .i64 n.pipes[i].lim)) hmx (noDefer_at (by kernel_rfl)) (fun ⟨_, _, h⟩ => h) ?_ (fun hHeld => ?_)
          · exact ⟨hlb, ca1, d0, d1, d2, d3, d4⟩
          refine wpAnyH_take (i := 0) (v := .slice (some ⟨g, 0, none⟩) S.length cap) rfl (by kernel_rfl) (by kernel_rfl) (by kernel_rfl) (fun _ _ _ h => h) (Or.inl ⟨by rfl, ?_⟩) (by assumption) ?_
          · intro wq hSw
            try dsimp only at hSw
            go_simp
          try simp only [Act.put]
          refine wpAnyH_take (i := 1) (v := .agg #[.int .i64 n.pipes[i].fr, .int .i64 n.pipes[i].to, .int .i64 n.pipes[i].k, .int .i64 n.pipes[i].vol, .int .i64 n.pipes[i].lim]) rfl (by kernel_rfl) (by kernel_rfl) (by kernel_rfl) (fun _ _ _ h => h) (Or.inl ⟨by rfl, ?_⟩) (by assumption) ?_
          · intro wq hSw
            try dsimp only at hSw
            go_simp
          try simp only [Act.put]
          refine wpAnyH_take (i := 2) (v := .int .i64 xx) rfl (by kernel_rfl) (by kernel_rfl) (by kernel_rfl) (fun _ _ _ h => h) (Or.inl ⟨by rfl, ?_⟩) (by assumption) ?_
          · intro wq hSw
            try dsimp only at hSw
            go_simp
          try simp only [Act.put]
          refine wpAnyH_take (i := 6) (v := .slice (some ⟨g, 0, none⟩) S.length cap) rfl (by kernel_rfl) (by kernel_rfl) (by kernel_rfl) (fun _ _ _ h => h) (Or.inl ⟨by rfl, ?_⟩) (by assumption) ?_
          · intro wq hSw
            try dsimp only at hSw
            go_simp
          try simp only [Act.put]
          refine wpAnyH_take (i := 7) (v := .int .i64 xx) rfl (by kernel_rfl) (by kernel_rfl) (by kernel_rfl) (fun _ _ _ h => h) (Or.inl ⟨by rfl, ?_⟩) (by assumption) ?_
          · intro wq hSw
            try dsimp only at hSw
            go_simp
          try simp only [Act.put]
          refine wpAnyH_take (i := 8) (v := .pointer (some ⟨g, xx, none⟩)) rfl (by kernel_rfl) (by kernel_rfl) (by kernel_rfl) (fun _ _ _ h => h) (Or.inl ⟨by rfl, ?_⟩) (by assumption) ?_
          · intro wq hSw
            try dsimp only at hSw
            go_simp
          try simp only [Act.put]
          refine wpAnyH_take (i := 9) (v := .int .i64 a) rfl (by kernel_rfl) (by kernel_rfl) (by kernel_rfl) (fun _ _ _ h => h) (Or.inl ⟨by rfl, ?_⟩) (by assumption) ?_
          · intro wq hSw
            try dsimp only at hSw
            go_simp
          try simp only [Act.put]
          refine wpAnyH_ready (rs := [3]) (by kernel_rfl) (by simp) ?_
          refine AllReadyH.cons rfl (fun KK hK => ?_) AllReadyH.nil
          go_simp
          refine (HO.out _).mono ?_
          rintro e w6 ⟨rfl, rfl⟩
          have bq := below_new W9 (.cells #[.int .i64 n.pipes[i].fr, .int .i64 n.pipes[i].to, .int .i64 n.pipes[i].k, .int .i64 n.pipes[i].vol, .int .i64 n.pipes[i].lim] 73)
          have hlbq := (bq.cell (p := ⟨w2.heap.size, 0, none⟩) (by simp only; omega)).trans hlb
          have caq := (bq.cell (p := ⟨g, xx, none⟩) (by simp only; omega)).trans ca1
          have cyq := (bq.cell (p := ⟨g, y, none⟩) (by simp only; omega)).trans cy1
          have dq0 := (bq.cell (p := ⟨W'.heap.size, 0, none⟩) (by simp only; omega)).trans d0
          have dq1 := (bq.cell (p := ⟨W'.heap.size, 1, none⟩) (by simp only; omega)).trans d1
          have dq2 := (bq.cell (p := ⟨W'.heap.size, 2, none⟩) (by simp only; omega)).trans d2
          have dq3 := (bq.cell (p := ⟨W'.heap.size, 3, none⟩) (by simp only; omega)).trans d3
          have dq4 := (bq.cell (p := ⟨W'.heap.size, 4, none⟩) (by simp only; omega)).trans d4
          have cyq2 := (bq.frozen (p := ⟨g, y, none⟩) (by simp only; omega)).trans cy2
          have HM10 := hid (HM9.out.below bq)
          have HS10 := hid (HS9.out.kept (X := fun _ => False) (Kept.of_below bq) (fun e => e) (fun e => e) (fun _ _ _ e => e) (fun _ _ e => e))
          have k10 : Kept (fun b => b = w.heap.size + 1 ∨ b = g) W' (W9.alloc (.cells #[.int .i64 n.pipes[i].fr, .int .i64 n.pipes[i].to, .int .i64 n.pipes[i].k, .int .i64 n.pipes[i].vol, .int .i64 n.pipes[i].lim] 73)) := ((Kept.of_below b8h.out).trans (k9.mono (fun b _ e => .inl e))).trans (Kept.of_below bq)
          refine hK.out _ _ ?_ (fun hHeld => ?_)
          · exact ⟨hlbq, caq, dq0, dq1, dq2, dq3, dq4⟩
          clear hK KK
          try simp only [Act.put]
          refine wpAnyH_take (i := 4) (v := .pointer (some ⟨g, y, none⟩)) rfl (by kernel_rfl) (by kernel_rfl) (by kernel_rfl) (fun _ _ _ h => h) (Or.inl ⟨by rfl, ?_⟩) (by assumption) ?_
          · intro wq hSw
            try dsimp only at hSw
            go_simp
          try simp only [Act.put]
          refine wpAnyH_ready (rs := [5]) (by kernel_rfl) (by simp) ?_
          refine AllReadyH.cons rfl (fun KK hK => ?_) AllReadyH.nil
          go_simp
          refine hK.out _ _ ?_ (fun hHeld => ?_)
          · exact hHeld
          clear hK KK
          try simp only [Act.put]
          refine wpAnyH_ready (rs := [10]) (by kernel_rfl) (by simp) ?_
          refine AllReadyH.cons rfl (fun KK hK => ?_) AllReadyH.nil
          go_simp
          refine hK.out _ _ ?_ (fun hHeld => ?_)
          · exact hHeld
          clear hK KK
          try simp only [Act.put]
          refine wpAnyH_ready (rs := [11]) (by kernel_rfl) (by simp) ?_
          refine AllReadyH.cons rfl (fun KK hK => ?_) AllReadyH.nil
          go_simp
          refine hK.out _ _ ?_ (fun hHeld => ?_)
          · exact hHeld
          clear hK KK
          try simp only [Act.put]
          refine wpAnyH_ready (rs := [12]) (by kernel_rfl) (by simp) ?_
          refine AllReadyH.cons rfl (fun KK hK => ?_) AllReadyH.nil
          go_simp
          refine hK.out _ _ ?_ (fun hHeld => ?_)
          · exact ⟨(cell_far (Or.inl (by omega))).trans hlbq, (cell_far (Or.inr (by omega))).trans caq, (cell_far (Or.inl (by omega))).trans dq0, (cell_far (Or.inl (by omega))).trans dq1, (cell_far (Or.inl (by omega))).trans dq2, (cell_far (Or.inl (by omega))).trans dq3, (cell_far (Or.inl (by omega))).trans dq4⟩
          clear hK KK
          try simp only [Act.put]
          refine wpAnyH_done (by kernel_rfl) ?_ _
          gi_wp2
          have kf : Kept (fun b => b = w.heap.size + 1 ∨ b = g) W' (((W9.alloc (.cells #[.int .i64 n.pipes[i].fr, .int .i64 n.pipes[i].to, .int .i64 n.pipes[i].k, .int .i64 n.pipes[i].vol, .int .i64 n.pipes[i].lim] 73)).setCell ⟨g, y, none⟩ (.int .i64 (IntKind.i64.wrap (b + a)))).drew) := (k10.setCell (p := ⟨g, y, none⟩) (.inr rfl) _).drew
          have hfin : FfMem n.pipes.length S.length (.slice a0 n.nodes.length k0) (.slice (some ⟨pb, po, none⟩) n.pipes.length k1) w (w.heap.size + 1 + 1) w2.heap.size (w.heap.size + 1) g cap (((W9.alloc (.cells #[.int .i64 n.pipes[i].fr, .int .i64 n.pipes[i].to, .int .i64 n.pipes[i].k, .int .i64 n.pipes[i].vol, .int .i64 n.pipes[i].lim] 73)).setCell ⟨g, y, none⟩ (.int .i64 (IntKind.i64.wrap (b + a)))).drew) (st.1.set i (if n.pipes[i].to = (xx : Int) then IntKind.i64.wrap (-a) else a), st.2.set y (IntKind.i64.wrap (b + a))) := (HM10.out.setL ap y (IntKind.i64.wrap (b + a))).below (Below.refl _ _).drew
          rw [HG.out] at hfin
          exact ⟨KeepsFrom.of_kept kf (fun q hq => by omega), ⟨kf.block _ (by omega) (by omega), kf.block _ (by omega) (by omega)⟩, hfin, HSS.out.kept kf (by omega) (by omega) (fun b _ _ => by omega) (fun D hD => by have := (D6.out D hD).2; omega)⟩
        · have htoB : (n.pipes[i].to == (xx : Int)) = false := by simpa using hto
          have HTO := hid hto
          clear hto
          gi_wp2
          clear htoB
          have k9 : Kept (fun b => b = w.heap.size + 1) W8 ((W8.setCell ⟨w.heap.size + 1, i, none⟩ (.int .i64 a)).drew) := ((Kept.refl (fun b => b = w.heap.size + 1) _).setCell (p := ⟨w.heap.size + 1, i, none⟩) rfl _).drew
          have HM9 : Hid (FfMem n.pipes.length S.length (.slice a0 n.nodes.length k0) (.slice (some ⟨pb, po, none⟩) n.pipes.length k1) w (w.heap.size + 1 + 1) w2.heap.size (w.heap.size + 1) g cap ((W8.setCell ⟨w.heap.size + 1, i, none⟩ (.int .i64 a)).drew) (st.1.set i (if n.pipes[i].to = (xx : Int) then IntKind.i64.wrap (-a) else a), st.2)) := by rw [if_neg HTO.out]; exact (HM8.out.setF ap i a).below (Below.refl _ _).drew
          obtain ⟨W9, hW9⟩ : ∃ W9, (W8.setCell ⟨w.heap.size + 1, i, none⟩ (.int .i64 a)).drew = W9 := ⟨_, rfl⟩
          rw [hW9] at k9 HM9 ⊢
          clear hW9
          have HS9 := hid (HS8.out.kept k9 (by omega) (by omega) (fun b _ _ => by omega) (fun D hD => by have := (D6.out D hD).2; omega))
          have hz9 := k9.size
          have hlb := k9.cell hlb (by simp only; omega)
          have ca1 := k9.cell ca1 (by simp only; omega)
          have cy1 := k9.cell cy1 (by simp only; omega)
          have d0 := k9.cell d0 (by simp only; omega)
          have d1 := k9.cell d1 (by simp only; omega)
          have d2 := k9.cell d2 (by simp only; omega)
          have d3 := k9.cell d3 (by simp only; omega)
          have d4 := k9.cell d4 (by simp only; omega)
          have cy2 := (HM9.out.lr y (by simp only; omega)).2 y
          clear hfb ci1 ci2 ca2
          refine wpIn_region_held_drew (S := fun W => W.cell? ⟨w2.heap.size, 0, none⟩ = some (.slice (some ⟨g, 0, none⟩) S.length cap) ∧ W.cell? ⟨g, xx, none⟩ = some (.int .i64 a) ∧ W.cell? ⟨W'.heap.size, 0, none⟩ = some (.int .i64 n.pipes[i].fr) ∧ W.cell? ⟨W'.heap.size, 1, none⟩ = some (.int .i64 n.pipes[i].to) ∧ W.cell? ⟨W'.heap.size, 2, none⟩ = some (.int .i64 n.pipes[i].k) ∧ W.cell? ⟨W'.heap.size, 3, none⟩ = some (.int .i64 n.pipes[i].vol) ∧ W.cell? ⟨W'.heap.size, 4, none⟩ = some (.int .i64 n.pipes[i].lim)) hmx (noDefer_at (by kernel_rfl)) (fun ⟨_, _, h⟩ => h) ?_ (fun hHeld => ?_)
          · exact ⟨hlb, ca1, d0, d1, d2, d3, d4⟩
          refine wpAnyH_take (i := 0) (v := .slice (some ⟨g, 0, none⟩) S.length cap) rfl (by kernel_rfl) (by kernel_rfl) (by kernel_rfl) (fun _ _ _ h => h) (Or.inl ⟨by rfl, ?_⟩) (by assumption) ?_
          · intro wq hSw
            try dsimp only at hSw
            go_simp
          try simp only [Act.put]
          refine wpAnyH_take (i := 1) (v := .agg #[.int .i64 n.pipes[i].fr, .int .i64 n.pipes[i].to, .int .i64 n.pipes[i].k, .int .i64 n.pipes[i].vol, .int .i64 n.pipes[i].lim]) rfl (by kernel_rfl) (by kernel_rfl) (by kernel_rfl) (fun _ _ _ h => h) (Or.inl ⟨by rfl, ?_⟩) (by assumption) ?_
          · intro wq hSw
            try dsimp only at hSw
            go_simp
          try simp only [Act.put]
          refine wpAnyH_take (i := 2) (v := .int .i64 xx) rfl (by kernel_rfl) (by kernel_rfl) (by kernel_rfl) (fun _ _ _ h => h) (Or.inl ⟨by rfl, ?_⟩) (by assumption) ?_
          · intro wq hSw
            try dsimp only at hSw
            go_simp
          try simp only [Act.put]
          refine wpAnyH_take (i := 6) (v := .slice (some ⟨g, 0, none⟩) S.length cap) rfl (by kernel_rfl) (by kernel_rfl) (by kernel_rfl) (fun _ _ _ h => h) (Or.inl ⟨by rfl, ?_⟩) (by assumption) ?_
          · intro wq hSw
            try dsimp only at hSw
            go_simp
          try simp only [Act.put]
          refine wpAnyH_take (i := 7) (v := .int .i64 xx) rfl (by kernel_rfl) (by kernel_rfl) (by kernel_rfl) (fun _ _ _ h => h) (Or.inl ⟨by rfl, ?_⟩) (by assumption) ?_
          · intro wq hSw
            try dsimp only at hSw
            go_simp
          try simp only [Act.put]
          refine wpAnyH_take (i := 8) (v := .pointer (some ⟨g, xx, none⟩)) rfl (by kernel_rfl) (by kernel_rfl) (by kernel_rfl) (fun _ _ _ h => h) (Or.inl ⟨by rfl, ?_⟩) (by assumption) ?_
          · intro wq hSw
            try dsimp only at hSw
            go_simp
          try simp only [Act.put]
          refine wpAnyH_take (i := 9) (v := .int .i64 a) rfl (by kernel_rfl) (by kernel_rfl) (by kernel_rfl) (fun _ _ _ h => h) (Or.inl ⟨by rfl, ?_⟩) (by assumption) ?_
          · intro wq hSw
            try dsimp only at hSw
            go_simp
          try simp only [Act.put]
          refine wpAnyH_ready (rs := [3]) (by kernel_rfl) (by simp) ?_
          refine AllReadyH.cons rfl (fun KK hK => ?_) AllReadyH.nil
          go_simp
          refine (HO.out _).mono ?_
          rintro e w6 ⟨rfl, rfl⟩
          have bq := below_new W9 (.cells #[.int .i64 n.pipes[i].fr, .int .i64 n.pipes[i].to, .int .i64 n.pipes[i].k, .int .i64 n.pipes[i].vol, .int .i64 n.pipes[i].lim] 73)
          have hlbq := (bq.cell (p := ⟨w2.heap.size, 0, none⟩) (by simp only; omega)).trans hlb
          have caq := (bq.cell (p := ⟨g, xx, none⟩) (by simp only; omega)).trans ca1
          have cyq := (bq.cell (p := ⟨g, y, none⟩) (by simp only; omega)).trans cy1
          have dq0 := (bq.cell (p := ⟨W'.heap.size, 0, none⟩) (by simp only; omega)).trans d0
          have dq1 := (bq.cell (p := ⟨W'.heap.size, 1, none⟩) (by simp only; omega)).trans d1
          have dq2 := (bq.cell (p := ⟨W'.heap.size, 2, none⟩) (by simp only; omega)).trans d2
          have dq3 := (bq.cell (p := ⟨W'.heap.size, 3, none⟩) (by simp only; omega)).trans d3
          have dq4 := (bq.cell (p := ⟨W'.heap.size, 4, none⟩) (by simp only; omega)).trans d4
          have cyq2 := (bq.frozen (p := ⟨g, y, none⟩) (by simp only; omega)).trans cy2
          have HM10 := hid (HM9.out.below bq)
          have HS10 := hid (HS9.out.kept (X := fun _ => False) (Kept.of_below bq) (fun e => e) (fun e => e) (fun _ _ _ e => e) (fun _ _ e => e))
          have k10 : Kept (fun b => b = w.heap.size + 1 ∨ b = g) W' (W9.alloc (.cells #[.int .i64 n.pipes[i].fr, .int .i64 n.pipes[i].to, .int .i64 n.pipes[i].k, .int .i64 n.pipes[i].vol, .int .i64 n.pipes[i].lim] 73)) := ((Kept.of_below b8h.out).trans (k9.mono (fun b _ e => .inl e))).trans (Kept.of_below bq)
          refine hK.out _ _ ?_ (fun hHeld => ?_)
          · exact ⟨hlbq, caq, dq0, dq1, dq2, dq3, dq4⟩
          clear hK KK
          try simp only [Act.put]
          refine wpAnyH_take (i := 4) (v := .pointer (some ⟨g, y, none⟩)) rfl (by kernel_rfl) (by kernel_rfl) (by kernel_rfl) (fun _ _ _ h => h) (Or.inl ⟨by rfl, ?_⟩) (by assumption) ?_
          · intro wq hSw
            try dsimp only at hSw
            go_simp
          try simp only [Act.put]
          refine wpAnyH_ready (rs := [5]) (by kernel_rfl) (by simp) ?_
          refine AllReadyH.cons rfl (fun KK hK => ?_) AllReadyH.nil
          go_simp
          refine hK.out _ _ ?_ (fun hHeld => ?_)
          · exact hHeld
          clear hK KK
          try simp only [Act.put]
          refine wpAnyH_ready (rs := [10]) (by kernel_rfl) (by simp) ?_
          refine AllReadyH.cons rfl (fun KK hK => ?_) AllReadyH.nil
          go_simp
          refine hK.out _ _ ?_ (fun hHeld => ?_)
          · exact hHeld
          clear hK KK
          try simp only [Act.put]
          refine wpAnyH_ready (rs := [11]) (by kernel_rfl) (by simp) ?_
          refine AllReadyH.cons rfl (fun KK hK => ?_) AllReadyH.nil
          go_simp
          refine hK.out _ _ ?_ (fun hHeld => ?_)
          · exact hHeld
          clear hK KK
          try simp only [Act.put]
          refine wpAnyH_ready (rs := [12]) (by kernel_rfl) (by simp) ?_
          refine AllReadyH.cons rfl (fun KK hK => ?_) AllReadyH.nil
          go_simp
          refine hK.out _ _ ?_ (fun hHeld => ?_)
          · exact ⟨(cell_far (Or.inl (by omega))).trans hlbq, (cell_far (Or.inr (by omega))).trans caq, (cell_far (Or.inl (by omega))).trans dq0, (cell_far (Or.inl (by omega))).trans dq1, (cell_far (Or.inl (by omega))).trans dq2, (cell_far (Or.inl (by omega))).trans dq3, (cell_far (Or.inl (by omega))).trans dq4⟩
          clear hK KK
          try simp only [Act.put]
          refine wpAnyH_done (by kernel_rfl) ?_ _
          gi_wp2
          have kf : Kept (fun b => b = w.heap.size + 1 ∨ b = g) W' (((W9.alloc (.cells #[.int .i64 n.pipes[i].fr, .int .i64 n.pipes[i].to, .int .i64 n.pipes[i].k, .int .i64 n.pipes[i].vol, .int .i64 n.pipes[i].lim] 73)).setCell ⟨g, y, none⟩ (.int .i64 (IntKind.i64.wrap (b + a)))).drew) := (k10.setCell (p := ⟨g, y, none⟩) (.inr rfl) _).drew
          have hfin : FfMem n.pipes.length S.length (.slice a0 n.nodes.length k0) (.slice (some ⟨pb, po, none⟩) n.pipes.length k1) w (w.heap.size + 1 + 1) w2.heap.size (w.heap.size + 1) g cap (((W9.alloc (.cells #[.int .i64 n.pipes[i].fr, .int .i64 n.pipes[i].to, .int .i64 n.pipes[i].k, .int .i64 n.pipes[i].vol, .int .i64 n.pipes[i].lim] 73)).setCell ⟨g, y, none⟩ (.int .i64 (IntKind.i64.wrap (b + a)))).drew) (st.1.set i (if n.pipes[i].to = (xx : Int) then IntKind.i64.wrap (-a) else a), st.2.set y (IntKind.i64.wrap (b + a))) := (HM10.out.setL ap y (IntKind.i64.wrap (b + a))).below (Below.refl _ _).drew
          rw [HG.out] at hfin
          exact ⟨KeepsFrom.of_kept kf (fun q hq => by omega), ⟨kf.block _ (by omega) (by omega), kf.block _ (by omega) (by omega)⟩, hfin, HSS.out.kept kf (by omega) (by omega) (fun b _ _ => by omega) (fun D hD => by have := (D6.out D hD).2; omega)⟩

end Go.Proofs.Ytdapdaadglaoiaa
