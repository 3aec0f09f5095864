/- l04Path, ShortestPath of the reference. -/
import Derived.Test.YtdapdaadglaoiaaPathB
import Derived.Deep.RegionHeld3
namespace Go.Proofs.Ytdapdaadglaoiaa
open Go.RowKit

/-- append([]int64{x}, list...). -/
theorem wpList_pre {ops : Array Oper} {rest : List Oper} {o : Oper} {a : Act} {Q : Exit → Act → World → Prop} {w : World} (hgd : o.guard = none) (s x : Operand)
    (ho : o.op = .call { callee := .builtin .append, args := #[s, x], argTypes := #[33, 33] })
    (B : Nat) (v : Value) (n : Int) (hs : a.eval s = v) (hown : OwnI 2 B w v [n]) (g cap : Nat) (zs : List Int) (hx : a.eval x = .slice (some ⟨g, 0, none⟩) zs.length cap)
    (hc : ∀ i (hi : i < zs.length), w.cell? ⟨g, i, none⟩ = some (.int .i64 zs[i])) (hlen : zs.length ≤ 1000000000000) (hB : B ≤ w.heap.size)
    (h : ∀ v' w', OwnI 2 B w' v' (n :: zs) → Kept (fun b => v.ownBlock = some b) w w' → wpList Try.prog ops Q rest (a.put o.dst v') w') : wpList Try.prog ops Q (o :: rest) a w := by
  obtain ⟨i0, hi, hz0, hz1, hz2⟩ := info_parts info64
  refine wpList_plain hgd fun K hK => ?_
  obtain ⟨v', w', hr, h2, h3, _⟩ := run_append_own (P := Try.prog) w B 33 o.type 2 i0 (.int .i64 0) 1 8 Try.underlying33 hi hz0 hz1 hz2 rfl (by decide) v 1 [.int .i64 n] hown ⟨g, 0, none⟩ zs.length cap (zs.map (Value.int .i64)) (by simp)
    (fun j u hj => by
      rw [List.getElem?_map] at hj
      rw [add_eq rfl]
      simp only [Nat.zero_add]
      rcases Nat.lt_or_ge j zs.length with hl | hl
      · rw [List.getElem?_eq_getElem hl] at hj
        simp at hj
        rw [hc j hl, hj]
      · rw [List.getElem?_eq_none hl] at hj
        simp at hj)
    (fun u hu => by
      obtain ⟨z, _, rfl⟩ := List.mem_map.1 hu
      rfl) (by unfold maxLen; omega) (by omega) hB
  unfold Oper.wp execOp
  simp only [ho, resolve, invoke, builtin, Sem.run_bind, Sem.run_pure, Result.andThen_ok, List.map_toArray, List.map_cons, List.map_nil, hs, hx, hr]
  refine hK _ _ (h v' w' ?_ (grown_kept h3))
  unfold OwnI
  rw [List.length_cons, List.map_cons, Nat.add_comm]
  exact h2

def PsRel2 (n : Net) (s : Sr) (T : List Int) (l : List Value) (w : World) (B : Nat) (ev : Value) (b p : Value) (wr : World) : Prop :=
  ∃ (x d g cap : Nat) (L : List Int), b = .int .i64 x ∧ p = .slice (some ⟨g, 0, none⟩) L.length cap ∧ (x : Int) ∈ s.order ∧ s.dist.getD x 0 = d ∧ L.reverse ++ pb n s d x = T ∧ OwnI 2 B wr (.slice (some ⟨g, 0, none⟩) L.length cap) L ∧ Box wr w.heap.size l ∧ Slc (fun c => w.heap.size ≤ c ∧ c < B) wr ev s.ent ∧ Below w.heap.size w wr ∧ B ≤ wr.heap.size

set_option maxHeartbeats 2000000 in
set_option maxRecDepth 100000 in
theorem l04Path_any (nv pv : Value) (n : Net) (a : Int) (x0 : Nat) (w : World) (h : NetAt w nv pv n) (hb : netB n = true) (va0 : 0 ≤ a) (va1 : a < n.nodes.length) (hxl : x0 < n.nodes.length) (hpos : 0 ≤ (srch n a).dist.getD x0 0) :
    Calls Try.prog 147 #[.agg #[nv, pv], .int .i64 a, .int .i64 x0] w fun e w' => ∃ r, e = .returned r ∧ Slc (fun b => w.heap.size ≤ b ∧ b < w'.heap.size) w' r (pathOf n a x0) ∧ Below w.heap.size w w' := by
  obtain ⟨a0, k0, rfl⟩ := h.1.shape
  obtain ⟨a1, k1, rfl⟩ := h.2.2.shape
  have HP := hid h
  have hnl := netB_t hb
  have hWb := below_new w (.cells #[.slice a0 n.nodes.length k0, .slice a1 n.pipes.length k1] 27)
  have hbx := Box.new w #[.slice a0 n.nodes.length k0, .slice a1 n.pipes.length k1] 27
  have hl04 := l04Search_any _ _ n a _ (h.below hWb) hb va0 va1
  have g := good_srch hb va0 va1
  have hpo : Hid (pathOf n a x0 = (pb n (srch n a) ((srch n a).dist.getD x0 0).toNat x0).reverse) := rfl
  obtain ⟨s, hs⟩ : ∃ s, s = srch n a := ⟨_, rfl⟩
  rw [← hs] at g hl04 hpo hpos
  clear h hs
  obtain ⟨D, hD⟩ : ∃ D : Nat, s.dist.getD x0 0 = D := ⟨(s.dist.getD x0 0).toNat, by omega⟩
  have hx0 : (x0 : Int) ∈ s.order := (g.mem x0 (by omega) (by omega)).1 (by rw [Int.toNat_natCast]; omega)
  have hpo2 : Hid (pathOf n a x0 = (pb n s D x0).reverse) := by
    have := hpo.out
    rw [hD, Int.toNat_natCast] at this
    exact this
  have hDb : D ≤ 24 := by
    have h1 := g.hi x0
    have h2 := g.le_nodes
    omega
  have HD0 := hid hD
  clear hpo hD hpos
  go_enter Try.func147, Try.ntmps147
  go_wp2_with fail
  refine hl04.mono ?_
  rintro e w1 ⟨ev, ov, rfl, se, so, b1⟩
  have B := hid (hWb.trans (b1.mono hWb.size))
  have HX := hid (hbx.below b1)
  have z1 := b1.size
  simp only [World.size_alloc] at z1
  have SE := hid (se.mono (Q := fun c => w.heap.size ≤ c ∧ c < w1.heap.size) (fun b _ h => ⟨by have := h.1; simp only [World.size_alloc] at this; omega, h.2⟩))
  obtain ⟨_, ea, ec, rfl, _⟩ := se
  obtain ⟨_, oa, oc, rfl, _⟩ := so
  clear hl04 hWb hbx b1
  go_wp2_with fail
  go_loopw [10, 9] (fun b p wr => PsRel2 n s (pb n s D x0) [.slice a0 n.nodes.length k0, .slice a1 n.pipes.length k1] w w1.heap.size (.slice ea s.ent.length ec) b p wr) (fun b _ _ => (s.dist.getD (intOf b).toNat 0).toNat)
  case atStart =>
    exact ⟨x0, D, w1.heap.size, 0, [], rfl, rfl, hx0, HD0.out, rfl, OwnI.made _ _ _ (Nat.le_refl _), HX.out.below (below_new _ _), SE.out.below (below_new _ _), B.out.alloc B.out.size _, by simp⟩
  case round =>
    clear HX SE B
    obtain ⟨x, d, gg, gc, L, rfl, rfl, hx, hd, hL, ho, bx, se, hbel, hBs⟩ := hrel
    have hLd : L.length + d = D := by
      have := congrArg List.length hL
      simp only [List.length_append, List.length_reverse, pb_len] at this
      exact this
    by_cases hxa : (x : Int) = a
    · have hd0 : d = 0 := by
        subst hxa
        have := g.d0
        rw [Int.toNat_natCast] at this
        omega
      subst hd0
      have hLe : L.reverse = pb n s D x0 := by simpa [pb] using hL
      have hpo3 : Hid (pathOf n a x0 = L) := by rw [hpo2.out, ← hLe, List.reverse_reverse]; rfl
      have hbt : ((x : Int) != a) = false := by simpa using hxa
      have HO := hid ho
      have HB := hid hbel
      clear hL hLe ho bx se hbel hxa
      go_wp2_with fail
      go_ret
      rw [hpo3.out]
      exact ⟨_, rfl, (HO.out.slc (by omega)).mono (fun c hc h => ⟨by have := h.1; omega, hc⟩), HB.out⟩
    · obtain ⟨i, y, e, hip, rfl, h1, h2, h3, h4, h5, h6⟩ := g.back hx hxa hd
      have hbt : ((x : Int) != a) = true := by simpa using hxa
      rw [h6] at hL
      have hL' : Hid (((i : Int) :: L).reverse ++ pb n s e y = pb n s D x0) := by rw [List.reverse_cons, List.append_assoc]; exact hL
      have lle := g.le
      have hrx := g.rng _ hx
      have hxe : x < s.ent.length := by omega
      have hei : s.ent[x] = i := by simpa [List.getD, hxe] using h1
      obtain ⟨eb, eo, rfl, he1, he2, _, hec⟩ := se.at (by omega)
      have q1 := hec x hxe
      rw [hei] at q1
      obtain ⟨c0, c1⟩ := bx.two
      have hbw := bx.1
      have hpp := netB_pipe hb (List.getElem_mem hip)
      have hoe : ∀ W : World, Below w.heap.size w W → Calls Try.prog 98 #[.agg #[.slice a0 n.nodes.length k0, .slice a1 n.pipes.length k1], .int .i64 i, .int .i64 x] W fun e w' => e = .returned (.int .i64 y) ∧ Below W.heap.size W w' := fun W hW => by
        have := l02Other_any _ _ n i x W (HP.out.below hW) hip (by omega) (by omega) (by omega) (by omega) (by omega) (by omega)
        rw [oth_sum h2, h3] at this
        exact this
      have HOE := hid hoe
      have hcc : ∀ j (hj : j < L.length), wr.cell? ⟨gg, j, none⟩ = some (.int .i64 L[j]) := by
        obtain ⟨q, qc, hq, hcs⟩ := ho.shape
        rcases hcs with hcs | ⟨g', hg', _, _, _, hcell⟩
        · intro j hj; simp [hcs] at hj
        · simp at hq
          rw [← hq.1] at hg'
          simp at hg'
          subst hg'
          exact hcell
      have hgl := (ho.lt gg rfl).2
      have HC := hid hcc
      have HO := hid ho
      have HX := hid bx
      have SE := hid se
      have HB := hid hbel
      have HD := hid hd
      have H5 := hid h5
      have hnlL : L.length ≤ 24 := by omega
      clear hL ho bx se hbel hxa hec hei h1 h2 h3 h6 hoe lle hd h5 hLd hcc hpp
      go_wp2_with (at_builtin; refine wpList_pre rfl (.tmp 26) (.tmp 27) rfl w1.heap.size (.slice (some ⟨wr.heap.size, 0, none⟩) 1 1) (i : Int) rfl ?c1 gg gc L rfl ?c2 ?c3 ?c4 ?_)
      case c1 => exact ⟨rfl, Or.inr ⟨wr.heap.size, 1, #[.int .i64 i], rfl, hBs, heap_at _ _ _ rfl, Nat.le_refl 1, by simp [maxLen], rfl, rfl⟩⟩
      case c2 => exact fun j hj => ((below_new wr _).cell (p := ⟨gg, j, none⟩) hgl).trans (HC.out j hj)
      case c3 => omega
      case c4 => simp; omega
      intro v1 w3 hv1 hk1
      have kk : Kept (fun c => wr.heap.size ≤ c) wr w3 := ((Kept.refl (fun c => wr.heap.size ≤ c) wr).alloc (.cells #[.int .i64 i] 2)).trans (hk1.mono (fun c _ h => by simp [Value.ownBlock] at h; omega))
      have kb : Below wr.heap.size wr w3 := kk.below (Nat.le_refl _) (fun c h => h)
      have HX3 := hid (HX.out.below kb)
      have SE3 := hid (SE.out.below kb)
      have HB3 := hid (HB.out.trans (kb.mono HB.out.size))
      have C0 := (kb.cell (p := ⟨w.heap.size, 0, none⟩) hbw).trans c0
      have C1 := (kb.cell (p := ⟨w.heap.size, 1, none⟩) hbw).trans c1
      have Q1 := (kb.cell (p := ⟨eb, eo + x, none⟩) he2).trans q1
      have Z3 := kb.size
      have HV := hid hv1
      have hln : ((i : Int) :: L).length = L.length + 1 := by simp
      obtain ⟨va, vc, hve, hsh⟩ := hv1.shape
      obtain ⟨vg, rfl, _⟩ := hsh.resolve_left (by simp)
      simp only [hln] at hve
      subst hve
      clear hv1 hk1 kk kb c0 c1 q1 HX SE HB HO HC
      go_wp2_with fail
      go_still_tail 6, (by kernel_rfl)
      change wpList _ _ _ _ _ (World.drew _)
      go_wp2_with (go_at_call 98; refine (HOE.out _ HB3.out.drew).mono ?_; rintro e w4 ⟨rfl, b4⟩; have b4 := below_undrew b4)
      have z4 := b4.size
      have HV4 := hid (HV.out.below b4)
      have HX4 := hid (HX3.out.below b4)
      have SE4 := hid (SE3.out.below b4)
      have HB4 := hid (HB3.out.trans (b4.mono HB3.out.size))
      clear b4
      go_roundw
      case rel => exact ⟨y, e, vg, vc, (i : Int) :: L, rfl, by rw [hln], h4, H5.out, hL'.out, by rw [hln]; exact HV4.out, HX4.out, SE4.out, HB4.out, by omega⟩
      case measure =>
        have h1 := HD.out
        have h2 := H5.out
        show (s.dist.getD ((y : Int)).toNat 0).toNat < (s.dist.getD ((x : Int)).toNat 0).toNat
        rw [Int.toNat_natCast, Int.toNat_natCast, h1, h2]
        omega

set_option maxHeartbeats 1000000 in
set_option maxRecDepth 100000 in
theorem spec_ShortestPath_any (nv pv : Value) (n : Net) (a b : Int) (w : World) (h : NetAt w nv pv n) :
    Calls Try.prog 80 #[.agg #[nv, pv], .int .i64 a, .int .i64 b] w (OutI w (spR n a b)) := by
  obtain ⟨a0, k0, rfl⟩ := h.1.shape
  obtain ⟨a1, k1, rfl⟩ := h.2.2.shape
  have hl1 := h.1.1
  have hWb := below_new w (.cells #[.slice a0 n.nodes.length k0, .slice a1 n.pipes.length k1] 27)
  have hbx := Box.new w #[.slice a0 n.nodes.length k0, .slice a1 n.pipes.length k1] 27
  have h := h.below hWb
  go_enter Try.func80, Try.ntmps80
  go_wp2_with fail
  refine (l02NodeCode_any _ _ n a _ h).mono ?_
  by_cases hc : codeNs n [a] = 0
  case neg =>
    have hr : Hid (spR n a b = ([], codeNs n [a])) := by
      cases hb : netB n <;> cases hx : inB a 0 ((n.nodes.length : Int) - 1) <;> simp [Hid, spR, codeNs, hb, hx] at hc ⊢
    obtain ⟨c, hcc⟩ : ∃ c, codeNs n [a] = c := ⟨_, rfl⟩
    rw [hcc] at hr hc ⊢
    have hc1 : (c == 0) = false := by simpa using hc
    have hc' : (c != 0) = true := by simpa using hc
    rintro e w1 ⟨rfl, b1⟩
    have B := hid (hWb.trans (b1.mono hWb.size))
    clear hcc
    go_wp2_with fail
    go_ret2
    rw [hr.out]
    exact ⟨_, rfl, Slc.nil _ _, B.out⟩
  obtain ⟨hb, va0, va1⟩ := codeNs_one hc
  have hnl := netB_t hb
  have hxa : inB a 0 ((n.nodes.length : Int) - 1) = true := inB_mk va0 (by omega)
  rw [hc]
  rintro e w1 ⟨rfl, b1⟩
  have B := hid (hWb.trans (b1.mono hWb.size))
  have hb1 := hbx.below b1
  have h := h.below b1
  obtain ⟨c0, c1⟩ := hb1.two
  have hz := hb1.1
  have HX0 := hid hb1
  have HN := hid h
  clear hWb b1 hbx hc h hb1
  cases hxb : inB b 0 ((n.nodes.length : Int) - 1)
  · have hr : Hid (spR n a b = ([], 2)) := by simp [Hid, spR, codeNs, hb, hxa, hxb]
    go_wp2_with (go_at_call 97; refine (l02Node_alloc _ _ n.nodes.length _ _ hl1 ⟨_, _, rfl⟩ ⟨_, _, _, rfl⟩).mono ?_; rintro e w2 ⟨rfl, rfl⟩)
    go_ret2
    rw [hr.out]
    exact ⟨_, rfl, Slc.nil _ _, below_al B.out⟩
  have hbr := inB_t hxb
  obtain ⟨x0, rfl⟩ : ∃ x0 : Nat, b = x0 := ⟨b.toNat, by omega⟩
  have hx0 : x0 < n.nodes.length := by omega
  have hc2 : codeNs n [a, x0] = 0 := by simp [codeNs, hb, hxa, hxb]
  have hr : Hid (spR n a x0 = if (srch n a).dist.getD x0 0 < 0 then ([], 4) else (pathOf n a x0, 0)) := by simp [Hid, spR, hc2]
  have hl04 : Hid (∀ W : World, Below w1.heap.size w1 W → _) := fun W hW => l04Distances_any _ _ n a W (HN.out.below hW) hb va0 va1
  have hl05 : Hid (∀ W : World, Below w1.heap.size w1 W → 0 ≤ (srch n a).dist.getD x0 0 → _) := fun W hW hp => l04Path_any _ _ n a x0 W (HN.out.below hW) hb va0 va1 hx0 hp
  have g := good_srch hb va0 va1
  have lld := g.ld
  obtain ⟨s, hs⟩ : ∃ s, s = srch n a := ⟨_, rfl⟩
  rw [← hs] at hr lld hl04 hl05
  clear g hs hc2
  go_wp2_with (first
    | (go_at_call 97; refine (l02Node_alloc _ _ n.nodes.length _ _ hl1 ⟨_, _, rfl⟩ ⟨_, _, _, rfl⟩).mono ?_; rintro e w2 ⟨rfl, rfl⟩)
    | fail)
  refine (hl04.out _ (below_new _ _)).mono ?_
  rintro e w3 ⟨r, rfl, sd, b3⟩
  have B2 := hid ((below_al B.out).trans (b3.mono (below_al B.out).size))
  have B3 := hid ((below_new w1 _).trans (b3.mono (by simp)))
  obtain ⟨d0, d1⟩ := (HX0.out.below B3.out).two
  have SD := hid sd
  obtain ⟨_, da, dc, rfl, _⟩ := sd
  obtain ⟨db, doff, rfl, hdb, hdbl, _, hdc⟩ := SD.out.at (by omega)
  have hxl : x0 < s.dist.length := by omega
  have q0 := hdc x0 hxl
  have hgd : s.dist.getD x0 0 = s.dist[x0] := by simp [List.getD, hxl]
  rw [hgd] at hr hl05
  clear b3 c0 c1 hdc hl04 hgd
  by_cases hneg : s.dist[x0] < 0
  · rw [if_pos hneg] at hr
    go_wp2_with fail
    go_ret2
    rw [hr.out]
    exact ⟨_, rfl, Slc.nil _ _, B2.out⟩
  rw [if_neg hneg] at hr
  have hpos : 0 ≤ s.dist[x0] := by omega
  go_wp2_with fail
  refine (hl05.out _ B3.out hpos).mono ?_
  rintro e w4 ⟨r, rfl, sp, b4⟩
  have B4 := hid (B2.out.trans (b4.mono B2.out.size))
  have z2 := B2.out.size
  have SP := hid sp
  obtain ⟨_, pa, pc, rfl, _⟩ := sp
  clear b4 d0 d1 q0 hl05
  go_wp2_with fail
  go_ret2
  rw [hr.out]
  exact ⟨_, rfl, SP.out.mono (fun b _ hb => ⟨by omega, hb.2⟩), B4.out⟩

end Go.Proofs.Ytdapdaadglaoiaa
