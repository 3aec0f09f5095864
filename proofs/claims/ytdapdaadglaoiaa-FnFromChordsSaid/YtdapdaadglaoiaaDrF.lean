/- l05DrawLoops, l05DrawChord: a network with loops and a chord of it. DrawFromChords: a network and amounts for its chords. -/
import Derived.Test.YtdapdaadglaoiaaDrI
import Derived.Test.YtdapdaadglaoiaaChOf
namespace Go.Proofs.Ytdapdaadglaoiaa
open Go.RowKit

def LoRel (w : World) (s BN : Nat) (nv pv : Value) (n : Net) (i v : Value) (wr : World) : Prop :=
  ∃ (k : Nat) (ps : List Pp), i = .int .i64 k ∧ k ≤ 2 ∧ Drn (w.heap.size + 1) wr nv v ⟨n.nodes, ps⟩ ∧ (∀ b, v.ownBlock = some b → BN < b) ∧ ps.length + k ≤ 11 ∧ Src 126 wr s ∧ Kept (· = s) w wr ∧ Blk wr w.heap.size #[.slice none 0 0, .slice none 0 0] 27 ∧ Blk wr BN #[nv, pv] 27

set_option maxHeartbeats 1000000 in
set_option maxRecDepth 100000 in
theorem l05DrawLoops_any (s : Nat) (w : World) (h : Src 126 w s) :
    Calls Try.prog 168 #[.pointer (some ⟨s, 0, none⟩)] w fun e w' =>
      ∃ nv pv n, e = .returned (.agg #[nv, pv]) ∧ Drn (w.heap.size + 1) w' nv pv n ∧ 1 ≤ n.nodes.length ∧ n.nodes.length ≤ 7 ∧ n.pipes.length ≤ 11 ∧ Src 126 w' s ∧ Kept (· = s) w w' := by
  have hlt := h.lt
  have hW0 := (Kept.refl (· = s) w).alloc (.cells #[.slice none 0 0, .slice none 0 0] 27)
  have hbx := Blk.new w #[.slice none 0 0, .slice none 0 0] 27
  have h := h.alloc (.cells #[.slice none 0 0, .slice none 0 0] 27)
  go_enter Try.func168, Try.ntmps168
  go_wp2_with fail
  refine (l02Draw_any s _ h).mono ?_
  rintro e w1 ⟨nv, pv, n, rfl, hd, hn1, hn7, hp9, hs1, hk1⟩
  have hd := hd.lower (B' := w.heap.size + 1) (by simp)
  have zz1 := (hbx.kept hk1 (by omega)).lt
  obtain ⟨an, cn, rfl, _, _⟩ := hd.hn.shape lenN
  obtain ⟨ap, cp, rfl, _, _⟩ := hd.hp.shape lenP
  have HD1 := hid (hd.below (below_new w1 (.cells #[.slice an n.nodes.length cn, .slice ap n.pipes.length cp] 27)))
  have HNL := hid (fun b hb => (hd.hn.lt b hb).2)
  have HK1 := hid ((hW0.trans hk1).alloc (.cells #[.slice an n.nodes.length cn, .slice ap n.pipes.length cp] 27))
  have HX1 := hid ((hbx.kept hk1 (by omega)).below (below_new w1 (.cells #[.slice an n.nodes.length cn, .slice ap n.pipes.length cp] 27)))
  have HN1 := hid (Blk.new w1 #[.slice an n.nodes.length cn, .slice ap n.pipes.length cp] 27)
  have HS1 := hid (hs1.alloc (.cells #[.slice an n.nodes.length cn, .slice ap n.pipes.length cp] 27))
  have HR1 := hid (HD1.out.apart (by omega) (by omega)).1.at.2.2
  have hlN : (n.nodes.length : Int) ≤ 7 := by omega
  have hlN1 : 1 ≤ (n.nodes.length : Int) := by omega
  clear hW0 hbx hk1 h hd hs1
  have c0 := HN1.out.cell 0 (by simp)
  have c1 := HN1.out.cell 1 (by simp)
  simp only [List.getElem_toArray, List.getElem_cons_zero, List.getElem_cons_succ] at c0 c1
  obtain ⟨WA, hWA⟩ : ∃ WA, w1.alloc (.cells #[.slice an n.nodes.length cn, .slice ap n.pipes.length cp] 27) = WA := ⟨_, rfl⟩
  have HZ : Hid (WA.heap.size = w1.heap.size + 1) := by rw [Hid, ← hWA]; simp
  rw [hWA] at HD1 HK1 HX1 HN1 HS1 HR1 c0 c1
  have zza : w1.heap.size < WA.heap.size := by have := HZ.out; omega
  go_wp2_with (at_builtin; refine wpList_appP rfl (.tmp 13) (.tmp 15) rfl WA.heap.size (.slice (some ⟨WA.heap.size, 0, none⟩) 0 0) _ [] n.pipes rfl rfl (OwnR.made _ _ _ _ _ (Nat.le_refl _)) (HR1.out.below (below_new _ _)) ?c1 ?c2 ?_)
  case c1 => simp; omega
  case c2 => simp
  intro v3 w3 h3 k3 b3
  have bW := below_new WA (.cells #[] 73)
  have hlo := h3.lt
  have hz := HZ.out
  have hnl := HNL.out
  have HD3 : Hid (Drn (w.heap.size + 1) w3 (.slice an n.nodes.length cn) v3 ⟨n.nodes, n.pipes⟩) := ⟨(HD1.out.hn.below bW).kept k3 (fun b hb hb' => by have := hnl b hb; simp [Value.ownBlock] at hb'; omega), h3.lower (by omega), fun b hb hb' => by have := hnl b hb; have := (hlo b hb').1; omega, HD1.out.ok⟩
  have HV3 : Hid (∀ b, v3.ownBlock = some b → w1.heap.size < b) := fun b hb => by have := (hlo b hb).1; omega
  have HS3 := hid ((HS1.out.alloc (.cells #[] 73)).kept k3 (fun j hj => by simp [Value.ownBlock] at hj; omega))
  have HK3 := hid ((HK1.out.alloc (.cells #[] 73)).trans' k3 (fun j hj => Or.inr (by simp [Value.ownBlock] at hj; omega)))
  have HX3 := hid ((HX1.out.below bW).kept k3 (fun hj => by simp [Value.ownBlock] at hj; omega))
  have HN3 := hid ((HN1.out.below bW).kept k3 (fun hj => by simp [Value.ownBlock] at hj; omega))
  clear zza HD1 HK1 HX1 HN1 HS1 HR1 c0 c1 h3 k3 b3 bW hlo hz hnl hWA HZ
  obtain ⟨BN, hBN⟩ : ∃ BN, BN = w1.heap.size := ⟨_, rfl⟩
  rw [← hBN] at HV3 HN3 zz1 HNL ⊢
  clear hBN
  go_wp2_with fail
  refine (l01Next_any s 3 _ (by omega) (by omega) HS3.out).mono ?_
  rintro e w4 ⟨t, rfl, t0, t1, hs4, hk4⟩
  obtain ⟨T, rfl⟩ : ∃ T : Nat, t = T := ⟨t.toNat, by omega⟩
  have HD4 := hid (HD3.out.kept hk4 (fun b hb => by omega))
  have HK4 := hid (HK3.out.trans hk4)
  have HX4 := hid (HX3.out.kept hk4 (by omega))
  have HN4 := hid (HN3.out.kept hk4 (by omega))
  have HS4 := hid hs4
  clear HD3 HK3 HX3 HN3 HS3 hk4 hs4
  go_wp2_with fail
  go_loopw [6, 5] (fun i v wr => LoRel w s BN (.slice an n.nodes.length cn) (.slice ap n.pipes.length cp) n i v wr) (fun i _ _ => (intOf i).toNat)
  case atStart => exact ⟨T, n.pipes, rfl, by omega, HD4.out, HV3.out, by omega, HS4.out, HK4.out, HX4.out, HN4.out⟩
  case round =>
    clear HD4 HK4 HX4 HN4 HS4 t0 t1 HV3
    obtain ⟨j, ps, rfl, hj, hd, hv, hp2, hs, hkk, hx, hbn⟩ := hrel
    have hw2 : w.heap.size < wr.heap.size := hx.lt
    have HD := hid hd
    have HK := hid hkk
    have HX := hid hx
    have HV := hid hv
    have HN := hid hbn
    have c0 := HX.out.cell 0 (by simp)
    have c1 := HX.out.cell 1 (by simp)
    have f0 := HX.out.frozen 0
    have f1 := HX.out.frozen 1
    have e0 := HN.out.cell 0 (by simp)
    have e1 := HN.out.cell 1 (by simp)
    clear hd hkk hx hv hbn
    obtain ⟨aq, cq, hpe, _⟩ := HD.out.hp.shape lenP
    by_cases hj0 : 0 < j
    case neg =>
      obtain rfl : j = 0 := by omega
      have hj0 : ¬ (0 < ((0 : Nat) : Int)) := by omega
      subst hpe
      go_wp2_with fail
      obtain ⟨W, hW, ⟨e0, e1⟩, hd5, hs5, hk5⟩ := net_end HX.out HK.out hs hlt HD.out
      rw [hW]
      exact bodyPost_ret (v := .agg #[.slice an n.nodes.length cn, .slice aq ps.length cq]) (by simp [results, Try.results168, go_sem, e0, e1]) rfl ⟨_, _, rfl, _, hd5, by simp only; omega, by simp only; omega, by simp only; omega, hs5, hk5⟩
    have hj0' : 0 < (j : Int) := by omega
    by_cases hC0 : ¬ (1 < n.nodes.length)
    · have hc : ¬ (1 < (n.nodes.length : Int)) := by omega
      subst hpe
      go_wp2_with fail
      obtain ⟨W, hW, ⟨e0, e1⟩, hd5, hs5, hk5⟩ := net_end HX.out HK.out hs hlt HD.out
      rw [hW]
      exact bodyPost_ret (v := .agg #[.slice an n.nodes.length cn, .slice aq ps.length cq]) (by simp [results, Try.results168, go_sem, e0, e1]) rfl ⟨_, _, rfl, _, hd5, by simp only; omega, by simp only; omega, by simp only; omega, hs5, hk5⟩
    have hc : 1 < (n.nodes.length : Int) := by omega
    clear hC0 c0 c1 f0 f1 e0 e1 hpe
    go_wp2_with fail
    refine (l01Next_any s n.nodes.length _ (by omega) (by omega) hs).mono ?_
    rintro e w5 ⟨a, rfl, a0, a1, hs5, hk5⟩
    have HD5 := hid (HD.out.kept hk5 (fun b hb => by omega))
    have HK5 := hid (HK.out.trans hk5)
    have HX5 := hid (HX.out.kept hk5 (by omega))
    have HN5 := hid (HN.out.kept hk5 (by omega))
    clear HD HK HX HN hk5
    go_wp2_with fail
    refine (l01Next_gen s ((n.nodes.length : Int) - 1) _ (by omega) hs5).mono ?_
    rintro e w6 ⟨b, rfl, b0, b1, hs6, hk6⟩
    have HD6 := hid (HD5.out.kept hk6 (fun b hb => by omega))
    have HK6 := hid (HK5.out.trans hk6)
    have HX6 := hid (HX5.out.kept hk6 (by omega))
    have HN6 := hid (HN5.out.kept hk6 (by omega))
    clear HD5 HK5 HX5 HN5 hk6
    go_wp2_with fail
    refine (l02DrawPipe_any s a _ _ hs6).mono ?_
    rintro e w7 ⟨p, rfl, hs7, hk7⟩
    have HD7 := hid (HD6.out.kept hk7 (fun b hb => by omega))
    have HK7 := hid (HK6.out.trans hk7)
    have HX7 := hid (HX6.out.kept hk7 (by omega))
    have HN7 := hid (HN6.out.kept hk7 (by omega))
    have z7 := HX7.out.lt
    have zn7 := HN7.out.lt
    clear HD6 HK6 HX6 HN6 hk7
    go_wp2_with (at_builtin; refine wpList_appP rfl (.tmp 30) (.tmp 43) rfl (w.heap.size + 1) u5 (.slice (some ⟨w7.heap.size, 0, none⟩) 1 1) ps [p] rfl rfl ?c1 ?c2 ?c3 ?c4 ?_)
    case c1 => exact HD7.out.hp.below (below_new _ _)
    case c2 => exact rows_one (Blk.new w7 (encP p).toArray 73)
    case c3 => simp; omega
    case c4 => simp; omega
    intro v8 w8 h8 k8 b8
    have hlo := HD7.out.hp.lt
    have hvv := HV.out
    have HD8 := hid (HD7.out.addP h8 k8 b8)
    have hs8 := (hs7.alloc (.cells (encP p).toArray 73)).kept k8 (fun j hj => by have := (hlo j hj).1; omega)
    have HK8 := hid ((HK7.out.alloc (.cells (encP p).toArray 73)).trans' k8 (fun j hj => Or.inr (by have := (hlo j hj).1; omega)))
    have HX8 := hid ((HX7.out.below (below_new _ (.cells (encP p).toArray 73))).kept k8 (fun hj => by have := (hlo _ hj).1; omega))
    have HN8 := hid ((HN7.out.below (below_new _ (.cells (encP p).toArray 73))).kept k8 (fun hj => by have := hvv _ hj; omega))
    have HV8 : Hid (∀ b, v8.ownBlock = some b → BN < b) := fun b hb => by
      rcases b8 with e | e
      · exact hvv b (by rw [← e]; exact hb)
      · rw [e] at hb; simp at hb; omega
    clear HD7 HK7 HX7 HN7 HV h8 k8 b8 hlo hvv
    go_wp2_with fail
    go_roundw
    case rel => exact ⟨j - 1, _, by go_num, by omega, HD8.out, HV8.out, by simp; omega, hs8, HK8.out, HX8.out, HN8.out⟩
    case measure => simp [intOf]; omega

-- chord

/-- What l05DrawChord hands back: a network in blocks of its own. -/
structure Dch (w W : World) (s : Nat) (nv pv : Value) (n : Net) : Prop where
  ap : NetApart (w.heap.size + 1) W.heap.size W nv pv n
  c1 : CapOk nv
  c2 : CapOk pv
  l1 : n.nodes.length ≤ 7
  l2 : n.pipes.length ≤ 11
  src : Src 126 W s
  kp : Kept (· = s) w W
theorem Dnet.dch {w W : World} {s : Nat} {nv pv : Value} {n : Net} (h : Dnet w W s nv pv n) : Dch w W s nv pv n := ⟨h.ap, h.c1, h.c2, h.l1, by have := h.l2; omega, h.src, h.kp⟩
theorem Dch.step {w W W' : World} {s : Nat} {nv pv : Value} {n : Net} (h : Dch w W s nv pv n) (hlt : s < w.heap.size) (hk : Kept (· = s) W W') (hs : Src 126 W' s) : Dch w W' s nv pv n :=
  ⟨(h.ap.kept hk (fun b h1 _ e => by omega)).widen (Nat.le_refl _) hk.size, h.c1, h.c2, h.l1, h.l2, hs, h.kp.trans hk⟩
theorem Dch.below {w W W' : World} {s : Nat} {nv pv : Value} {n : Net} (h : Dch w W s nv pv n) (hb : Below W.heap.size W W') : Dch w W' s nv pv n :=
  ⟨(h.ap.below hb).widen (Nat.le_refl _) hb.size, h.c1, h.c2, h.l1, h.l2, h.src.kept (Kept.of_below (X := fun _ => False) hb) (fun _ e => e.elim), h.kp.trans (Kept.of_below hb)⟩
theorem dch_end {w W : World} {s : Nat} {nv pv : Value} {n : Net} (hb : Blk W w.heap.size #[.slice none 0 0, .slice none 0 0] 27) (hlt : s < w.heap.size) (hd : Dch w W s nv pv n) :
    ∃ W2, ((W.setCell ⟨w.heap.size, 0, none⟩ nv).setCell ⟨w.heap.size, 1, none⟩ pv) = W2 ∧ (W2.cell? ⟨w.heap.size, 0, none⟩ = some nv ∧ W2.cell? ⟨w.heap.size, 1, none⟩ = some pv) ∧ Dch w W2 s nv pv n := by
  have hb5 := (hb.set 0 nv).set 1 pv
  have e0 := hb5.cell 0 (by simp)
  have e1 := hb5.cell 1 (by simp)
  simp at e0 e1
  have hk2 := ((Kept.refl (· = w.heap.size) W).setCell (p := ⟨w.heap.size, 0, none⟩) rfl nv).setCell (p := ⟨w.heap.size, 1, none⟩) rfl pv
  exact ⟨_, rfl, ⟨e0, e1⟩, by simpa using hd.ap.kept hk2 (fun b hb hb' => by omega), hd.c1, hd.c2, hd.l1, hd.l2, hd.src.kept hk2 (fun k h => by omega), (hd.kp.setNew (p := ⟨w.heap.size, 0, none⟩) (Nat.le_refl _) _).setNew (p := ⟨w.heap.size, 1, none⟩) (Nat.le_refl _) _⟩

set_option maxHeartbeats 2000000 in
set_option maxRecDepth 100000 in
theorem l05DrawChord_any (s : Nat) (w : World) (h : Src 126 w s) :
    Calls Try.prog 131 #[.pointer (some ⟨s, 0, none⟩)] w fun e w' =>
      ∃ nv pv n, ∃ r : Int, e = .returned (.tuple #[.agg #[nv, pv], .int .i64 r]) ∧ Dch w w' s nv pv n := by
  have hlt := h.lt
  have hW0 := (Kept.refl (· = s) w).alloc (.cells #[.slice none 0 0, .slice none 0 0] 27)
  have hbx := Blk.new w #[.slice none 0 0, .slice none 0 0] 27
  have h := h.alloc (.cells #[.slice none 0 0, .slice none 0 0] 27)
  go_enter Try.func131, Try.ntmps131
  go_wp2_with fail
  refine (l05DrawLoops_any s _ h).mono ?_
  rintro e w1 ⟨nv, pv, n, rfl, hd, hn1, hn7, hp9, hs1, hk1⟩
  have hd := hd.lower (B' := w.heap.size + 1) (by simp)
  have zz1 := (hbx.kept hk1 (by omega)).lt
  obtain ⟨an, cn, rfl, _, _⟩ := hd.hn.shape lenN
  obtain ⟨ap, cp, rfl, _, _⟩ := hd.hp.shape lenP
  obtain ⟨ha, hc1, hc2⟩ := hd.apart (by omega) (by omega)
  have bW := below_new w1 (.cells #[.slice an n.nodes.length cn, .slice ap n.pipes.length cp] 27)
  have HD1 := hid (Dch.below ⟨ha, hc1, hc2, hn7, hp9, hs1, hW0.trans hk1⟩ bW)
  have HX1 := hid ((hbx.kept hk1 (by omega)).below bW)
  have HN1 := hid (Blk.new w1 #[.slice an n.nodes.length cn, .slice ap n.pipes.length cp] 27)
  have hs1 := HD1.out.src
  clear hW0 hbx hk1 h hd ha hc1 hc2 bW
  go_wp2_with fail
  refine (l01Next_any s 12 _ (by omega) (by omega) hs1).mono ?_
  rintro e w2 ⟨t, rfl, t0, t1, hs2, hk2⟩
  have HD2 := hid (HD1.out.step hlt hk2 hs2)
  obtain ⟨BN, hBN⟩ : ∃ BN, BN = w1.heap.size := ⟨_, rfl⟩
  rw [← hBN] at HN1 zz1 ⊢
  clear hBN
  have HX2 := hid (HX1.out.kept hk2 (by omega))
  have HN2 := hid (HN1.out.kept hk2 (by omega))
  clear HD1 HX1 HN1 hk2 hs1
  by_cases ht : t = 0
  · subst ht
    go_wp2_with fail
    refine (l02DrawAny_any _ _ hs2).mono ?_
    rintro e w3 ⟨nv3, pv3, n3, rfl, hd3⟩
    obtain ⟨an3, cn3, rfl⟩ := hd3.ap.at.1.shape
    obtain ⟨ap3, cp3, rfl⟩ := hd3.ap.at.2.2.shape
    have HXa := HX2.out.kept hd3.kp (by omega)
    have HNa := HN2.out.kept hd3.kp (by omega)
    have c0 := HNa.cell 0 (by simp)
    have c1 := HNa.cell 1 (by simp)
    have f0 := HNa.frozen 0
    have f1 := HNa.frozen 1
    have zn2 := HN2.out.lt
    have hkb := ((Kept.refl (· = BN) w3).setCell (p := ⟨BN, 0, none⟩) rfl (.slice an3 n3.nodes.length cn3)).setCell (p := ⟨BN, 1, none⟩) rfl (.slice ap3 n3.pipes.length cp3)
    have HX3 := hid (HXa.kept hkb (by omega))
    have HN3 := hid (show Blk _ BN #[.slice an3 n3.nodes.length cn3, .slice ap3 n3.pipes.length cp3] 27 from by simpa using (HNa.set 0 (.slice an3 n3.nodes.length cn3)).set 1 (.slice ap3 n3.pipes.length cp3))
    have hz3 := hkb.size
    have HD3 : Hid (Dch w _ s (.slice an3 n3.nodes.length cn3) (.slice ap3 n3.pipes.length cp3) n3) := ⟨((hd3.ap.kept hkb (fun b h1 _ e => by omega)).widen (by omega) hz3), hd3.c1, hd3.c2, hd3.l1, by have := hd3.l2; omega, hd3.src.kept hkb (fun k h => by omega), (HD2.out.kp.trans hd3.kp).trans' hkb (fun j hj => Or.inr (by omega))⟩
    have d0 := HN3.out.cell 0 (by simp)
    have d1 := HN3.out.cell 1 (by simp)
    clear HD2 HX2 HN2 HXa HNa hkb hd3 hz3
    go_wp2_with fail
    clear c0 c1 f0 f1 d0 d1
    have hl1 := HD3.out.l1
    have hsW := HD3.out.src.lt
    have hsX := HX3.out.lt
    have hl2 := HD3.out.l2
    refine (spec_ChordsOf_any _ _ n3 _ HD3.out.ap.at).mono ?_
    have hCl := cdR_len n3
    obtain ⟨⟨L, c⟩, hp⟩ : ∃ p, cdR n3 = p := ⟨_, rfl⟩
    rw [hp] at hCl ⊢
    rintro e w5 ⟨r5, rfl, o5, b5⟩
    simp only at o5 hCl
    have HD5 := hid (HD3.out.below b5)
    have HX5 := hid (HX3.out.below b5)
    have HN5 := hid (HN3.out.below b5)
    obtain ⟨_, ra, rc, hr5, _⟩ := id o5
    subst hr5
    have HO5 := hid o5
    clear HD3 HX3 HN3 hp b5 o5
    by_cases hL0 : L.length = 0
    · have hb0 : ((L.length : Int) == 0) = true := by simp [hL0]
      have HD6 := HD5
      have HX6 := HX5
      have HN6 := HN5
      clear HD5 HX5 HN5 hL0
      go_wp2_with fail
      have c0 := HN6.out.cell 0 (by simp)
      have c1 := HN6.out.cell 1 (by simp)
      have q0 := HX6.out.cell 0 (by simp)
      have q1 := HX6.out.cell 1 (by simp)
      have g0 := HX6.out.frozen 0
      have g1 := HX6.out.frozen 1
      have zx := HX6.out.lt
      have HS6 := hid HD6.out.src
      have KP : Hid (∀ W, Kept (fun b => b = s ∨ b = w.heap.size) w5 W → W.cell? ⟨BN, 0, none⟩ = some (Value.slice an3 n3.nodes.length cn3) ∧ W.cell? ⟨BN, 1, none⟩ = some (Value.slice ap3 n3.pipes.length cp3)) := fun W hW =>
        ⟨hW.cell c0 (by simp only; omega), hW.cell c1 (by simp only; omega)⟩
      go_region_held3 (fun W => W.cell? ⟨BN, 0, none⟩ = some (Value.slice an3 n3.nodes.length cn3) ∧ W.cell? ⟨BN, 1, none⟩ = some (Value.slice ap3 n3.pipes.length cp3))
        (first | exact KP.out _ (Kept.refl _ _).drew | exact KP.out _ K4 | exact KP.out _ (K4.setCell (p := ⟨w.heap.size, 0, none⟩) (Or.inr rfl) _) | exact KP.out _ ((K4.setCell (p := ⟨w.heap.size, 0, none⟩) (Or.inr rfl) _).setCell (p := ⟨w.heap.size, 1, none⟩) (Or.inr rfl) _) | exact KP.out _ (((Kept.refl _ _).setCell (p := ⟨w.heap.size, 0, none⟩) (Or.inr rfl) _).setCell (p := ⟨w.heap.size, 1, none⟩) (Or.inr rfl) _).drew)
        (first
          | (go_at_call 90; refine (l02DrawIndex_any _ _ _ (by omega) (by omega) HS6.out.drew).mono ?_; rintro e w4 ⟨r, rfl, r0, r1, hs4, hk4⟩; have hk4 := hk4.undrew; have K4 := hk4.mono (Y := fun b => b = s ∨ b = w.heap.size) (fun b _ h => Or.inl h); have Q0 := hk4.cell q0 (by simp only; omega); have Q1 := hk4.cell q1 (by simp only; omega); have G0 := (hk4.frozen (p := ⟨w.heap.size, 0, none⟩) (by simp only; omega) (by simp only; omega)).trans g0; have G1 := (hk4.frozen (p := ⟨w.heap.size, 1, none⟩) (by simp only; omega) (by simp only; omega)).trans g1))
      obtain ⟨W, hW, ⟨e0, e1⟩, hdn⟩ := dch_end (HX6.out.kept hk4 (by omega)) hlt (HD6.out.step hlt hk4 hs4)
      rw [hW]
      clear KP HS6 K4 Q0 Q1 G0 G1 c0 c1 q0 q1 g0 g1
      go_wp2_with fail
      exact bodyPost_ret (v := .tuple #[.agg #[Value.slice an3 n3.nodes.length cn3, Value.slice ap3 n3.pipes.length cp3], .int .i64 r]) (by simp [results, Try.results131, go_sem, e0, e1]) rfl ⟨_, _, _, _, rfl, hdn⟩
    have hb0 : ((L.length : Int) == 0) = false := by simp; intro e; exact hL0 (by rw [e]; rfl)
    go_wp2_with fail
    refine (l01Next_any s 8 _ (by omega) (by omega) HD5.out.src).mono ?_
    rintro e w6 ⟨q, rfl, q00, q01, hs6, hk6⟩
    have HD6 := hid (HD5.out.step hlt hk6 hs6)
    have HX6 := hid (HX5.out.kept hk6 (by omega))
    have HN6 := hid (HN5.out.kept hk6 (by omega))
    clear HD5 HX5 HN5
    by_cases hq : q = 0
    · have hqb : (q == 0) = true := by simp [hq]
      clear hq hk6 hs6
      go_wp2_with fail
      have c0 := HN6.out.cell 0 (by simp)
      have c1 := HN6.out.cell 1 (by simp)
      have q0 := HX6.out.cell 0 (by simp)
      have q1 := HX6.out.cell 1 (by simp)
      have g0 := HX6.out.frozen 0
      have g1 := HX6.out.frozen 1
      have zx := HX6.out.lt
      have HS6 := hid HD6.out.src
      have KP : Hid (∀ W, Kept (fun b => b = s ∨ b = w.heap.size) w6 W → W.cell? ⟨BN, 0, none⟩ = some (Value.slice an3 n3.nodes.length cn3) ∧ W.cell? ⟨BN, 1, none⟩ = some (Value.slice ap3 n3.pipes.length cp3)) := fun W hW =>
        ⟨hW.cell c0 (by simp only; omega), hW.cell c1 (by simp only; omega)⟩
      go_region_held3 (fun W => W.cell? ⟨BN, 0, none⟩ = some (Value.slice an3 n3.nodes.length cn3) ∧ W.cell? ⟨BN, 1, none⟩ = some (Value.slice ap3 n3.pipes.length cp3))
        (first | exact KP.out _ (Kept.refl _ _).drew | exact KP.out _ K4 | exact KP.out _ (K4.setCell (p := ⟨w.heap.size, 0, none⟩) (Or.inr rfl) _) | exact KP.out _ ((K4.setCell (p := ⟨w.heap.size, 0, none⟩) (Or.inr rfl) _).setCell (p := ⟨w.heap.size, 1, none⟩) (Or.inr rfl) _) | exact KP.out _ (((Kept.refl _ _).setCell (p := ⟨w.heap.size, 0, none⟩) (Or.inr rfl) _).setCell (p := ⟨w.heap.size, 1, none⟩) (Or.inr rfl) _).drew)
        (first
          | (go_at_call 90; refine (l02DrawIndex_any _ _ _ (by omega) (by omega) HS6.out.drew).mono ?_; rintro e w4 ⟨r, rfl, r0, r1, hs4, hk4⟩; have hk4 := hk4.undrew; have K4 := hk4.mono (Y := fun b => b = s ∨ b = w.heap.size) (fun b _ h => Or.inl h); have Q0 := hk4.cell q0 (by simp only; omega); have Q1 := hk4.cell q1 (by simp only; omega); have G0 := (hk4.frozen (p := ⟨w.heap.size, 0, none⟩) (by simp only; omega) (by simp only; omega)).trans g0; have G1 := (hk4.frozen (p := ⟨w.heap.size, 1, none⟩) (by simp only; omega) (by simp only; omega)).trans g1))
      obtain ⟨W, hW, ⟨e0, e1⟩, hdn⟩ := dch_end (HX6.out.kept hk4 (by omega)) hlt (HD6.out.step hlt hk4 hs4)
      rw [hW]
      clear KP HS6 K4 Q0 Q1 G0 G1 c0 c1 q0 q1 g0 g1
      go_wp2_with fail
      exact bodyPost_ret (v := .tuple #[.agg #[Value.slice an3 n3.nodes.length cn3, Value.slice ap3 n3.pipes.length cp3], .int .i64 r]) (by simp [results, Try.results131, go_sem, e0, e1]) rfl ⟨_, _, _, _, rfl, hdn⟩
    have hqb : (q == 0) = false := by simpa using hq
    obtain ⟨rb, ro, rfl, hrb, hrbl, _, hrc⟩ := HO5.out.at (by omega)
    have HQ : Hid (∀ i (h : i < L.length), w6.cell? ⟨rb, ro + i, none⟩ = some (.int .i64 L[i])) := fun i h => hk6.cell (hrc i h) (by simp only; have := hrb.1; omega)
    have hrbs : rb ≠ s := by have := hrb.1; omega
    have hrbw : rb ≠ w.heap.size := by have := hrb.1; omega
    clear hq hk6 hs6 hrc HO5
    go_wp2_with fail
    have c0 := HN6.out.cell 0 (by simp)
    have c1 := HN6.out.cell 1 (by simp)
    have q0 := HX6.out.cell 0 (by simp)
    have q1 := HX6.out.cell 1 (by simp)
    have g0 := HX6.out.frozen 0
    have g1 := HX6.out.frozen 1
    have zx := HX6.out.lt
    have HS6 := hid HD6.out.src
    go_region_with (first
        | (go_at_call 92; refine (l01Next_gen s L.length _ (by omega) HS6.out.drew).mono ?_; rintro e w4 ⟨r, rfl, r0, r1, hs4, hk4⟩; obtain ⟨r, rfl⟩ : ∃ k : Nat, r = k := ⟨r.toNat, by omega⟩; have hrl : r < L.length := (by omega); have hrI : (r : Int) < L.length := (by omega); have Q2 := hk4.undrew.cell (HQ.out r hrl) (by simp only; omega); have hk4 := hk4.undrew; have D0 := hk4.cell c0 (by simp only; omega); have D1 := hk4.cell c1 (by simp only; omega); have Q0 := hk4.cell q0 (by simp only; omega); have Q1 := hk4.cell q1 (by simp only; omega); have G0 := (hk4.frozen (p := ⟨w.heap.size, 0, none⟩) (by simp only; omega) (by simp only; omega)).trans g0; have G1 := (hk4.frozen (p := ⟨w.heap.size, 1, none⟩) (by simp only; omega) (by simp only; omega)).trans g1))
    all_goals
      obtain ⟨W, hW, ⟨e0, e1⟩, hdn⟩ := dch_end (HX6.out.kept hk4 (by omega)) hlt (HD6.out.step hlt hk4 hs4)
      first | rw [hW] | (change bodyPost _ _ _ _ _ (World.drew _); rw [hW]) | (trace_state; fail)
      clear HS6 D0 D1 Q0 Q1 G0 G1 c0 c1 q0 q1 g0 g1
      go_wp2_with fail
      exact bodyPost_ret (v := .tuple #[.agg #[Value.slice an3 n3.nodes.length cn3, Value.slice ap3 n3.pipes.length cp3], .int .i64 L[r]]) (by simp [results, Try.results131, go_sem, e0, e1]) rfl ⟨_, _, _, _, rfl, hdn⟩
  have htb : (t == 0) = false := by simpa using ht
  have HD3 := HD2
  have HX3 := HX2
  have HN3 := HN2
  have c0 := HN2.out.cell 0 (by simp)
  have c1 := HN2.out.cell 1 (by simp)
  clear HD2 HX2 HN2 ht hs2
  go_wp2_with fail
  clear c0 c1
  have hl1 := HD3.out.l1
  have hsW := HD3.out.src.lt
  have hsX := HX3.out.lt
  have hl2 := HD3.out.l2
  refine (spec_ChordsOf_any _ _ n _ HD3.out.ap.at).mono ?_
  have hCl := cdR_len n
  obtain ⟨⟨L, c⟩, hp⟩ : ∃ p, cdR n = p := ⟨_, rfl⟩
  rw [hp] at hCl ⊢
  rintro e w5 ⟨r5, rfl, o5, b5⟩
  simp only at o5 hCl
  have HD5 := hid (HD3.out.below b5)
  have HX5 := hid (HX3.out.below b5)
  have HN5 := hid (HN3.out.below b5)
  obtain ⟨_, ra, rc, hr5, _⟩ := id o5
  subst hr5
  have HO5 := hid o5
  clear HD3 HX3 HN3 hp b5 o5
  by_cases hL0 : L.length = 0
  · have hb0 : ((L.length : Int) == 0) = true := by simp [hL0]
    have HD6 := HD5
    have HX6 := HX5
    have HN6 := HN5
    clear HD5 HX5 HN5 hL0
    go_wp2_with fail
    have c0 := HN6.out.cell 0 (by simp)
    have c1 := HN6.out.cell 1 (by simp)
    have q0 := HX6.out.cell 0 (by simp)
    have q1 := HX6.out.cell 1 (by simp)
    have g0 := HX6.out.frozen 0
    have g1 := HX6.out.frozen 1
    have zx := HX6.out.lt
    have HS6 := hid HD6.out.src
    have KP : Hid (∀ W, Kept (fun b => b = s ∨ b = w.heap.size) w5 W → W.cell? ⟨BN, 0, none⟩ = some (Value.slice an n.nodes.length cn) ∧ W.cell? ⟨BN, 1, none⟩ = some (Value.slice ap n.pipes.length cp)) := fun W hW =>
      ⟨hW.cell c0 (by simp only; omega), hW.cell c1 (by simp only; omega)⟩
    go_region_held3 (fun W => W.cell? ⟨BN, 0, none⟩ = some (Value.slice an n.nodes.length cn) ∧ W.cell? ⟨BN, 1, none⟩ = some (Value.slice ap n.pipes.length cp))
      (first | exact KP.out _ (Kept.refl _ _).drew | exact KP.out _ K4 | exact KP.out _ (K4.setCell (p := ⟨w.heap.size, 0, none⟩) (Or.inr rfl) _) | exact KP.out _ ((K4.setCell (p := ⟨w.heap.size, 0, none⟩) (Or.inr rfl) _).setCell (p := ⟨w.heap.size, 1, none⟩) (Or.inr rfl) _) | exact KP.out _ (((Kept.refl _ _).setCell (p := ⟨w.heap.size, 0, none⟩) (Or.inr rfl) _).setCell (p := ⟨w.heap.size, 1, none⟩) (Or.inr rfl) _).drew)
      (first
        | (go_at_call 90; refine (l02DrawIndex_any _ _ _ (by omega) (by omega) HS6.out.drew).mono ?_; rintro e w4 ⟨r, rfl, r0, r1, hs4, hk4⟩; have hk4 := hk4.undrew; have K4 := hk4.mono (Y := fun b => b = s ∨ b = w.heap.size) (fun b _ h => Or.inl h); have Q0 := hk4.cell q0 (by simp only; omega); have Q1 := hk4.cell q1 (by simp only; omega); have G0 := (hk4.frozen (p := ⟨w.heap.size, 0, none⟩) (by simp only; omega) (by simp only; omega)).trans g0; have G1 := (hk4.frozen (p := ⟨w.heap.size, 1, none⟩) (by simp only; omega) (by simp only; omega)).trans g1))
    obtain ⟨W, hW, ⟨e0, e1⟩, hdn⟩ := dch_end (HX6.out.kept hk4 (by omega)) hlt (HD6.out.step hlt hk4 hs4)
    rw [hW]
    clear KP HS6 K4 Q0 Q1 G0 G1 c0 c1 q0 q1 g0 g1
    go_wp2_with fail
    exact bodyPost_ret (v := .tuple #[.agg #[Value.slice an n.nodes.length cn, Value.slice ap n.pipes.length cp], .int .i64 r]) (by simp [results, Try.results131, go_sem, e0, e1]) rfl ⟨_, _, _, _, rfl, hdn⟩
  have hb0 : ((L.length : Int) == 0) = false := by simp; intro e; exact hL0 (by rw [e]; rfl)
  go_wp2_with fail
  refine (l01Next_any s 8 _ (by omega) (by omega) HD5.out.src).mono ?_
  rintro e w6 ⟨q, rfl, q00, q01, hs6, hk6⟩
  have HD6 := hid (HD5.out.step hlt hk6 hs6)
  have HX6 := hid (HX5.out.kept hk6 (by omega))
  have HN6 := hid (HN5.out.kept hk6 (by omega))
  clear HD5 HX5 HN5
  by_cases hq : q = 0
  · have hqb : (q == 0) = true := by simp [hq]
    clear hq hk6 hs6
    go_wp2_with fail
    have c0 := HN6.out.cell 0 (by simp)
    have c1 := HN6.out.cell 1 (by simp)
    have q0 := HX6.out.cell 0 (by simp)
    have q1 := HX6.out.cell 1 (by simp)
    have g0 := HX6.out.frozen 0
    have g1 := HX6.out.frozen 1
    have zx := HX6.out.lt
    have HS6 := hid HD6.out.src
    have KP : Hid (∀ W, Kept (fun b => b = s ∨ b = w.heap.size) w6 W → W.cell? ⟨BN, 0, none⟩ = some (Value.slice an n.nodes.length cn) ∧ W.cell? ⟨BN, 1, none⟩ = some (Value.slice ap n.pipes.length cp)) := fun W hW =>
      ⟨hW.cell c0 (by simp only; omega), hW.cell c1 (by simp only; omega)⟩
    go_region_held3 (fun W => W.cell? ⟨BN, 0, none⟩ = some (Value.slice an n.nodes.length cn) ∧ W.cell? ⟨BN, 1, none⟩ = some (Value.slice ap n.pipes.length cp))
      (first | exact KP.out _ (Kept.refl _ _).drew | exact KP.out _ K4 | exact KP.out _ (K4.setCell (p := ⟨w.heap.size, 0, none⟩) (Or.inr rfl) _) | exact KP.out _ ((K4.setCell (p := ⟨w.heap.size, 0, none⟩) (Or.inr rfl) _).setCell (p := ⟨w.heap.size, 1, none⟩) (Or.inr rfl) _) | exact KP.out _ (((Kept.refl _ _).setCell (p := ⟨w.heap.size, 0, none⟩) (Or.inr rfl) _).setCell (p := ⟨w.heap.size, 1, none⟩) (Or.inr rfl) _).drew)
      (first
        | (go_at_call 90; refine (l02DrawIndex_any _ _ _ (by omega) (by omega) HS6.out.drew).mono ?_; rintro e w4 ⟨r, rfl, r0, r1, hs4, hk4⟩; have hk4 := hk4.undrew; have K4 := hk4.mono (Y := fun b => b = s ∨ b = w.heap.size) (fun b _ h => Or.inl h); have Q0 := hk4.cell q0 (by simp only; omega); have Q1 := hk4.cell q1 (by simp only; omega); have G0 := (hk4.frozen (p := ⟨w.heap.size, 0, none⟩) (by simp only; omega) (by simp only; omega)).trans g0; have G1 := (hk4.frozen (p := ⟨w.heap.size, 1, none⟩) (by simp only; omega) (by simp only; omega)).trans g1))
    obtain ⟨W, hW, ⟨e0, e1⟩, hdn⟩ := dch_end (HX6.out.kept hk4 (by omega)) hlt (HD6.out.step hlt hk4 hs4)
    rw [hW]
    clear KP HS6 K4 Q0 Q1 G0 G1 c0 c1 q0 q1 g0 g1
    go_wp2_with fail
    exact bodyPost_ret (v := .tuple #[.agg #[Value.slice an n.nodes.length cn, Value.slice ap n.pipes.length cp], .int .i64 r]) (by simp [results, Try.results131, go_sem, e0, e1]) rfl ⟨_, _, _, _, rfl, hdn⟩
  have hqb : (q == 0) = false := by simpa using hq
  obtain ⟨rb, ro, rfl, hrb, hrbl, _, hrc⟩ := HO5.out.at (by omega)
  have HQ : Hid (∀ i (h : i < L.length), w6.cell? ⟨rb, ro + i, none⟩ = some (.int .i64 L[i])) := fun i h => hk6.cell (hrc i h) (by simp only; have := hrb.1; omega)
  have hrbs : rb ≠ s := by have := hrb.1; omega
  have hrbw : rb ≠ w.heap.size := by have := hrb.1; omega
  clear hq hk6 hs6 hrc HO5
  go_wp2_with fail
  have c0 := HN6.out.cell 0 (by simp)
  have c1 := HN6.out.cell 1 (by simp)
  have q0 := HX6.out.cell 0 (by simp)
  have q1 := HX6.out.cell 1 (by simp)
  have g0 := HX6.out.frozen 0
  have g1 := HX6.out.frozen 1
  have zx := HX6.out.lt
  have HS6 := hid HD6.out.src
  go_region_with (first
      | (go_at_call 92; refine (l01Next_gen s L.length _ (by omega) HS6.out.drew).mono ?_; rintro e w4 ⟨r, rfl, r0, r1, hs4, hk4⟩; obtain ⟨r, rfl⟩ : ∃ k : Nat, r = k := ⟨r.toNat, by omega⟩; have hrl : r < L.length := (by omega); have hrI : (r : Int) < L.length := (by omega); have Q2 := hk4.undrew.cell (HQ.out r hrl) (by simp only; omega); have hk4 := hk4.undrew; have D0 := hk4.cell c0 (by simp only; omega); have D1 := hk4.cell c1 (by simp only; omega); have Q0 := hk4.cell q0 (by simp only; omega); have Q1 := hk4.cell q1 (by simp only; omega); have G0 := (hk4.frozen (p := ⟨w.heap.size, 0, none⟩) (by simp only; omega) (by simp only; omega)).trans g0; have G1 := (hk4.frozen (p := ⟨w.heap.size, 1, none⟩) (by simp only; omega) (by simp only; omega)).trans g1))
  all_goals
    obtain ⟨W, hW, ⟨e0, e1⟩, hdn⟩ := dch_end (HX6.out.kept hk4 (by omega)) hlt (HD6.out.step hlt hk4 hs4)
    first | rw [hW] | (change bodyPost _ _ _ _ _ (World.drew _); rw [hW]) | (trace_state; fail)
    clear HS6 D0 D1 Q0 Q1 G0 G1 c0 c1 q0 q1 g0 g1
    go_wp2_with fail
    exact bodyPost_ret (v := .tuple #[.agg #[Value.slice an n.nodes.length cn, Value.slice ap n.pipes.length cp], .int .i64 L[r]]) (by simp [results, Try.results131, go_sem, e0, e1]) rfl ⟨_, _, _, _, rfl, hdn⟩

theorem draw_endc {w w0 w1 w2 W3 w4 : World} {s : Nat} {nv pv x y : Value} {n : Net} {T : TypeId} (h0 : Kept (fun _ => False) w w0) (h1 : Below w0.heap.size w0 w1) (hz : w0.heap.size = w.heap.size + 1) (hs : s = w.heap.size + 1) (hs1 : s < w1.heap.size) (hd : Dch w1 w2 s nv pv n)
    (b3 : Below w2.heap.size w2 W3) (hk4 : Kept (fun b => b = s) W3 w4) (hb : Blk w4 w.heap.size #[x, y] T) :
    ∃ W, ((w4.setCell ⟨w.heap.size, 0, none⟩ nv).setCell ⟨w.heap.size, 1, none⟩ pv) = W ∧ (W.cell? ⟨w.heap.size, 0, none⟩ = some nv ∧ W.cell? ⟨w.heap.size, 1, none⟩ = some pv) ∧ Dn w W nv pv n := by
  have hb5 := (hb.set 0 nv).set 1 pv
  have e0 := hb5.cell 0 (by simp)
  have e1 := hb5.cell 1 (by simp)
  simp at e0 e1
  have hk5 := ((Kept.refl (· = w.heap.size) w4).setCell (p := ⟨w.heap.size, 0, none⟩) rfl nv).setCell (p := ⟨w.heap.size, 1, none⟩) rfl pv
  have z3 := b3.size
  have z4 := hk4.size
  have z5 := hk5.size
  have hap := ((hd.ap.below b3).kept hk4 (fun b h1 h2 => by omega)).kept hk5 (fun b h1 h2 => by omega)
  have hb0 := h0.below (B := w.heap.size) (Nat.le_refl _) (fun k e => e.elim)
  have hb1 := hb0.trans (h1.mono (by omega))
  have hb2 := hb1.trans (hd.kp.below hb1.size (fun k e => by omega))
  have hb3 := hb2.trans (b3.mono hb2.size)
  have hb4 := hb3.trans (hk4.below hb3.size (fun k e => by omega))
  exact ⟨_, rfl, ⟨e0, e1⟩, hap.widen (by omega) (by omega), hd.c1, hd.c2, by have := hd.l1; omega, by have := hd.l2; omega, hb4.trans (hk5.below hb4.size (fun k e => by omega))⟩

set_option maxHeartbeats 1000000 in
set_option maxRecDepth 100000 in
theorem DrawCycleOf_any (a : Option Addr) (len cap : Nat) (w : World) (h : Bytes w a len w.heap.size) :
    Calls Try.prog 52 #[.slice a len cap] w fun e w' => ∃ nv pv n, ∃ r : Int, e = .returned (.tuple #[.agg #[nv, pv], .int .i64 r]) ∧ Dn w w' nv pv n := by
  have hW0 := (Kept.refl (fun _ => False) w).alloc (.cells #[.slice none 0 0, .slice none 0 0] 27)
  have hbx := Blk.new w #[.slice none 0 0, .slice none 0 0] 27
  have h := h.kept hW0 (fun k e => e.elim)
  obtain ⟨W0, hWe⟩ : ∃ W0, w.alloc (.cells #[.slice none 0 0, .slice none 0 0] 27) = W0 := ⟨_, rfl⟩
  have hz : W0.heap.size = w.heap.size + 1 := by rw [← hWe]; simp
  rw [hWe] at hW0 hbx h
  have h : Bytes W0 a len W0.heap.size := by
    obtain ⟨h1, h2⟩ := h
    exact ⟨h1, h2.imp id (fun ⟨b, off, e1, e2, e3⟩ => ⟨b, off, e1, by omega, e3⟩)⟩
  go_enter Try.func52, Try.ntmps52
  go_wp2_with fail
  clear hWe
  refine (l01From_any a len cap W0 h).mono ?_
  rintro e w1 ⟨rfl, hs1, hb1⟩
  rw [hz] at hs1
  have z1 := hb1.size
  go_wp2_with fail
  refine (l05DrawChord_any _ _ hs1).mono ?_
  rintro e w2 ⟨nv, pv, n, r, rfl, hd⟩
  have hbx1 := hbx.below hb1
  have HX2 := hid (hbx1.kept hd.kp (by omega))
  have HD := hid hd
  have HW0 := hid hW0
  have HB1 := hid hb1
  have hs1l := hs1.lt
  obtain ⟨a0, k0, rfl⟩ := hd.ap.at.1.shape
  obtain ⟨a1, k1, rfl⟩ := hd.ap.at.2.2.shape
  have q0 := HX2.out.cell 0 (by simp)
  have q1 := HX2.out.cell 1 (by simp)
  have g0 := HX2.out.frozen 0
  have g1 := HX2.out.frozen 1
  clear hW0 hbx hbx1 h hs1 hd
  go_wp2_with fail
  obtain ⟨W, hW, ⟨e0, e1⟩, hdn⟩ := draw_endc HW0.out HB1.out hz rfl hs1l HD.out (Below.refl _ _) (Kept.refl _ _) HX2.out
  rw [hW]
  clear q0 q1 g0 g1
  go_wp2_with fail
  exact bodyPost_ret (v := .tuple #[.agg #[.slice a0 n.nodes.length k0, .slice a1 n.pipes.length k1], .int .i64 r]) (by simp [results, Try.results52, go_sem, e0, e1]) rfl ⟨_, _, _, _, rfl, hdn⟩

end Go.Proofs.Ytdapdaadglaoiaa

namespace Go.Proofs.Ytdapdaadglaoiaa
open Go.RowKit

/-- The draw's state: the list v is the call's own. -/
structure Fd (w W3 : World) (s BN : Nat) (nv pv v : Value) (zs : List Int) (W : World) : Prop where
  ho : OwnI 2 W3.heap.size W v zs
  hk : Kept (fun b => b = s) W3 W
  hs : Src 126 W s
  hx : Blk W w.heap.size #[.slice none 0 0, .slice none 0 0] 27
  hn : Blk W BN #[nv, pv] 27
theorem Fd.below {w W3 W W' : World} {s BN : Nat} {nv pv v : Value} {zs : List Int} (h : Fd w W3 s BN nv pv v zs W) (hb : Below W.heap.size W W') : Fd w W3 s BN nv pv v zs W' :=
  ⟨h.ho.below hb, h.hk.trans (Kept.of_below hb), h.hs.kept (Kept.of_below (X := fun _ => False) hb) (fun _ e => e.elim), h.hx.below hb, h.hn.below hb⟩
theorem Fd.step {w W3 W W' : World} {s BN : Nat} {nv pv v : Value} {zs : List Int} (h : Fd w W3 s BN nv pv v zs W) (h1 : s < W3.heap.size) (h2 : w.heap.size ≠ s) (h3 : BN ≠ s) (hk : Kept (fun b => b = s) W W') (hs : Src 126 W' s) : Fd w W3 s BN nv pv v zs W' :=
  ⟨h.ho.kept hk (fun b hb e => by have := (h.ho.lt b hb).1; omega), h.hk.trans hk, hs, h.hx.kept hk h2, h.hn.kept hk h3⟩
theorem Fd.grown {w W3 W W' : World} {s BN : Nat} {nv pv v v' : Value} {zs zs' : List Int} (h : Fd w W3 s BN nv pv v zs W) (h1 : s < W3.heap.size) (h2 : w.heap.size < W3.heap.size) (h3 : BN < W3.heap.size) (hk : Kept (fun b => v.ownBlock = some b) W W') (ho : OwnI 2 W3.heap.size W' v' zs') : Fd w W3 s BN nv pv v' zs' W' :=
  ⟨ho, h.hk.trans' hk (fun j hj => Or.inr (h.ho.lt j hj).1), h.hs.kept hk (fun j hj => by have := (h.ho.lt j hj).1; omega), h.hx.kept hk (fun hj => by have := (h.ho.lt _ hj).1; omega), h.hn.kept hk (fun hj => by have := (h.ho.lt _ hj).1; omega)⟩
def FdRel (w W3 : World) (s BN : Nat) (nv pv : Value) (i v : Value) (wr : World) : Prop :=
  ∃ (k : Nat) (zs : List Int), i = .int .i64 k ∧ zs.length = k ∧ k ≤ 11 ∧ Fd w W3 s BN nv pv v zs wr
theorem Dch.step' {w W W' : World} {s : Nat} {nv pv : Value} {n : Net} (h : Dch w W s nv pv n) (hlt : s < w.heap.size) (hk : Kept (fun b => b = s) W W') (hs : Src 126 W' s) : Dch w W' s nv pv n := h.step hlt hk hs
theorem fd_end {w w0 w1 w2 W3 W : World} {s BN : Nat} {nv pv v : Value} {zs : List Int} {n : Net} (h0 : Kept (fun _ => False) w w0) (h1 : Below w0.heap.size w0 w1) (hz : w0.heap.size = w.heap.size + 1) (hs : s = w.heap.size + 1) (hs1 : s < w1.heap.size) (hd : Dch w1 w2 s nv pv n)
    (b3 : Below w2.heap.size w2 W3) (hf : Fd w W3 s BN nv pv v zs W) :
    ∃ W', ((W.setCell ⟨w.heap.size, 0, none⟩ nv).setCell ⟨w.heap.size, 1, none⟩ pv) = W' ∧ (W'.cell? ⟨w.heap.size, 0, none⟩ = some nv ∧ W'.cell? ⟨w.heap.size, 1, none⟩ = some pv) ∧ Dn w W' nv pv n ∧ OwnI 2 (w.heap.size + 1) W' v zs := by
  obtain ⟨W', hW, e, hdn⟩ := draw_endc h0 h1 hz hs hs1 hd b3 hf.hk hf.hx
  refine ⟨W', hW, e, hdn, ?_⟩
  have z1 := h1.size
  have z2 := hd.kp.size
  have z3 := b3.size
  have hk5 := ((Kept.refl (· = w.heap.size) W).setCell (p := ⟨w.heap.size, 0, none⟩) rfl nv).setCell (p := ⟨w.heap.size, 1, none⟩) rfl pv
  rw [hW] at hk5
  exact (hf.ho.kept hk5 (fun b hb e => by have := (hf.ho.lt b hb).1; omega)).lower (by omega)

set_option maxHeartbeats 2000000 in
set_option maxRecDepth 100000 in
theorem DrawFromChords_any (a : Option Addr) (len cap : Nat) (w : World) (h : Bytes w a len w.heap.size) :
    Calls Try.prog 56 #[.slice a len cap] w fun e w' => ∃ nv pv n v zs, e = .returned (.tuple #[.agg #[nv, pv], v]) ∧ Dn w w' nv pv n ∧ OwnI 2 (w.heap.size + 1) w' v zs ∧ zs.length ≤ 1000 := by
  have hW0 := (Kept.refl (fun _ => False) w).alloc (.cells #[.slice none 0 0, .slice none 0 0] 27)
  have hbx := Blk.new w #[.slice none 0 0, .slice none 0 0] 27
  have h := h.kept hW0 (fun k e => e.elim)
  obtain ⟨W0, hWe⟩ : ∃ W0, w.alloc (.cells #[.slice none 0 0, .slice none 0 0] 27) = W0 := ⟨_, rfl⟩
  have hz : W0.heap.size = w.heap.size + 1 := by rw [← hWe]; simp
  rw [hWe] at hW0 hbx h
  have h : Bytes W0 a len W0.heap.size := by
    obtain ⟨h1, h2⟩ := h
    exact ⟨h1, h2.imp id (fun ⟨b, off, e1, e2, e3⟩ => ⟨b, off, e1, by omega, e3⟩)⟩
  go_enter Try.func56, Try.ntmps56
  go_wp2_with fail
  clear hWe
  refine (l01From_any a len cap W0 h).mono ?_
  rintro e w1 ⟨rfl, hs1, hb1⟩
  rw [hz] at hs1
  have z1 := hb1.size
  go_wp2_with fail
  refine (l05DrawChord_any _ _ hs1).mono ?_
  rintro e w2 ⟨nv, pv, n, r, rfl, hd⟩
  have hbx1 := hbx.below hb1
  have HD := hid hd
  have HW0 := hid hW0
  have HB1 := hid hb1
  have HZ := hid hz
  have hs1l := hs1.lt
  have z2 := hd.kp.size
  have hl2 := hd.l2
  obtain ⟨a0, k0, rfl⟩ := hd.ap.at.1.shape
  obtain ⟨a1, k1, rfl⟩ := hd.ap.at.2.2.shape
  have b3 := below_new w2 (.cells #[.slice a0 n.nodes.length k0, .slice a1 n.pipes.length k1] 27)
  have HX3 := hid ((hbx1.kept hd.kp (by omega)).below b3)
  have HN3 := hid (Blk.new w2 #[.slice a0 n.nodes.length k0, .slice a1 n.pipes.length k1] 27)
  have HD3 := hid (HD.out.below b3)
  obtain ⟨W3, hW3⟩ : ∃ W3, w2.alloc (.cells #[.slice a0 n.nodes.length k0, .slice a1 n.pipes.length k1] 27) = W3 := ⟨_, rfl⟩
  have HZ3 : Hid (W3.heap.size = w2.heap.size + 1) := by rw [Hid, ← hW3]; simp
  rw [hW3] at HX3 HN3 HD3 b3
  have hsz : w.heap.size + 1 < w1.heap.size := hs1l
  have HF3 : Hid (Fd w W3 (w.heap.size + 1) w2.heap.size (.slice a0 n.nodes.length k0) (.slice a1 n.pipes.length k1) (.slice (some ⟨W3.heap.size, 0, none⟩) 0 0) [] (W3.alloc (.cells #[] 2))) :=
    ⟨OwnI.made _ _ _ (Nat.le_refl _), Kept.of_below (below_new _ _), HD3.out.src.alloc _, HX3.out.below (below_new _ _), HN3.out.below (below_new _ _)⟩
  have hsw : w.heap.size + 1 < W3.heap.size := by have := HZ3.out; omega
  have hww : w.heap.size < W3.heap.size := by omega
  have hbw : w2.heap.size < W3.heap.size := by have := HZ3.out; omega
  have hne1 : w.heap.size ≠ w.heap.size + 1 := by omega
  have hne2 : w2.heap.size ≠ w.heap.size + 1 := by omega
  have HB3 := hid b3
  clear hW0 hbx hbx1 h hs1 hd hb1 hz HX3 HN3 b3
  obtain ⟨s, hs⟩ : ∃ s, s = w.heap.size + 1 := ⟨_, rfl⟩
  rw [← hs] at HD HF3 HD3 hsw hne1 hne2 hsz hs1l ⊢
  have HSE := hid hs
  clear hs
  go_wp2_with fail
  clear hW3
  go_loopw [8, 7] (fun i v wr => FdRel w W3 s w2.heap.size (.slice a0 n.nodes.length k0) (.slice a1 n.pipes.length k1) i v wr) (fun i _ _ => 11 - (intOf i).toNat)
  case atStart => exact ⟨0, [], rfl, rfl, by omega, HF3.out⟩
  case round =>
    clear HF3
    obtain ⟨k, zs, rfl, hzk, hk11, hf⟩ := hrel
    have HF := hid hf
    have HZK := hid hzk
    have HDr := hid (HD3.out.step' hsz hf.hk hf.hs)
    have c0 := hf.hn.cell 0 (by simp)
    have c1 := hf.hn.cell 1 (by simp)
    simp only [List.getElem_toArray, List.getElem_cons_zero, List.getElem_cons_succ] at c0 c1
    clear hf hzk
    obtain ⟨pa, pc, hpe, _⟩ := HF.out.ho.shape
    subst hpe
    go_wp2_with fail
    refine (spec_IsNetwork_any _ _ n _ HDr.out.ap.at).mono ?_
    cases hb : netB n
    · rintro e w4 ⟨rfl, b4⟩
      have HF4 := hid (HF.out.below b4)
      clear b4 HF c0 c1
      go_wp2_with fail
      refine (l01Next_any s 20 _ (by omega) (by omega) HF4.out.hs).mono ?_
      rintro e w6 ⟨t, rfl, t0, t1, hs6, hk6⟩
      have HF6 := hid (HF4.out.step hsw hne1 hne2 hk6 hs6)
      clear HF4 hk6 hs6
      by_cases ht0 : t = 0
      · have htb : (t == 0) = true := by simp [ht0]
        clear ht0
        have zz6 := HF6.out.hs.lt
        go_wp2_with (at_builtin; refine wpList_app1 rfl (.tmp 38) (.tmp 39) rfl W3.heap.size _ zs rfl (HF6.out.ho.alloc _) w6.heap.size 0 rfl ?c1 ?c2 ?c3 ?_)
        case c1 => simp
        case c2 => have := HZK.out; omega
        case c3 => have := HF6.out.hk.size; simp; omega
        intro v7 w7 h7 k7 b7
        have HF7 := hid ((HF6.out.below (below_new _ _)).grown hsw hww hbw k7 h7)
        clear HF6 h7 k7 b7
        have c0 := HF7.out.hn.cell 0 (by simp)
        have c1 := HF7.out.hn.cell 1 (by simp)
        simp only [List.getElem_toArray, List.getElem_cons_zero, List.getElem_cons_succ] at c0 c1
        have q0 := HF7.out.hx.cell 0 (by simp)
        have q1 := HF7.out.hx.cell 1 (by simp)
        have g0 := HF7.out.hx.frozen 0
        have g1 := HF7.out.hx.frozen 1
        obtain ⟨fa, fc, hfe, _⟩ := HF7.out.ho.shape
        subst hfe
        go_wp2_with fail
        obtain ⟨W, hW, ⟨e0, e1⟩, hdn, hol⟩ := fd_end HW0.out HB1.out HZ.out HSE.out hs1l HD.out HB3.out HF7.out
        rw [hW]
        exact bodyPost_ret (v := .tuple #[.agg #[.slice a0 n.nodes.length k0, .slice a1 n.pipes.length k1], .slice fa (zs ++ [0]).length fc]) (by simp [results, Try.results56, go_sem, e0, e1]) rfl ⟨_, _, _, _, _, rfl, hdn, hol, by have := HZK.out; simp; omega⟩
      have htb : (t == 0) = false := by simpa using ht0
      clear ht0
      by_cases ht1 : t = 1
      · have htb1 : (t == 1) = true := by simp [ht1]
        clear ht1
        by_cases hz0 : 0 < zs.length
        · have hz0I : 0 < (zs.length : Int) := by omega
          obtain ⟨pa', pc', hpe, hsh⟩ := HF6.out.ho.shape
          simp only [Value.slice.injEq, true_and] at hpe
          obtain ⟨rfl, rfl⟩ := hpe
          obtain ⟨g, rfl, hg1, hg2, hg3, hg4⟩ := hsh.resolve_left (fun e => by rw [e] at hz0; simp at hz0)
          have m0 := hg4 0 hz0
          have mf := hg3 0
          have hgs : g ≠ s := by omega
          clear hsh hg4 hg3
          obtain ⟨WV, hWV⟩ : ∃ WV, w6.alloc (.cells #[.int .i64 30000, .int .i64 30001] 2) = WV := ⟨_, rfl⟩
          have bV : Below w6.heap.size w6 WV := by rw [← hWV]; exact below_new _ _
          have HFV := hid (HF6.out.below bV)
          have mV := (bV.cell (p := ⟨g, 0, none⟩) hg2).trans m0
          have sV := bV.size
          go_wp2_with fail
          refine (l01Next_any s 2 _ (by omega) (by omega) HFV.out.hs).mono ?_
          rintro e w7 ⟨q, rfl, q0, q1, hs7, hk7⟩
          obtain ⟨z, hz', hzm⟩ := vals_at w6 [.int .i64 30000, .int .i64 30001] 2 q q0 q1
          have hzi : ∃ zb : Int, z = .int .i64 zb := by
            simp only [List.mem_cons, List.not_mem_nil, or_false] at hzm
            rcases hzm with rfl | rfl <;> exact ⟨_, rfl⟩
          obtain ⟨zb, rfl⟩ := hzi
          rw [hWV] at hz'
          have zz6 := HF6.out.hs.lt
          have y0 := hk7.cell hz' (by simp only; omega)
          have y1 := hk7.cell mV (by simp only; omega)
          have HF7 := hid (HFV.out.step hsw hne1 hne2 hk7 hs7)
          have y2 := World.ownsRow.frozenAt HF7.out.ho 0
          have HF8 := hid (HF7.out.grown (v' := .slice (some ⟨g, 0, none⟩) zs.length pc) hsw hww hbw ((Kept.refl (fun b => (Value.slice (some ⟨g, 0, none⟩) zs.length pc).ownBlock = some b) w7).setCell (p := ⟨g, 0, none⟩) (by simp [Value.ownBlock]) (.int .i64 zb)) (HF7.out.ho.set 0 zb))
          have hgw : g ≠ w.heap.size := by omega
          have hgb : g ≠ w2.heap.size := by omega
          clear HFV HF6 hk7 hs7 hz' hzm mV m0 bV mf hWV sV HF7
          have c0 := HF8.out.hn.cell 0 (by simp)
          have c1 := HF8.out.hn.cell 1 (by simp)
          simp only [List.getElem_toArray, List.getElem_cons_zero, List.getElem_cons_succ] at c0 c1
          have q0 := HF8.out.hx.cell 0 (by simp)
          have q1 := HF8.out.hx.cell 1 (by simp)
          have g0 := HF8.out.hx.frozen 0
          have g1 := HF8.out.hx.frozen 1
          have hdummy := True.intro
          go_wp2_with fail
          obtain ⟨W, hW, ⟨e0, e1⟩, hdn, hol⟩ := fd_end HW0.out HB1.out HZ.out HSE.out hs1l HD.out HB3.out HF8.out
          rw [hW]
          exact bodyPost_ret (v := .tuple #[.agg #[.slice a0 n.nodes.length k0, .slice a1 n.pipes.length k1], .slice (some ⟨g, 0, none⟩) zs.length pc]) (by simp [results, Try.results56, go_sem, e0, e1]) rfl ⟨_, _, _, _, _, rfl, hdn, hol, by have := HZK.out; simp; omega⟩
        · have hz0I : ¬ (0 < (zs.length : Int)) := by omega
          have c0 := HF6.out.hn.cell 0 (by simp)
          have c1 := HF6.out.hn.cell 1 (by simp)
          simp only [List.getElem_toArray, List.getElem_cons_zero, List.getElem_cons_succ] at c0 c1
          have q0 := HF6.out.hx.cell 0 (by simp)
          have q1 := HF6.out.hx.cell 1 (by simp)
          have g0 := HF6.out.hx.frozen 0
          have g1 := HF6.out.hx.frozen 1
          have hdummy := True.intro
          go_wp2_with fail
          obtain ⟨W, hW, ⟨e0, e1⟩, hdn, hol⟩ := fd_end HW0.out HB1.out HZ.out HSE.out hs1l HD.out HB3.out HF6.out
          rw [hW]
          exact bodyPost_ret (v := .tuple #[.agg #[.slice a0 n.nodes.length k0, .slice a1 n.pipes.length k1], .slice pa zs.length pc]) (by simp [results, Try.results56, go_sem, e0, e1]) rfl ⟨_, _, _, _, _, rfl, hdn, hol, by have := HZK.out; omega⟩
      have htb1 : (t == 1) = false := by simpa using ht1
      clear ht1
      have c0 := HF6.out.hn.cell 0 (by simp)
      have c1 := HF6.out.hn.cell 1 (by simp)
      simp only [List.getElem_toArray, List.getElem_cons_zero, List.getElem_cons_succ] at c0 c1
      have q0 := HF6.out.hx.cell 0 (by simp)
      have q1 := HF6.out.hx.cell 1 (by simp)
      have g0 := HF6.out.hx.frozen 0
      have g1 := HF6.out.hx.frozen 1
      have hdummy := True.intro
      go_wp2_with fail
      obtain ⟨W, hW, ⟨e0, e1⟩, hdn, hol⟩ := fd_end HW0.out HB1.out HZ.out HSE.out hs1l HD.out HB3.out HF6.out
      rw [hW]
      exact bodyPost_ret (v := .tuple #[.agg #[.slice a0 n.nodes.length k0, .slice a1 n.pipes.length k1], .slice pa zs.length pc]) (by simp [results, Try.results56, go_sem, e0, e1]) rfl ⟨_, _, _, _, _, rfl, hdn, hol, by have := HZK.out; omega⟩
    · rintro e w4 ⟨rfl, b4⟩
      have HF4 := hid (HF.out.below b4)
      have HD4 := hid (HDr.out.below b4)
      clear b4 HF HDr c0 c1
      have c0 := HF4.out.hn.cell 0 (by simp)
      have c1 := HF4.out.hn.cell 1 (by simp)
      simp only [List.getElem_toArray, List.getElem_cons_zero, List.getElem_cons_succ] at c0 c1
      go_wp2_with fail
      refine (l05Chords_any _ _ n _ HD4.out.ap.at hb).mono ?_
      rintro e w5 ⟨r5, rfl, o5, b5⟩
      obtain ⟨ca, cc, rfl, _⟩ := o5.shape
      have hcl := chords_le n
      have HF5 := hid (HF4.out.below b5)
      clear o5 b5 HF4 HD4 c0 c1
      by_cases hlt : k < (chords n).length
      · have hltI : (k : Int) < (chords n).length := by omega
        go_wp2_with fail
        refine (l01Next_any s 60 _ (by omega) (by omega) HF5.out.hs).mono ?_
        rintro e w6 ⟨x, rfl, x0, x1, hs6, hk6⟩
        have HF6 := hid (HF5.out.step hsw hne1 hne2 hk6 hs6)
        clear HF5 hk6 hs6
        go_wp2_with (at_builtin; refine wpList_app1 rfl (.tmp 28) (.tmp 32) rfl W3.heap.size _ zs rfl (HF6.out.ho.alloc _) w6.heap.size (x - 30) rfl ?c1 ?c2 ?c3 ?_)
        case c1 => simp
        case c2 => have := HZK.out; omega
        case c3 => have := HF6.out.hk.size; simp; omega
        intro v7 w7 h7 k7 b7
        have HF7 := hid ((HF6.out.below (below_new _ _)).grown hsw hww hbw k7 h7)
        clear HF6 h7 k7 b7
        go_wp2_with fail
        go_roundw
        case rel => exact ⟨k + 1, _, by go_num, by have := HZK.out; simp; omega, by omega, HF7.out⟩
        case measure => simp [intOf]; omega
      have hltI : ¬ ((k : Int) < (chords n).length) := by omega
      clear hlt
      go_wp2_with fail
      refine (l01Next_any s 20 _ (by omega) (by omega) HF5.out.hs).mono ?_
      rintro e w6 ⟨t, rfl, t0, t1, hs6, hk6⟩
      have HF6 := hid (HF5.out.step hsw hne1 hne2 hk6 hs6)
      clear HF5 hk6 hs6
      by_cases ht0 : t = 0
      · have htb : (t == 0) = true := by simp [ht0]
        clear ht0
        have zz6 := HF6.out.hs.lt
        go_wp2_with (at_builtin; refine wpList_app1 rfl (.tmp 38) (.tmp 39) rfl W3.heap.size _ zs rfl (HF6.out.ho.alloc _) w6.heap.size 0 rfl ?c1 ?c2 ?c3 ?_)
        case c1 => simp
        case c2 => have := HZK.out; omega
        case c3 => have := HF6.out.hk.size; simp; omega
        intro v7 w7 h7 k7 b7
        have HF7 := hid ((HF6.out.below (below_new _ _)).grown hsw hww hbw k7 h7)
        clear HF6 h7 k7 b7
        have c0 := HF7.out.hn.cell 0 (by simp)
        have c1 := HF7.out.hn.cell 1 (by simp)
        simp only [List.getElem_toArray, List.getElem_cons_zero, List.getElem_cons_succ] at c0 c1
        have q0 := HF7.out.hx.cell 0 (by simp)
        have q1 := HF7.out.hx.cell 1 (by simp)
        have g0 := HF7.out.hx.frozen 0
        have g1 := HF7.out.hx.frozen 1
        obtain ⟨fa, fc, hfe, _⟩ := HF7.out.ho.shape
        subst hfe
        go_wp2_with fail
        obtain ⟨W, hW, ⟨e0, e1⟩, hdn, hol⟩ := fd_end HW0.out HB1.out HZ.out HSE.out hs1l HD.out HB3.out HF7.out
        rw [hW]
        exact bodyPost_ret (v := .tuple #[.agg #[.slice a0 n.nodes.length k0, .slice a1 n.pipes.length k1], .slice fa (zs ++ [0]).length fc]) (by simp [results, Try.results56, go_sem, e0, e1]) rfl ⟨_, _, _, _, _, rfl, hdn, hol, by have := HZK.out; simp; omega⟩
      have htb : (t == 0) = false := by simpa using ht0
      clear ht0
      by_cases ht1 : t = 1
      · have htb1 : (t == 1) = true := by simp [ht1]
        clear ht1
        by_cases hz0 : 0 < zs.length
        · have hz0I : 0 < (zs.length : Int) := by omega
          obtain ⟨pa', pc', hpe, hsh⟩ := HF6.out.ho.shape
          simp only [Value.slice.injEq, true_and] at hpe
          obtain ⟨rfl, rfl⟩ := hpe
          obtain ⟨g, rfl, hg1, hg2, hg3, hg4⟩ := hsh.resolve_left (fun e => by rw [e] at hz0; simp at hz0)
          have m0 := hg4 0 hz0
          have mf := hg3 0
          have hgs : g ≠ s := by omega
          clear hsh hg4 hg3
          obtain ⟨WV, hWV⟩ : ∃ WV, w6.alloc (.cells #[.int .i64 30000, .int .i64 30001] 2) = WV := ⟨_, rfl⟩
          have bV : Below w6.heap.size w6 WV := by rw [← hWV]; exact below_new _ _
          have HFV := hid (HF6.out.below bV)
          have mV := (bV.cell (p := ⟨g, 0, none⟩) hg2).trans m0
          have sV := bV.size
          go_wp2_with fail
          refine (l01Next_any s 2 _ (by omega) (by omega) HFV.out.hs).mono ?_
          rintro e w7 ⟨q, rfl, q0, q1, hs7, hk7⟩
          obtain ⟨z, hz', hzm⟩ := vals_at w6 [.int .i64 30000, .int .i64 30001] 2 q q0 q1
          have hzi : ∃ zb : Int, z = .int .i64 zb := by
            simp only [List.mem_cons, List.not_mem_nil, or_false] at hzm
            rcases hzm with rfl | rfl <;> exact ⟨_, rfl⟩
          obtain ⟨zb, rfl⟩ := hzi
          rw [hWV] at hz'
          have zz6 := HF6.out.hs.lt
          have y0 := hk7.cell hz' (by simp only; omega)
          have y1 := hk7.cell mV (by simp only; omega)
          have HF7 := hid (HFV.out.step hsw hne1 hne2 hk7 hs7)
          have y2 := World.ownsRow.frozenAt HF7.out.ho 0
          have HF8 := hid (HF7.out.grown (v' := .slice (some ⟨g, 0, none⟩) zs.length pc) hsw hww hbw ((Kept.refl (fun b => (Value.slice (some ⟨g, 0, none⟩) zs.length pc).ownBlock = some b) w7).setCell (p := ⟨g, 0, none⟩) (by simp [Value.ownBlock]) (.int .i64 zb)) (HF7.out.ho.set 0 zb))
          have hgw : g ≠ w.heap.size := by omega
          have hgb : g ≠ w2.heap.size := by omega
          clear HFV HF6 hk7 hs7 hz' hzm mV m0 bV mf hWV sV HF7
          have c0 := HF8.out.hn.cell 0 (by simp)
          have c1 := HF8.out.hn.cell 1 (by simp)
          simp only [List.getElem_toArray, List.getElem_cons_zero, List.getElem_cons_succ] at c0 c1
          have q0 := HF8.out.hx.cell 0 (by simp)
          have q1 := HF8.out.hx.cell 1 (by simp)
          have g0 := HF8.out.hx.frozen 0
          have g1 := HF8.out.hx.frozen 1
          have hdummy := True.intro
          go_wp2_with fail
          obtain ⟨W, hW, ⟨e0, e1⟩, hdn, hol⟩ := fd_end HW0.out HB1.out HZ.out HSE.out hs1l HD.out HB3.out HF8.out
          rw [hW]
          exact bodyPost_ret (v := .tuple #[.agg #[.slice a0 n.nodes.length k0, .slice a1 n.pipes.length k1], .slice (some ⟨g, 0, none⟩) zs.length pc]) (by simp [results, Try.results56, go_sem, e0, e1]) rfl ⟨_, _, _, _, _, rfl, hdn, hol, by have := HZK.out; simp; omega⟩
        · have hz0I : ¬ (0 < (zs.length : Int)) := by omega
          have c0 := HF6.out.hn.cell 0 (by simp)
          have c1 := HF6.out.hn.cell 1 (by simp)
          simp only [List.getElem_toArray, List.getElem_cons_zero, List.getElem_cons_succ] at c0 c1
          have q0 := HF6.out.hx.cell 0 (by simp)
          have q1 := HF6.out.hx.cell 1 (by simp)
          have g0 := HF6.out.hx.frozen 0
          have g1 := HF6.out.hx.frozen 1
          have hdummy := True.intro
          go_wp2_with fail
          obtain ⟨W, hW, ⟨e0, e1⟩, hdn, hol⟩ := fd_end HW0.out HB1.out HZ.out HSE.out hs1l HD.out HB3.out HF6.out
          rw [hW]
          exact bodyPost_ret (v := .tuple #[.agg #[.slice a0 n.nodes.length k0, .slice a1 n.pipes.length k1], .slice pa zs.length pc]) (by simp [results, Try.results56, go_sem, e0, e1]) rfl ⟨_, _, _, _, _, rfl, hdn, hol, by have := HZK.out; omega⟩
      have htb1 : (t == 1) = false := by simpa using ht1
      clear ht1
      have c0 := HF6.out.hn.cell 0 (by simp)
      have c1 := HF6.out.hn.cell 1 (by simp)
      simp only [List.getElem_toArray, List.getElem_cons_zero, List.getElem_cons_succ] at c0 c1
      have q0 := HF6.out.hx.cell 0 (by simp)
      have q1 := HF6.out.hx.cell 1 (by simp)
      have g0 := HF6.out.hx.frozen 0
      have g1 := HF6.out.hx.frozen 1
      have hdummy := True.intro
      go_wp2_with fail
      obtain ⟨W, hW, ⟨e0, e1⟩, hdn, hol⟩ := fd_end HW0.out HB1.out HZ.out HSE.out hs1l HD.out HB3.out HF6.out
      rw [hW]
      exact bodyPost_ret (v := .tuple #[.agg #[.slice a0 n.nodes.length k0, .slice a1 n.pipes.length k1], .slice pa zs.length pc]) (by simp [results, Try.results56, go_sem, e0, e1]) rfl ⟨_, _, _, _, _, rfl, hdn, hol, by have := HZK.out; omega⟩

end Go.Proofs.Ytdapdaadglaoiaa
