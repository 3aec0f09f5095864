/- l02Draw: some network, each slice in a block of its own. -/
import Derived.Test.YtdapdaadglaoiaaDrN
namespace Go.Proofs.Ytdapdaadglaoiaa
open Go.RowKit

theorem rows_one {α : Type} {en : α → List Value} {sz : Nat} {w : World} {b : Nat} {x : α} {T : TypeId} (h : Blk w b (en x).toArray T) : RowsAt en sz w (.slice (some ⟨b, 0, none⟩) 1 1) [x] := by
  refine ⟨by simp, _, _, rfl, .inr ⟨b, 0, rfl, h.lt, fun i hi => ?_⟩⟩
  obtain rfl : i = 0 := by simpa using hi
  intro j hj
  have hj' : j < (en x).length := by simpa using hj
  have := h.cell j (by simpa using hj')
  simpa using this
theorem Kept.trans' {X Z : Nat → Prop} {a b c : World} (h : Kept X a b) (k : Kept Z b c) (hz : ∀ j, Z j → X j ∨ a.heap.size ≤ j) : Kept X a c :=
  ⟨k.os.trans h.os, k.tape.trans h.tape, k.output.trans h.output, Nat.le_trans h.size k.size, fun j hj hx => (k.block j (Nat.lt_of_lt_of_le hj h.size) (fun hz' => (hz j hz').elim hx (fun h => by omega))).trans (h.block j hj hx)⟩
/-- What l02Draw has drawn: nodes and pipes, each in a block of its own (or none). -/
structure Drn (B : Nat) (W : World) (nv pv : Value) (n : Net) : Prop where
  hn : OwnR encN 3 71 B W nv n.nodes
  hp : OwnR encP 5 73 B W pv n.pipes
  ap : ∀ b, nv.ownBlock = some b → pv.ownBlock ≠ some b
  ok : ∀ x ∈ n.nodes, x.name.size ≤ 100
theorem Drn.kept {B : Nat} {X : Nat → Prop} {w w' : World} {nv pv : Value} {n : Net} (h : Drn B w nv pv n) (hk : Kept X w w') (hX : ∀ b, B ≤ b → ¬ X b) : Drn B w' nv pv n :=
  ⟨h.hn.kept hk (fun b hb => hX b (h.hn.lt b hb).1), h.hp.kept hk (fun b hb => hX b (h.hp.lt b hb).1), h.ap, h.ok⟩
theorem Drn.below {B : Nat} {w w' : World} {nv pv : Value} {n : Net} (h : Drn B w nv pv n) (hb : Below w.heap.size w w') : Drn B w' nv pv n := ⟨h.hn.below hb, h.hp.below hb, h.ap, h.ok⟩
theorem Drn.lower {B B' : Nat} {w : World} {nv pv : Value} {n : Net} (h : Drn B w nv pv n) (hB : B' ≤ B) : Drn B' w nv pv n := ⟨h.hn.lower hB, h.hp.lower hB, h.ap, h.ok⟩
theorem Drn.apart {B : Nat} {w : World} {nv pv : Value} {n : Net} (h : Drn B w nv pv n) (h1 : n.nodes.length ≤ 1000) (h2 : n.pipes.length ≤ 1000) : NetApart B w.heap.size w nv pv n ∧ CapOk nv ∧ CapOk pv := by
  obtain ⟨r1, q1⟩ := h.hn.rows lenN (by omega)
  obtain ⟨r2, q2⟩ := h.hp.rows lenP (by omega)
  exact ⟨⟨_, _, fun b hb => hb.2, fun b hb => hb.2, fun b hb hb' => h.ap b hb.1 hb'.1, r1, fun x hx => by have := h.ok x hx; omega, r2⟩, q1, q2⟩
/-- One node more, one pipe more. -/
theorem Drn.addN {B : Nat} {w2 w3 : World} {nv pv v3 : Value} {n : Net} {x : Nd} {o : Obj} (h : Drn B w2 nv pv n) (hx : x.name.size ≤ 100) (h3 : OwnR encN 3 71 B w3 v3 (n.nodes ++ [x])) (k3 : Kept (fun b => nv.ownBlock = some b) (w2.alloc o) w3)
    (b3 : v3.ownBlock = nv.ownBlock ∨ v3.ownBlock = some (w2.heap.size + 1)) : Drn B w3 v3 pv ⟨n.nodes ++ [x], n.pipes⟩ :=
  ⟨h3, (h.hp.below (below_new w2 o)).kept k3 (fun b hb hb' => h.ap b hb' hb), fun b hb hb' => by
    rcases b3 with e | e
    · exact h.ap b (by rw [← e]; exact hb) hb'
    · rw [e] at hb
      have := (h.hp.lt b hb').2
      simp at hb
      omega, fun y hy => by
    rcases List.mem_append.1 hy with h1 | h1
    · exact h.ok y h1
    · simp at h1; subst h1; exact hx⟩
theorem Drn.addP {B : Nat} {w2 w3 : World} {nv pv v3 : Value} {n : Net} {x : Pp} {o : Obj} (h : Drn B w2 nv pv n) (h3 : OwnR encP 5 73 B w3 v3 (n.pipes ++ [x])) (k3 : Kept (fun b => pv.ownBlock = some b) (w2.alloc o) w3)
    (b3 : v3.ownBlock = pv.ownBlock ∨ v3.ownBlock = some (w2.heap.size + 1)) : Drn B w3 nv v3 ⟨n.nodes, n.pipes ++ [x]⟩ :=
  ⟨(h.hn.below (below_new w2 o)).kept k3 (fun b hb hb' => h.ap b hb hb'), h3, fun b hb hb' => by
    rcases b3 with e | e
    · exact h.ap b hb (by rw [← e]; exact hb')
    · rw [e] at hb'
      have := (h.hn.lt b hb).2
      simp at hb'
      omega, h.ok⟩
theorem net_end {w wr : World} {s : Nat} {nv pv : Value} {n : Net} (hb : Blk wr w.heap.size #[.slice none 0 0, .slice none 0 0] 27) (hk : Kept (· = s) w wr) (hs : Src 126 wr s) (hlt : s < w.heap.size) (hd : Drn (w.heap.size + 1) wr nv pv n) :
    ∃ W, ((wr.setCell ⟨w.heap.size, 0, none⟩ nv).setCell ⟨w.heap.size, 1, none⟩ pv) = W ∧ (W.cell? ⟨w.heap.size, 0, none⟩ = some nv ∧ W.cell? ⟨w.heap.size, 1, none⟩ = some pv) ∧ Drn (w.heap.size + 1) W nv pv n ∧ Src 126 W s ∧ Kept (· = s) w W := by
  have hb5 := (hb.set 0 nv).set 1 pv
  have e0 := hb5.cell 0 (by simp)
  have e1 := hb5.cell 1 (by simp)
  simp at e0 e1
  have hk2 := ((Kept.refl (· = w.heap.size) wr).setCell (p := ⟨w.heap.size, 0, none⟩) rfl nv).setCell (p := ⟨w.heap.size, 1, none⟩) rfl pv
  exact ⟨_, rfl, ⟨e0, e1⟩, hd.kept hk2 (fun b hb => by omega), hs.kept hk2 (fun k h => by omega), (hk.setNew (p := ⟨w.heap.size, 0, none⟩) (Nat.le_refl _) _).setNew (p := ⟨w.heap.size, 1, none⟩) (Nat.le_refl _) _⟩
def DrRel (w : World) (s : Nat) (C : Nat) (i nv pv : Value) (wr : World) : Prop :=
  ∃ (k : Nat) (n : Net), i = .int .i64 k ∧ k ≤ C ∧ Drn (w.heap.size + 1) wr nv pv n ∧ n.nodes.length = k ∧ n.pipes.length ≤ k ∧ Src 126 wr s ∧ Kept (· = s) w wr ∧ Blk wr w.heap.size #[.slice none 0 0, .slice none 0 0] 27
def DsRel (w : World) (s : Nat) (nv : Value) (xs : List Nd) (i pv : Value) (wr : World) : Prop :=
  ∃ (k : Nat) (n : Net), i = .int .i64 k ∧ k ≤ 2 ∧ Drn (w.heap.size + 1) wr nv pv n ∧ n.nodes = xs ∧ n.pipes.length + k ≤ 9 ∧ Src 126 wr s ∧ Kept (· = s) w wr ∧ Blk wr w.heap.size #[.slice none 0 0, .slice none 0 0] 27

set_option maxHeartbeats 1000000 in
set_option maxRecDepth 100000 in
theorem l02Draw_any (s : Nat) (w : World) (h : Src 126 w s) :
    Calls Try.prog 151 #[.pointer (some ⟨s, 0, none⟩)] w fun e w' =>
      ∃ nv pv n, e = .returned (.agg #[nv, pv]) ∧ Drn (w.heap.size + 1) w' nv pv n ∧ 1 ≤ n.nodes.length ∧ n.nodes.length ≤ 7 ∧ n.pipes.length ≤ 9 ∧ Src 126 w' s ∧ Kept (· = s) w w' := by
  have hlt := h.lt
  have hW0 := (Kept.refl (· = s) w).alloc (.cells #[.slice none 0 0, .slice none 0 0] 27)
  have hbx := Blk.new w #[.slice none 0 0, .slice none 0 0] 27
  have h := h.alloc (.cells #[.slice none 0 0, .slice none 0 0] 27)
  go_enter Try.func151, Try.ntmps151
  go_wp2_with fail
  refine (l01Next_any s 7 _ (by omega) (by omega) h).mono ?_
  rintro e w1 ⟨r, rfl, r0, r1, hs1, hk1⟩
  obtain ⟨C, rfl⟩ : ∃ C : Nat, r = C := ⟨r.toNat, by omega⟩
  have hC7 : C ≤ 6 := by omega
  have HK1 := hid (hW0.trans hk1)
  have HX1 := hid (hbx.kept hk1 (by omega))
  have HS1 := hid hs1
  have z1 := HX1.out.lt
  clear hW0 hbx hk1 h hs1 r0 r1
  go_wp2_with fail
  go_loopw [6, 4, 5] (fun i nv pv wr => DrRel w s (C + 1) i nv pv wr) (fun i _ _ _ => C + 1 - (intOf i).toNat)
  case atStart =>
    refine ⟨0, ⟨[], []⟩, rfl, by omega, ⟨OwnR.lit encN 3 ?_ ?_, OwnR.lit encP 5 ?_ ?_, fun b hb => ?_, by simp⟩, rfl, by simp, (HS1.out.alloc _).alloc _, (HK1.out.alloc _).alloc _, (HX1.out.below (below_new _ _)).below (below_new _ _)⟩
    · exact (Below.heap_alloc _ _ _ (by simp)).trans (heap_at2 _ _ _ rfl)
    · omega
    · exact heap_at2 _ _ _ (by simp)
    · omega
    · simp [Value.ownBlock] at hb ⊢; omega
  case round =>
    clear HK1 HX1 HS1
    obtain ⟨k, n, rfl, hk, hd, hn, hp, hs, hkk, hx⟩ := hrel
    have hw : w.heap.size < wr.heap.size := hx.lt
    by_cases hlt2 : k < C + 1
    · have hkI : (k : Int) < 1 + (C : Int) := by omega
      have HD := hid hd
      have HK := hid hkk
      have HX := hid hx
      clear hd hkk hx
      go_wp2_with fail
      refine (l02DrawNode_any s k _ (by omega) (by omega) hs).mono ?_
      rintro e w2 ⟨x, rfl, hx0, hs2, hk2⟩
      have HD2 := hid (HD.out.kept hk2 (fun b hb => by omega))
      have HK2 := hid (HK.out.trans hk2)
      have HX2 := hid (HX.out.kept hk2 (by omega))
      have z2 := hk2.size
      clear HD HK HX hk2
      go_wp2_with (at_builtin; refine wpList_appN rfl (.tmp 19) (.tmp 23) rfl (w.heap.size + 1) u4 (.slice (some ⟨w2.heap.size, 0, none⟩) 1 1) n.nodes [x] rfl rfl ?c1 ?c2 ?c3 ?c4 ?_)
      case c1 => exact HD2.out.hn.below (below_new _ _)
      case c2 => exact rows_one (Blk.new w2 (encN x).toArray 71)
      case c3 => simp; omega
      case c4 => simp; omega
      intro v3 w3 h3 k3 b3
      have hlo := HD2.out.hn.lt
      have HD3 := hid (HD2.out.addN hx0 h3 k3 b3)
      have hs3 := (hs2.alloc (.cells (encN x).toArray 71)).kept k3 (fun j hj => by have := (hlo j hj).1; omega)
      have HK3 := hid ((HK2.out.alloc (.cells (encN x).toArray 71)).trans' k3 (fun j hj => Or.inr (by have := (hlo j hj).1; omega)))
      have HX3 := hid ((HX2.out.below (below_new _ (.cells (encN x).toArray 71))).kept k3 (fun hj => by have := (hlo _ hj).1; omega))
      have hl3 : (n.nodes ++ [x]).length = k + 1 := by simp; omega
      clear HD2 HK2 HX2 h3 k3 b3 hlo
      have ROUND : Hid (∀ (v : Value) (W : World) (m : Net), Drn (w.heap.size + 1) W v3 v m → m.nodes.length = k + 1 → m.pipes.length ≤ k + 1 → Src 126 W s → Kept (· = s) w W → Blk W w.heap.size #[.slice none 0 0, .slice none 0 0] 27 → DrRel w s (C + 1) (.int .i64 ((k : Int) + 1)) v3 v W) :=
        fun v W m h1 h2 h3 h4 h5 h6 => ⟨k + 1, m, by go_num, by omega, h1, h2, h3, h4, h5, h6⟩
      by_cases hk0 : k = 0
      · subst hk0
        have hk0 : ¬ (0 < ((0 : Nat) : Int)) := by omega
        go_wp2_with fail
        go_roundw
        case rel => exact ROUND.out _ _ _ HD3.out hl3 (by simp only; omega) hs3 HK3.out HX3.out
        case measure => first | (simp [intOf]; done) | (simp [intOf]; omega)
      have hk0' : 0 < (k : Int) := by omega
      go_wp2_with fail
      refine (l01Next_any s 16 _ (by omega) (by omega) hs3).mono ?_
      rintro e w4 ⟨q, rfl, q0, q1, hs4, hk4⟩
      have HD4 := hid (HD3.out.kept hk4 (fun b hb => by omega))
      have HK4 := hid (HK3.out.trans hk4)
      have HX4 := hid (HX3.out.kept hk4 (by omega))
      clear HD3 HK3 HX3 hk4
      by_cases hq : 0 < q
      case neg =>
        go_wp2_with fail
        go_roundw
        case rel => exact ROUND.out _ _ _ HD4.out hl3 (by simp only; omega) hs4 HK4.out HX4.out
        case measure => simp [intOf]; omega
      go_wp2_with fail
      refine (l01Next_gen s k _ (by omega) hs4).mono ?_
      rintro e w5 ⟨y, rfl, y0, y1, hs5, hk5⟩
      have HD5 := hid (HD4.out.kept hk5 (fun b hb => by omega))
      have HK5 := hid (HK4.out.trans hk5)
      have HX5 := hid (HX4.out.kept hk5 (by omega))
      clear HD4 HK4 HX4 hk5
      go_wp2_with fail
      refine (l02DrawPipe_any s y k _ hs5).mono ?_
      rintro e w6 ⟨p, rfl, hs6, hk6⟩
      have HD6 := hid (HD5.out.kept hk6 (fun b hb => by omega))
      have HK6 := hid (HK5.out.trans hk6)
      have HX6 := hid (HX5.out.kept hk6 (by omega))
      have z6 := HX6.out.lt
      clear HD5 HK5 HX5 hk6
      go_wp2_with (at_builtin; refine wpList_appP rfl (.tmp 32) (.tmp 39) rfl (w.heap.size + 1) u5 (.slice (some ⟨w6.heap.size, 0, none⟩) 1 1) n.pipes [p] rfl rfl ?c1 ?c2 ?c3 ?c4 ?_)
      case c1 => exact HD6.out.hp.below (below_new _ _)
      case c2 => exact rows_one (Blk.new w6 (encP p).toArray 73)
      case c3 => simp; omega
      case c4 => simp; omega
      intro v7 w7 h7 k7 b7
      have hlo := HD6.out.hp.lt
      have HD7 := hid (HD6.out.addP h7 k7 b7)
      have hs7 := (hs6.alloc (.cells (encP p).toArray 73)).kept k7 (fun j hj => by have := (hlo j hj).1; omega)
      have HK7 := hid ((HK6.out.alloc (.cells (encP p).toArray 73)).trans' k7 (fun j hj => Or.inr (by have := (hlo j hj).1; omega)))
      have HX7 := hid ((HX6.out.below (below_new _ (.cells (encP p).toArray 73))).kept k7 (fun hj => by have := (hlo _ hj).1; omega))
      clear HD6 HK6 HX6 h7 k7 b7 hlo
      go_wp2_with fail
      go_roundw
      case rel => exact ROUND.out _ _ _ HD7.out hl3 (by simp; omega) hs7 HK7.out HX7.out
      case measure => simp [intOf]; omega
    · obtain rfl : k = C + 1 := by omega
      have hkI : ¬ (((C + 1 : Nat) : Int) < 1 + (C : Int)) := by omega
      have HD := hid hd
      have HK := hid hkk
      have HX := hid hx
      clear hd hkk hx
      go_wp2_with fail
      refine (l01Next_any s 3 _ (by omega) (by omega) hs).mono ?_
      rintro e w2 ⟨t, rfl, t0, t1, hs2, hk2⟩
      obtain ⟨T, rfl⟩ : ∃ T : Nat, t = T := ⟨t.toNat, by omega⟩
      have HD2 := hid (HD.out.kept hk2 (fun b hb => by omega))
      have HK2 := hid (HK.out.trans hk2)
      have HX2 := hid (HX.out.kept hk2 (by omega))
      have HS2 := hid hs2
      clear HD HK HX hk2 hs hs2
      have hT : T ≤ 2 := by omega
      go_wp2_with fail
      go_loopw [7, 5] (fun i pv wr => DsRel w s u4 n.nodes i pv wr) (fun i _ _ => (intOf i).toNat)
      case atStart => exact ⟨T, n, rfl, hT, HD2.out, rfl, by omega, HS2.out, HK2.out, HX2.out⟩
      case round =>
        clear HD2 HK2 HX2 HS2 hT t0 t1
        obtain ⟨j, m, rfl, hj, hd, hmn, hp2, hs, hkk, hx⟩ := hrel
        have hw2 : w.heap.size < wr.heap.size := hx.lt
        have hml : Hid (m.nodes.length = C + 1) := by rw [hmn]; exact hn
        have HD := hid hd
        have HK := hid hkk
        have HX := hid hx
        have HM := hid hmn
        clear hd hkk hx hmn
        have c0 := HX.out.cell 0 (by simp)
        have c1 := HX.out.cell 1 (by simp)
        have f0 := HX.out.frozen 0
        have f1 := HX.out.frozen 1
        obtain ⟨an, cn, hne, _⟩ := HD.out.hn.shape lenN
        obtain ⟨ap, cp, hpe, _⟩ := HD.out.hp.shape lenP
        by_cases hj0 : 0 < j
        case neg =>
          obtain rfl : j = 0 := by omega
          have hj0 : ¬ (0 < ((0 : Nat) : Int)) := by omega
          subst hne hpe
          go_wp2_with fail
          obtain ⟨W, hW, ⟨e0, e1⟩, hd5, hs5, hk5⟩ := net_end HX.out HK.out hs hlt HD.out
          rw [hW]
          have hml := hml.out
          exact bodyPost_ret (v := .agg #[.slice an m.nodes.length cn, .slice ap m.pipes.length cp]) (by simp [results, Try.results151, go_sem, e0, e1]) rfl ⟨_, _, rfl, m, hd5, by omega, by omega, by omega, hs5, hk5⟩
        have hj0' : 0 < (j : Int) := by omega
        by_cases hC0 : C = 0
        · subst hC0
          have hc : ¬ (1 < (1 + ((0 : Nat) : Int))) := by omega
          subst hne hpe
          go_wp2_with fail
          obtain ⟨W, hW, ⟨e0, e1⟩, hd5, hs5, hk5⟩ := net_end HX.out HK.out hs hlt HD.out
          rw [hW]
          have hml := hml.out
          exact bodyPost_ret (v := .agg #[.slice an m.nodes.length cn, .slice ap m.pipes.length cp]) (by simp [results, Try.results151, go_sem, e0, e1]) rfl ⟨_, _, rfl, m, hd5, by omega, by omega, by omega, hs5, hk5⟩
        have hc : 1 < 1 + (C : Int) := by omega
        clear c0 c1 f0 f1 hne hpe
        go_wp2_with fail
        refine (l01Next_any s (1 + (C : Int)) _ (by omega) (by omega) hs).mono ?_
        rintro e w3 ⟨a, rfl, a0, a1, hs3, hk3⟩
        have HD3 := hid (HD.out.kept hk3 (fun b hb => by omega))
        have HK3 := hid (HK.out.trans hk3)
        have HX3 := hid (HX.out.kept hk3 (by omega))
        clear HD HK HX hk3
        go_wp2_with fail
        refine (l01Next_gen s (1 + (C : Int) - 1) _ (by omega) hs3).mono ?_
        rintro e w4 ⟨b, rfl, b0, b1, hs4, hk4⟩
        have HD4 := hid (HD3.out.kept hk4 (fun b hb => by omega))
        have HK4 := hid (HK3.out.trans hk4)
        have HX4 := hid (HX3.out.kept hk4 (by omega))
        clear HD3 HK3 HX3 hk4
        go_wp2_with fail
        refine (l02DrawPipe_any s a _ _ hs4).mono ?_
        rintro e w6 ⟨p, rfl, hs6, hk6⟩
        have HD6 := hid (HD4.out.kept hk6 (fun b hb => by omega))
        have HK6 := hid (HK4.out.trans hk6)
        have HX6 := hid (HX4.out.kept hk6 (by omega))
        have z6 := HX6.out.lt
        clear HD4 HK4 HX4 hk6
        go_wp2_with (at_builtin; refine wpList_appP rfl (.tmp 54) (.tmp 67) rfl (w.heap.size + 1) u5 (.slice (some ⟨w6.heap.size, 0, none⟩) 1 1) m.pipes [p] rfl rfl ?c1 ?c2 ?c3 ?c4 ?_)
        case c1 => exact HD6.out.hp.below (below_new _ _)
        case c2 => exact rows_one (Blk.new w6 (encP p).toArray 73)
        case c3 => simp; omega
        case c4 => simp; omega
        intro v7 w7 h7 k7 b7
        have hlo := HD6.out.hp.lt
        have HD7 := hid (HD6.out.addP h7 k7 b7)
        have hs7 := (hs6.alloc (.cells (encP p).toArray 73)).kept k7 (fun j hj => by have := (hlo j hj).1; omega)
        have HK7 := hid ((HK6.out.alloc (.cells (encP p).toArray 73)).trans' k7 (fun j hj => Or.inr (by have := (hlo j hj).1; omega)))
        have HX7 := hid ((HX6.out.below (below_new _ (.cells (encP p).toArray 73))).kept k7 (fun hj => by have := (hlo _ hj).1; omega))
        clear HD6 HK6 HX6 h7 k7 b7 hlo
        go_wp2_with fail
        go_roundw
        case rel => exact ⟨j - 1, _, by go_num, by omega, HD7.out, HM.out, by simp; omega, hs7, HK7.out, HX7.out⟩
        case measure => simp [intOf]; omega

end Go.Proofs.Ytdapdaadglaoiaa
