/- l02DrawAny: some network; l02DrawIndex: some index. -/
import Derived.Test.YtdbgncinaacheaaGreatDoorDrW
import Derived.Test.YtdbgncinaacheaaGreatDoorTurn
namespace Go.Proofs.YtdbgncinaacheaaGreatDoor
open Go.RowKit

/-- What a draw of a network hands back. -/
structure Dnet (w W : World) (s : Nat) (nv pv : Value) (n : Net) : Prop where
  ap : NetApart (w.heap.size + 1) W.heap.size W nv pv n
  c1 : CapOk nv
  c2 : CapOk pv
  l1 : n.nodes.length ≤ 7
  l2 : n.pipes.length ≤ 10
  src : Src 70 W s
  kp : Kept (· = s) w W
theorem Drn.kept_ne {B : Nat} {X : Nat → Prop} {w w' : World} {nv pv : Value} {n : Net} (h : Drn B w nv pv n) (hk : Kept X w w') (h1 : ∀ b, nv.ownBlock = some b → ¬ X b) (h2 : ∀ b, pv.ownBlock = some b → ¬ X b) : Drn B w' nv pv n :=
  ⟨h.hn.kept hk h1, h.hp.kept hk h2, h.ap, h.ok⟩
theorem Drn.dnet {w W : World} {s : Nat} {nv pv : Value} {n : Net} (h : Drn (w.heap.size + 1) W nv pv n) (l1 : n.nodes.length ≤ 7) (l2 : n.pipes.length ≤ 10) (hs : Src 70 W s) (hk : Kept (· = s) w W) : Dnet w W s nv pv n := by
  obtain ⟨h1, h2, h3⟩ := h.apart (by omega) (by omega)
  exact ⟨h1, h2, h3, l1, l2, hs, hk⟩
theorem RowsOwn.setHigh {X : Nat → Prop} {w : World} {b off n cap : Nat} {xs : List Nd} (h : RowsOwn encN 3 X w (.slice (some ⟨b, off, none⟩) n cap) xs) (i : Nat) (hi : i < xs.length) (z : Int) :
    RowsOwn encN 3 X (w.setCell ⟨b, off + i * 3 + 2, none⟩ (.int .i64 z)) (.slice (some ⟨b, off, none⟩) n cap) (xs.set i ⟨xs[i].name, xs[i].low, z⟩) := by
  obtain ⟨b', off', ha, hl, hx, hfr, hcc⟩ := h.at' (by omega)
  simp only [Option.some.injEq, Addr.mk.injEq, and_true] at ha
  obtain ⟨rfl, rfl⟩ := ha
  obtain ⟨c0, c1, c2⟩ := cellsN (hcc i hi)
  refine h.set_of (fun _ => rfl) i hi _ (cellsN_mk ?_ ?_ ?_) (fun o ho => ?_) (fun o => by simp) (by simp)
  · rw [cell_set_ne (by omega)]; exact c0
  · rw [cell_set_ne (by omega)]; exact c1
  · rw [cell_set_same c2]
  · rw [cell_set_ne (by omega)]
theorem RowsOwn.setK {X : Nat → Prop} {w : World} {b off n cap : Nat} {xs : List Pp} (h : RowsOwn encP 5 X w (.slice (some ⟨b, off, none⟩) n cap) xs) (i : Nat) (hi : i < xs.length) (z : Int) :
    RowsOwn encP 5 X (w.setCell ⟨b, off + i * 5 + 2, none⟩ (.int .i64 z)) (.slice (some ⟨b, off, none⟩) n cap) (xs.set i ⟨xs[i].fr, xs[i].to, z, xs[i].vol, xs[i].lim⟩) := by
  obtain ⟨b', off', ha, hl, hx, hfr, hcc⟩ := h.at' (by omega)
  simp only [Option.some.injEq, Addr.mk.injEq, and_true] at ha
  obtain ⟨rfl, rfl⟩ := ha
  obtain ⟨c0, c1, c2, c3, c4⟩ := cellsP (hcc i hi)
  refine h.set_of (fun _ => rfl) i hi _ (cellsP_mk ?_ ?_ ?_ ?_ ?_) (fun o ho => ?_) (fun o => by simp) (by simp)
  · rw [cell_set_ne (by omega)]; exact c0
  · rw [cell_set_ne (by omega)]; exact c1
  · rw [cell_set_same c2]
  · rw [cell_set_ne (by omega)]; exact c3
  · rw [cell_set_ne (by omega)]; exact c4
  · rw [cell_set_ne (by omega)]
theorem RowsOwn.setLim {X : Nat → Prop} {w : World} {b off n cap : Nat} {xs : List Pp} (h : RowsOwn encP 5 X w (.slice (some ⟨b, off, none⟩) n cap) xs) (i : Nat) (hi : i < xs.length) (z : Int) :
    RowsOwn encP 5 X (w.setCell ⟨b, off + i * 5 + 4, none⟩ (.int .i64 z)) (.slice (some ⟨b, off, none⟩) n cap) (xs.set i ⟨xs[i].fr, xs[i].to, xs[i].k, xs[i].vol, z⟩) := by
  obtain ⟨b', off', ha, hl, hx, hfr, hcc⟩ := h.at' (by omega)
  simp only [Option.some.injEq, Addr.mk.injEq, and_true] at ha
  obtain ⟨rfl, rfl⟩ := ha
  obtain ⟨c0, c1, c2, c3, c4⟩ := cellsP (hcc i hi)
  refine h.set_of (fun _ => rfl) i hi _ (cellsP_mk ?_ ?_ ?_ ?_ ?_) (fun o ho => ?_) (fun o => by simp) (by simp)
  · rw [cell_set_ne (by omega)]; exact c0
  · rw [cell_set_ne (by omega)]; exact c1
  · rw [cell_set_ne (by omega)]; exact c2
  · rw [cell_set_ne (by omega)]; exact c3
  · rw [cell_set_same c4]
  · rw [cell_set_ne (by omega)]
/-- A field of a node or a pipe stored. -/
theorem Drn.stN {w W : World} {s gn cn o : Nat} {u : Value} {pv : Value} {n : Net} {xs : List Nd} (h : Drn (w.heap.size + 1) W (.slice (some ⟨gn, 0, none⟩) n.nodes.length cn) pv n) (hlt : s < w.heap.size)
    (hr : ∀ X, RowsOwn encN 3 X W (.slice (some ⟨gn, 0, none⟩) n.nodes.length cn) n.nodes → RowsOwn encN 3 X (W.setCell ⟨gn, o, none⟩ u) (.slice (some ⟨gn, 0, none⟩) n.nodes.length cn) xs) (hok : ∀ x ∈ xs, x.name.size ≤ 100) (hxl : xs.length = n.nodes.length)
    (l1 : n.nodes.length ≤ 7) (l2 : n.pipes.length ≤ 10) (hs : Src 70 W s) (hk : Kept (· = s) w W) : Dnet w (W.setCell ⟨gn, o, none⟩ u) s (.slice (some ⟨gn, 0, none⟩) n.nodes.length cn) pv ⟨xs, n.pipes⟩ := by
  obtain ⟨r1, q1⟩ := h.hn.rows lenN (by omega)
  obtain ⟨r2, q2⟩ := h.hp.rows lenP (by omega)
  have hk8 := (Kept.refl (· = gn) W).setCell (p := ⟨gn, o, none⟩) rfl u
  have hg := h.hn.lt gn rfl
  refine ⟨⟨_, _, fun b hb => by simpa using hb.2, fun b hb => by simpa using hb.2, fun b hb hb' => h.ap b hb.1 hb'.1, hr _ r1, fun x hx => by have := hok x hx; omega, r2.kept hk8 (fun b _ hb e => h.ap gn rfl (by rw [← e]; exact hb.1))⟩, q1, q2, by simp only [hxl]; exact l1, l2, hs.kept hk8 (fun k e => by omega), hk.setNew (by simp only; omega) u⟩
theorem Drn.stP {w W : World} {s gp cp o : Nat} {u : Value} {nv : Value} {n : Net} {xs : List Pp} (h : Drn (w.heap.size + 1) W nv (.slice (some ⟨gp, 0, none⟩) n.pipes.length cp) n) (hlt : s < w.heap.size)
    (hr : ∀ X, RowsOwn encP 5 X W (.slice (some ⟨gp, 0, none⟩) n.pipes.length cp) n.pipes → RowsOwn encP 5 X (W.setCell ⟨gp, o, none⟩ u) (.slice (some ⟨gp, 0, none⟩) n.pipes.length cp) xs) (hxl : xs.length = n.pipes.length)
    (l1 : n.nodes.length ≤ 7) (l2 : n.pipes.length ≤ 10) (hs : Src 70 W s) (hk : Kept (· = s) w W) : Dnet w (W.setCell ⟨gp, o, none⟩ u) s nv (.slice (some ⟨gp, 0, none⟩) n.pipes.length cp) ⟨n.nodes, xs⟩ := by
  obtain ⟨r1, q1⟩ := h.hn.rows lenN (by omega)
  obtain ⟨r2, q2⟩ := h.hp.rows lenP (by omega)
  have hk8 := (Kept.refl (· = gp) W).setCell (p := ⟨gp, o, none⟩) rfl u
  have hg := h.hp.lt gp rfl
  refine ⟨⟨_, _, fun b hb => by simpa using hb.2, fun b hb => by simpa using hb.2, fun b hb hb' => h.ap b hb.1 hb'.1, r1.kept hk8 (fun b _ hb e => h.ap gp (by rw [← e]; exact hb.1) rfl), fun x hx => by have := h.ok x hx; omega, hr _ r2⟩, q1, q2, l1, by simp only [hxl]; exact l2, hs.kept hk8 (fun k e => by omega), hk.setNew (by simp only; omega) u⟩
theorem Kept.frozen {X : Nat → Prop} {w w' : World} (h : Kept X w w') {p : Addr} (hb : p.block < w.heap.size) (hp : ¬ X p.block) : w'.frozen? p = w.frozen? p := by
  have := h.block p.block hb hp
  simp only [World.frozen?, this]
theorem strs_mem {z : Value} (h : z ∈ [Value.string ⟨#[]⟩, .string ⟨#[110, 48]⟩, .string ⟨#[110, 105, 110, 101, 99, 104, 97, 114, 115]⟩, .string ⟨#[101, 105, 103, 104, 116, 99, 104, 97]⟩, .string ⟨#[78]⟩]) : ∃ b : ByteArray, z = .string b ∧ b.size ≤ 100 := by
  simp only [List.mem_cons, List.not_mem_nil, or_false] at h
  rcases h with rfl | rfl | rfl | rfl | rfl <;> exact ⟨_, rfl, by simp [ByteArray.size]⟩
/-- One of the values of a literal. -/
theorem vals_at (w : World) (L : List Value) (T : TypeId) (q : Int) (q0 : 0 ≤ q) (hq : q < L.length) : ∃ z, (w.alloc (.cells L.toArray T)).cell? ⟨w.heap.size, q.toNat, none⟩ = some z ∧ z ∈ L := by
  have hq' : q.toNat < L.length := by omega
  refine ⟨L[q.toNat], ?_, List.getElem_mem hq'⟩
  simp
theorem set_ok {xs : List Nd} {k : Nat} {zb : ByteArray} {a b : Int} (h : ∀ x ∈ xs, x.name.size ≤ 100) (hz : zb.size ≤ 100) : ∀ x ∈ xs.set k ⟨zb, a, b⟩, x.name.size ≤ 100 := fun x hx => by
  rcases List.mem_or_eq_of_mem_set hx with h1 | rfl
  · exact h x h1
  · exact hz
theorem ints4_mem {z : Value} {a b c d : Int} (h : z ∈ [Value.int .i64 a, .int .i64 b, .int .i64 c, .int .i64 d]) : ∃ b : Int, z = .int .i64 b := by
  simp only [List.mem_cons, List.not_mem_nil, or_false] at h
  rcases h with rfl | rfl | rfl | rfl <;> exact ⟨_, rfl⟩
theorem high_ok {xs : List Nd} {k : Nat} {z : Int} (hk : k < xs.length) (h : ∀ x ∈ xs, x.name.size ≤ 100) : ∀ x ∈ xs.set k ⟨xs[k].name, xs[k].low, z⟩, x.name.size ≤ 100 := set_ok h (h _ (List.getElem_mem hk))
theorem ints3_mem {z : Value} {a b c : Int} (h : z ∈ [Value.int .i64 a, .int .i64 b, .int .i64 c]) : ∃ b : Int, z = .int .i64 b := by
  simp only [List.mem_cons, List.not_mem_nil, or_false] at h
  rcases h with rfl | rfl | rfl <;> exact ⟨_, rfl⟩
theorem any_end {w W : World} {s : Nat} {nv pv : Value} {n : Net} (hb : Blk W w.heap.size #[.slice none 0 0, .slice none 0 0] 34) (hlt : s < w.heap.size) (hd : Dnet w W s nv pv n) :
    ∃ W2, ((W.setCell ⟨w.heap.size, 0, none⟩ nv).setCell ⟨w.heap.size, 1, none⟩ pv) = W2 ∧ (W2.cell? ⟨w.heap.size, 0, none⟩ = some nv ∧ W2.cell? ⟨w.heap.size, 1, none⟩ = some pv) ∧ Dnet w W2 s nv pv n := by
  have hb5 := (hb.set 0 nv).set 1 pv
  have e0 := hb5.cell 0 (by simp)
  have e1 := hb5.cell 1 (by simp)
  simp at e0 e1
  have hk2 := ((Kept.refl (· = w.heap.size) W).setCell (p := ⟨w.heap.size, 0, none⟩) rfl nv).setCell (p := ⟨w.heap.size, 1, none⟩) rfl pv
  exact ⟨_, rfl, ⟨e0, e1⟩, by simpa using hd.ap.kept hk2 (fun b hb hb' => by omega), hd.c1, hd.c2, hd.l1, hd.l2, hd.src.kept hk2 (fun k h => by omega), (hd.kp.setNew (p := ⟨w.heap.size, 0, none⟩) (Nat.le_refl _) _).setNew (p := ⟨w.heap.size, 1, none⟩) (Nat.le_refl _) _⟩

set_option maxHeartbeats 2000000 in
set_option maxRecDepth 100000 in
theorem l02DrawAny_any (s : Nat) (w : World) (h : Src 70 w s) :
    Calls Tryz.prog 33 #[.pointer (some ⟨s, 0, none⟩)] w fun e w' => ∃ nv pv n, e = .returned (.agg #[nv, pv]) ∧ Dnet w w' s nv pv n := by
  have hlt := h.lt
  have hW0 := (Kept.refl (· = s) w).alloc (.cells #[.slice none 0 0, .slice none 0 0] 34)
  have hbx := Blk.new w #[.slice none 0 0, .slice none 0 0] 34
  have h := h.alloc (.cells #[.slice none 0 0, .slice none 0 0] 34)
  go_enter Tryz.func33, Tryz.ntmps33
  go_wp2_with fail
  refine (l02Draw_any s _ h).mono ?_
  rintro e w1 ⟨nv, pv, n, rfl, hd, hn1, hn7, hp9, hs1, hk1⟩
  have hd := hd.lower (B' := w.heap.size + 1) (by simp)
  have zz1 := (hbx.kept hk1 (by omega)).lt
  obtain ⟨an, cn, rfl, _, hn0⟩ := hd.hn.shape lenN
  obtain ⟨gn, rfl, hgn, hgn1, hgn2, _⟩ := hn0.resolve_left (fun e => by rw [e] at hn1; simp at hn1)
  obtain ⟨ap, cp, rfl, _, _⟩ := hd.hp.shape lenP
  have hpB1 := fun b hb => (hd.hp.lt b hb).2
  have HD1 := hid (hd.below (below_new w1 (.cells #[.slice (some ⟨gn, 0, none⟩) n.nodes.length cn, .slice ap n.pipes.length cp] 34)))
  have HK1 := hid ((hW0.trans hk1).alloc (.cells #[.slice (some ⟨gn, 0, none⟩) n.nodes.length cn, .slice ap n.pipes.length cp] 34))
  have HX1 := hid ((hbx.kept hk1 (by omega)).below (below_new w1 (.cells #[.slice (some ⟨gn, 0, none⟩) n.nodes.length cn, .slice ap n.pipes.length cp] 34)))
  have HN1 := hid (Blk.new w1 #[.slice (some ⟨gn, 0, none⟩) n.nodes.length cn, .slice ap n.pipes.length cp] 34)
  have hs1 := hs1.alloc (.cells #[.slice (some ⟨gn, 0, none⟩) n.nodes.length cn, .slice ap n.pipes.length cp] 34)
  have hlN : (n.nodes.length : Int) ≤ 7 := by omega
  clear hW0 hbx hk1 h hd
  go_wp2_with fail
  refine (l01Next_gen s n.nodes.length _ (by omega) hs1).mono ?_
  rintro e w2 ⟨k0, rfl, k00, k01, hs2, hk2⟩
  obtain ⟨k, rfl⟩ : ∃ k : Nat, k0 = k := ⟨k0.toNat, by omega⟩
  have hkl : k < n.nodes.length := by omega
  have hklI : (k : Int) < n.nodes.length := by omega
  have HD2 := hid (HD1.out.kept hk2 (fun b hb => by omega))
  have HK2 := hid (HK1.out.trans hk2)
  have HX2 := hid (HX1.out.kept hk2 (by omega))
  have HN2 := hid (HN1.out.kept hk2 (by omega))
  clear HD1 HK1 HX1 HN1 hk2 k01 k00
  go_wp2_with fail
  refine (l01Next_any s 30 _ (by omega) (by omega) hs2).mono ?_
  rintro e w3 ⟨x, rfl, x0, x1, hs3, hk3⟩
  obtain ⟨BN, hBN⟩ : ∃ BN, BN = w1.heap.size := ⟨_, rfl⟩
  rw [← hBN] at HN2 hpB1 ⊢
  have HD3 := hid (HD2.out.kept hk3 (fun b hb => by omega))
  have HK3 := hid (HK2.out.trans hk3)
  have HX3 := hid (HX2.out.kept hk3 (by omega))
  have HN3 := hid (HN2.out.kept hk3 (by omega))
  have HS3 := hid hs3
  have hgB : gn < BN := by omega
  have z3 := HN3.out.lt
  clear HD2 HK2 HX2 HN2 hk3 hs2 hs1 hs3 hBN
  have c0 := HN3.out.cell 0 (by simp)
  have c1 := HN3.out.cell 1 (by simp)
  have f0 := HN3.out.frozen 0
  have f1 := HN3.out.frozen 1
  have r0 := HX3.out.cell 0 (by simp)
  have r1 := HX3.out.cell 1 (by simp)
  have g0 := HX3.out.frozen 0
  have g1 := HX3.out.frozen 1
  have hnB : ∀ b, (Value.slice (some ⟨gn, 0, none⟩) n.nodes.length cn).ownBlock = some b → b < BN := fun b hb => by simp [Value.ownBlock] at hb; omega
  have hBN0 : w.heap.size ≠ BN := by omega
  have hBNs : s < BN := by omega
  have hgw : gn ≠ w.heap.size := by omega
  have hgN : gn ≠ BN := by omega
  by_cases h6 : x = 6
  · subst h6
    have hk8 := (Kept.refl (· = BN) w3).setCell (p := ⟨BN, 0, none⟩) rfl (.slice none 0 0)
    have HD8 := hid (show Drn _ _ (.slice none 0 0) _ ⟨[], n.pipes⟩ from ⟨OwnR.nil _ _ _ _ _, HD3.out.hp.kept hk8 (fun b hb e => by have := hpB1 b hb; omega), fun b hb => by simp [Value.ownBlock] at hb, by simp⟩)
    have HX8 := hid (HX3.out.kept hk8 hBN0)
    have HS8 := hid (HS3.out.kept hk8 (fun k h => by omega))
    have HK8 := hid (HK3.out.setNew (p := ⟨BN, 0, none⟩) (by simp only; omega) (.slice none 0 0))
    clear hk8
    go_wp2_with fail
    obtain ⟨W, hW, ⟨e0, e1⟩, hd5⟩ := any_end (HX8.out) hlt (HD8.out.dnet (by simp) (by simp only; omega) HS8.out HK8.out)
    rw [hW]
    first | exact bodyPost_ret (v := .agg #[.slice none 0 0, .slice ap n.pipes.length cp]) (by simp [results, Tryz.results33, go_sem, e0, e1]) rfl ⟨_, _, _, rfl, hd5⟩ | exact bodyPost_ret (v := .agg #[.slice none 0 0, .slice ap n.pipes.length cp]) (by simp [results, Tryz.results33, go_sem, e0, e1]) rfl ⟨_, _, rfl, _, hd5⟩
  by_cases h2 : x = 2
  · subst h2
    go_wp2_with (at_builtin; refine wpList_appP rfl (.tmp 54) (.tmp 58) rfl (w.heap.size + 1) (.slice ap n.pipes.length cp) (.slice (some ⟨w3.heap.size, 0, none⟩) 1 1) n.pipes [⟨k, k, 1, 0, 1⟩] rfl rfl ?c1 ?c2 ?c3 ?c4 ?_)
    case c1 => exact HD3.out.hp.below (below_new _ _)
    case c2 => exact rows_one (Blk.new w3 (encP ⟨k, k, 1, 0, 1⟩).toArray 54)
    case c3 => simp; omega
    case c4 => simp; omega
    intro v7 w7 h7 k7 b7
    have hlo := HD3.out.hp.lt
    have HD7 := HD3.out.addP h7 k7 b7
    have HS7 := (HS3.out.alloc (.cells (encP ⟨k, k, 1, 0, 1⟩).toArray 54)).kept k7 (fun j hj => by have := (hlo j hj).1; omega)
    have HK7 := (HK3.out.alloc (.cells (encP ⟨k, k, 1, 0, 1⟩).toArray 54)).trans' k7 (fun j hj => Or.inr (by have := (hlo j hj).1; omega))
    have HX7 := (HX3.out.below (below_new _ (.cells (encP ⟨k, k, 1, 0, 1⟩).toArray 54))).kept k7 (fun hj => by have := (hlo _ hj).1; omega)
    have HN7 := (HN3.out.below (below_new _ (.cells (encP ⟨k, k, 1, 0, 1⟩).toArray 54))).kept k7 (fun hj => by have := hpB1 _ hj; omega)
    have hpB7 : ∀ b, v7.ownBlock = some b → ¬ b = BN := fun b hb => by
      rcases b7 with e | e
      · have := hpB1 b (by rw [← e]; exact hb); omega
      · rw [e] at hb; simp at hb; omega
    obtain ⟨a7, c7, hv7, _⟩ := HD7.hp.shape lenP
    simp only [List.length_append, List.length_cons, List.length_nil] at hv7
    subst hv7
    have C1 := HN7.cell 1 (by simp)
    have C0 := HN7.cell 0 (by simp)
    have F1 := HN7.frozen 1
    have R0 := HX7.cell 0 (by simp)
    have R1 := HX7.cell 1 (by simp)
    have G0 := HX7.frozen 0
    have G1 := HX7.frozen 1
    have hk8 := (Kept.refl (· = BN) w7).setCell (p := ⟨BN, 1, none⟩) rfl (.slice a7 (n.pipes.length + (0 + 1)) c7)
    have HD8 := hid (HD7.kept_ne hk8 (fun b hb e => by have := hnB b hb; omega) hpB7)
    have HX8 := hid (HX7.kept hk8 hBN0)
    have HS8 := hid (HS7.kept hk8 (fun k h => by omega))
    have HK8 := hid (HK7.setNew (p := ⟨BN, 1, none⟩) (by simp only; omega) (.slice a7 (n.pipes.length + (0 + 1)) c7))
    clear h7 k7 b7 hlo HD7 HX7 HN7 HS7 HK7 hk8 hpB7
    go_wp2_with fail
    obtain ⟨W, hW, ⟨e0, e1⟩, hd5⟩ := any_end (HX8.out) hlt (HD8.out.dnet hn7 (by simp; omega) HS8.out HK8.out)
    rw [hW]
    first | exact bodyPost_ret (v := .agg #[.slice (some ⟨gn, 0, none⟩) n.nodes.length cn, .slice a7 (n.pipes.length + (0 + 1)) c7]) (by simp [results, Tryz.results33, go_sem, e0, e1]) rfl ⟨_, _, _, rfl, hd5⟩ | exact bodyPost_ret (v := .agg #[.slice (some ⟨gn, 0, none⟩) n.nodes.length cn, .slice a7 (n.pipes.length + (0 + 1)) c7]) (by simp [results, Tryz.results33, go_sem, e0, e1]) rfl ⟨_, _, rfl, _, hd5⟩
  by_cases h3 : x = 3
  · subst h3
    go_wp2_with (at_builtin; refine wpList_appP rfl (.tmp 64) (.tmp 70) rfl (w.heap.size + 1) (.slice ap n.pipes.length cp) (.slice (some ⟨w3.heap.size, 0, none⟩) 1 1) n.pipes [⟨k, n.nodes.length, 1, 0, 1⟩] rfl rfl ?c1 ?c2 ?c3 ?c4 ?_)
    case c1 => exact HD3.out.hp.below (below_new _ _)
    case c2 => exact rows_one (Blk.new w3 (encP ⟨k, n.nodes.length, 1, 0, 1⟩).toArray 54)
    case c3 => simp; omega
    case c4 => simp; omega
    intro v7 w7 h7 k7 b7
    have hlo := HD3.out.hp.lt
    have HD7 := HD3.out.addP h7 k7 b7
    have HS7 := (HS3.out.alloc (.cells (encP ⟨k, n.nodes.length, 1, 0, 1⟩).toArray 54)).kept k7 (fun j hj => by have := (hlo j hj).1; omega)
    have HK7 := (HK3.out.alloc (.cells (encP ⟨k, n.nodes.length, 1, 0, 1⟩).toArray 54)).trans' k7 (fun j hj => Or.inr (by have := (hlo j hj).1; omega))
    have HX7 := (HX3.out.below (below_new _ (.cells (encP ⟨k, n.nodes.length, 1, 0, 1⟩).toArray 54))).kept k7 (fun hj => by have := (hlo _ hj).1; omega)
    have HN7 := (HN3.out.below (below_new _ (.cells (encP ⟨k, n.nodes.length, 1, 0, 1⟩).toArray 54))).kept k7 (fun hj => by have := hpB1 _ hj; omega)
    have hpB7 : ∀ b, v7.ownBlock = some b → ¬ b = BN := fun b hb => by
      rcases b7 with e | e
      · have := hpB1 b (by rw [← e]; exact hb); omega
      · rw [e] at hb; simp at hb; omega
    obtain ⟨a7, c7, hv7, _⟩ := HD7.hp.shape lenP
    simp only [List.length_append, List.length_cons, List.length_nil] at hv7
    subst hv7
    have C1 := HN7.cell 1 (by simp)
    have C0 := HN7.cell 0 (by simp)
    have F1 := HN7.frozen 1
    have R0 := HX7.cell 0 (by simp)
    have R1 := HX7.cell 1 (by simp)
    have G0 := HX7.frozen 0
    have G1 := HX7.frozen 1
    have hk8 := (Kept.refl (· = BN) w7).setCell (p := ⟨BN, 1, none⟩) rfl (.slice a7 (n.pipes.length + (0 + 1)) c7)
    have HD8 := hid (HD7.kept_ne hk8 (fun b hb e => by have := hnB b hb; omega) hpB7)
    have HX8 := hid (HX7.kept hk8 hBN0)
    have HS8 := hid (HS7.kept hk8 (fun k h => by omega))
    have HK8 := hid (HK7.setNew (p := ⟨BN, 1, none⟩) (by simp only; omega) (.slice a7 (n.pipes.length + (0 + 1)) c7))
    clear h7 k7 b7 hlo HD7 HX7 HN7 HS7 HK7 hk8 hpB7
    go_wp2_with fail
    obtain ⟨W, hW, ⟨e0, e1⟩, hd5⟩ := any_end (HX8.out) hlt (HD8.out.dnet hn7 (by simp; omega) HS8.out HK8.out)
    rw [hW]
    first | exact bodyPost_ret (v := .agg #[.slice (some ⟨gn, 0, none⟩) n.nodes.length cn, .slice a7 (n.pipes.length + (0 + 1)) c7]) (by simp [results, Tryz.results33, go_sem, e0, e1]) rfl ⟨_, _, _, rfl, hd5⟩ | exact bodyPost_ret (v := .agg #[.slice (some ⟨gn, 0, none⟩) n.nodes.length cn, .slice a7 (n.pipes.length + (0 + 1)) c7]) (by simp [results, Tryz.results33, go_sem, e0, e1]) rfl ⟨_, _, rfl, _, hd5⟩
  obtain ⟨an', cn', hne', _, hNc⟩ := HD3.out.hn.shape lenN
  obtain ⟨g', hg', _, _, _, hfrN, hNc⟩ := hNc.resolve_left (fun e => by rw [e] at hn1; simp at hn1)
  simp only [Value.slice.injEq] at hne'
  obtain ⟨rfl, -, rfl⟩ := hne'
  simp only [Option.some.injEq, Addr.mk.injEq, and_true] at hg'
  subst hg'
  obtain ⟨m0, m1, m2⟩ := cellsN (hNc k hkl)
  have fN := hfrN
  clear hNc hfrN
  have KP : Hid (∀ W, Kept (fun b => b = s ∨ b = gn ∨ w3.heap.size ≤ b) w3 W → W.cell? ⟨BN, 0, none⟩ = some (.slice (some ⟨gn, 0, none⟩) n.nodes.length cn) ∧ W.cell? ⟨BN, 1, none⟩ = some (.slice ap n.pipes.length cp)) := fun W hW =>
    ⟨hW.cell c0 (by simp only; omega), hW.cell c1 (by simp only; omega)⟩
  by_cases h0 : x = 0
  · subst h0
    go_wp2_with fail
    go_region_with
      (first
        | (go_at_call 29; refine (l01Next_any s 5 _ (by omega) (by omega) HS3.out.drew).mono ?_; rintro e w4 ⟨q, rfl, q0, q1, hs4, hk4⟩; have hk4 := hk4.undrew; have K4 := hk4.mono (Y := fun b => b = s ∨ b = gn ∨ w3.heap.size ≤ b) (fun b _ h => Or.inl h); obtain ⟨z, hz, hzm⟩ := vals_at w4 [.string ⟨#[]⟩, .string ⟨#[110, 48]⟩, .string ⟨#[110, 105, 110, 101, 99, 104, 97, 114, 115]⟩, .string ⟨#[101, 105, 103, 104, 116, 99, 104, 97]⟩, .string ⟨#[78]⟩] 9 q q0 q1; have M0 := hk4.cell m0 (by simp only; omega); have F0 := (hk4.frozen (p := ⟨gn, k * 3, none⟩) (by simp only; omega) (by simp only; omega)).trans (fN _); obtain ⟨zb, rfl, hzb⟩ := strs_mem hzm; have KA := (Kept.refl (fun _ => False) w4).alloc (.cells #[.string ⟨#[]⟩, .string ⟨#[110, 48]⟩, .string ⟨#[110, 105, 110, 101, 99, 104, 97, 114, 115]⟩, .string ⟨#[101, 105, 103, 104, 116, 99, 104, 97]⟩, .string ⟨#[78]⟩] 9); have zz4 := hk4.size; have C0 := hk4.cell c0 (by simp only; omega); have C0' := KA.cell C0 (fun h => h); have M0' := KA.cell M0 (fun h => h); have F0' := (KA.frozen (p := ⟨gn, k * 3, none⟩) (by simp only; omega) (fun h => h)).trans F0)
        | (go_at_call 29; refine (l01Next_any s 5 _ (by omega) (by omega) (HS3.out.alloc _).drew).mono ?_; rintro e w4 ⟨q, rfl, q0, q1, hs4, hk4⟩; obtain ⟨z, hz', hzm⟩ := vals_at w3 [.string ⟨#[]⟩, .string ⟨#[110, 48]⟩, .string ⟨#[110, 105, 110, 101, 99, 104, 97, 114, 115]⟩, .string ⟨#[101, 105, 103, 104, 116, 99, 104, 97]⟩, .string ⟨#[78]⟩] 9 q q0 q1; have hk4 := hk4.undrew; have hz := hk4.cell hz' (by simp only; omega); have hk4 := (((Kept.refl (· = s) w3).alloc _).trans hk4); have C0 := hk4.cell c0 (by simp only; omega); have K4 := hk4.mono (Y := fun b => b = s ∨ b = gn ∨ w3.heap.size ≤ b) (fun b _ h => Or.inl h); have M0 := hk4.cell m0 (by simp only; omega); have F0 := (hk4.frozen (p := ⟨gn, k * 3, none⟩) (by simp only; omega) (by simp only; omega)).trans (fN _); obtain ⟨zb, rfl, hzb⟩ := strs_mem hzm))
    all_goals
      have HD4 := HD3.out.kept hk4 (fun b hb => by omega)
      have HX4 := HX3.out.kept hk4 (by omega)
      have HN4 := HN3.out.kept hk4 (by omega)
      have HK4 := HK3.out.trans hk4
    all_goals first
      | (obtain ⟨W4, hW4, b4⟩ : ∃ W4, w4.alloc (.cells #[.string ⟨#[]⟩, .string ⟨#[110, 48]⟩, .string ⟨#[110, 105, 110, 101, 99, 104, 97, 114, 115]⟩, .string ⟨#[101, 105, 103, 104, 116, 99, 104, 97]⟩, .string ⟨#[78]⟩] 9) = W4 ∧ Below w4.heap.size w4 W4 := ⟨_, rfl, below_new _ _⟩
         rw [hW4]
         have HD5 := HD4.below b4
         have HX5 := HX4.below b4
         have HN5 := HN4.below b4
         have HS5 := hs4.kept (Kept.of_below (X := fun _ => False) b4) (fun k h => h.elim)
         have HK5 := HK4.trans (Kept.of_below b4)
         skip
         clear hW4 M0' F0' KA M0 F0 C0' C0 K4 hk4 hz hs4 HD4 HX4 HN4 HK4
         have C0 := HN5.cell 0 (by simp)
         have C1 := HN5.cell 1 (by simp)
         have R0 := HX5.cell 0 (by simp)
         have R1 := HX5.cell 1 (by simp)
         have G0 := HX5.frozen 0
         have G1 := HX5.frozen 1
         have DN := hid (HD5.stN (o := k * 3) (u := .string zb) hlt (fun X h => by simpa using h.setName k hkl zb) (set_ok HD5.ok hzb) (by simp) hn7 (by omega) HS5 HK5)
         have HX6 := hid (HX5.kept ((Kept.refl (· = gn) W4).setCell (p := ⟨gn, k * 3, none⟩) rfl (.string zb)) (fun e => hgw e.symm))
         clear HN5 HX5 HD5 HS5 HK5
         go_wp2_with fail
         obtain ⟨W, hW, ⟨e0, e1⟩, hd5⟩ := any_end HX6.out hlt DN.out
         rw [hW]
         first | exact bodyPost_ret (v := .agg #[.slice (some ⟨gn, 0, none⟩) n.nodes.length cn, .slice ap n.pipes.length cp]) (by simp [results, Tryz.results33, go_sem, e0, e1]) rfl ⟨_, _, _, rfl, hd5⟩ | exact bodyPost_ret (v := .agg #[.slice (some ⟨gn, 0, none⟩) n.nodes.length cn, .slice ap n.pipes.length cp]) (by simp [results, Tryz.results33, go_sem, e0, e1]) rfl ⟨_, _, rfl, _, hd5⟩)
      | (have HD5 := HD4
         have HX5 := HX4
         have HN5 := HN4
         have HS5 := hs4
         have HK5 := HK4
         clear M0 F0 C0 K4 hk4 hz hs4 HD4 HX4 HN4 HK4
         have C0 := HN5.cell 0 (by simp)
         have C1 := HN5.cell 1 (by simp)
         have R0 := HX5.cell 0 (by simp)
         have R1 := HX5.cell 1 (by simp)
         have G0 := HX5.frozen 0
         have G1 := HX5.frozen 1
         have DN := hid (HD5.stN (o := k * 3) (u := .string zb) hlt (fun X h => by simpa using h.setName k hkl zb) (set_ok HD5.ok hzb) (by simp) hn7 (by omega) HS5 HK5)
         have HX6 := hid (HX5.kept ((Kept.refl (· = gn) w4).setCell (p := ⟨gn, k * 3, none⟩) rfl (.string zb)) (fun e => hgw e.symm))
         clear HN5 HX5 HD5 HS5 HK5
         go_wp2_with fail
         obtain ⟨W, hW, ⟨e0, e1⟩, hd5⟩ := any_end HX6.out hlt DN.out
         rw [hW]
         first | exact bodyPost_ret (v := .agg #[.slice (some ⟨gn, 0, none⟩) n.nodes.length cn, .slice ap n.pipes.length cp]) (by simp [results, Tryz.results33, go_sem, e0, e1]) rfl ⟨_, _, _, rfl, hd5⟩ | exact bodyPost_ret (v := .agg #[.slice (some ⟨gn, 0, none⟩) n.nodes.length cn, .slice ap n.pipes.length cp]) (by simp [results, Tryz.results33, go_sem, e0, e1]) rfl ⟨_, _, rfl, _, hd5⟩)
  by_cases h1 : x = 1
  · subst h1
    obtain ⟨LW, hLW⟩ : ∃ LW, LW = n.nodes[k].low := ⟨_, rfl⟩
    rw [← hLW] at m1
    have KQ : Hid (∀ W, Kept (fun b => b = s ∨ w3.heap.size ≤ b) w3 W → W.cell? ⟨BN, 0, none⟩ = some (.slice (some ⟨gn, 0, none⟩) n.nodes.length cn) ∧ W.cell? ⟨BN, 1, none⟩ = some (.slice ap n.pipes.length cp) ∧ W.cell? ⟨gn, k * 3 + 1, none⟩ = some (.int .i64 LW)) := fun W hW =>
      ⟨hW.cell c0 (by simp only; omega), hW.cell c1 (by simp only; omega), hW.cell m1 (by simp only; omega)⟩
    clear hLW
    go_wp2_with fail
    refine wp_region_held_drew (S := fun W => W.cell? ⟨BN, 0, none⟩ = some (.slice (some ⟨gn, 0, none⟩) n.nodes.length cn) ∧ W.cell? ⟨BN, 1, none⟩ = some (.slice ap n.pipes.length cp) ∧ W.cell? ⟨gn, k * 3 + 1, none⟩ = some (.int .i64 LW)) (by kernel_rfl) ?_ (fun hHeld => ?_)
    · exact KQ.out _ (Kept.refl _ _).drew
    refine wpAnyH_take (i := 0) (v := .pointer (some ⟨BN, 0, none⟩)) rfl (by kernel_rfl) (by kernel_rfl) (by kernel_rfl) (fun _ _ _ h => h) (Or.inl ⟨by rfl, ?_⟩) (by assumption) ?_
    · intro wq hSw
      try dsimp only at hSw
      go_simp
    try simp only [Act.put]
    refine wpAnyH_take (i := 1) (v := .slice (some ⟨gn, 0, none⟩) n.nodes.length cn) rfl (by kernel_rfl) (by kernel_rfl) (by kernel_rfl) (fun _ _ _ h => h) (Or.inl ⟨by rfl, ?_⟩) (by assumption) ?_
    · intro wq hSw
      try dsimp only at hSw
      go_simp
    try simp only [Act.put]
    refine wpAnyH_take (i := 2) (v := .int .i64 k) rfl (by kernel_rfl) (by kernel_rfl) (by kernel_rfl) (fun _ _ _ h => h) (Or.inl ⟨by rfl, ?_⟩) (by assumption) ?_
    · intro wq hSw
      try dsimp only at hSw
      go_simp
    try simp only [Act.put]
    refine wpAnyH_take (i := 3) (v := .pointer (some ⟨BN, 0, none⟩)) rfl (by kernel_rfl) (by kernel_rfl) (by kernel_rfl) (fun _ _ _ h => h) (Or.inl ⟨by rfl, ?_⟩) (by assumption) ?_
    · intro wq hSw
      try dsimp only at hSw
      go_simp
    try simp only [Act.put]
    refine wpAnyH_take (i := 4) (v := .slice (some ⟨gn, 0, none⟩) n.nodes.length cn) rfl (by kernel_rfl) (by kernel_rfl) (by kernel_rfl) (fun _ _ _ h => h) (Or.inl ⟨by rfl, ?_⟩) (by assumption) ?_
    · intro wq hSw
      try dsimp only at hSw
      go_simp
    try simp only [Act.put]
    refine wpAnyH_take (i := 5) (v := .int .i64 k) rfl (by kernel_rfl) (by kernel_rfl) (by kernel_rfl) (fun _ _ _ h => h) (Or.inl ⟨by rfl, ?_⟩) (by assumption) ?_
    · intro wq hSw
      try dsimp only at hSw
      go_simp
    try simp only [Act.put]
    refine wpAnyH_take (i := 6) (v := .pointer (some ⟨gn, k * 3, none⟩)) rfl (by kernel_rfl) (by kernel_rfl) (by kernel_rfl) (fun _ _ _ h => h) (Or.inl ⟨by rfl, ?_⟩) (by assumption) ?_
    · intro wq hSw
      try dsimp only at hSw
      go_simp
    try simp only [Act.put]
    refine wpAnyH_take (i := 7) (v := .pointer (some ⟨gn, k * 3 + 1, none⟩)) rfl (by kernel_rfl) (by kernel_rfl) (by kernel_rfl) (fun _ _ _ h => h) (Or.inl ⟨by rfl, ?_⟩) (by assumption) ?_
    · intro wq hSw
      try dsimp only at hSw
      go_simp
    try simp only [Act.put]
    refine wpAnyH_take (i := 8) (v := .int .i64 LW) rfl (by kernel_rfl) (by kernel_rfl) (by kernel_rfl) (fun _ _ _ h => h) (Or.inl ⟨by rfl, ?_⟩) (by assumption) ?_
    · intro wq hSw
      try dsimp only at hSw
      go_simp
    try simp only [Act.put]
    refine wpAnyH_take (i := 9) (v := .int .i64 (IntKind.i64.wrap (LW - 1))) rfl (by kernel_rfl) (by kernel_rfl) (by kernel_rfl) (fun _ _ _ h => h) (Or.inl ⟨by rfl, ?_⟩) (by assumption) ?_
    · intro wq hSw
      try dsimp only at hSw
      go_simp
    try simp only [Act.put]
    refine wpAnyH_take (i := 10) (v := .pointer (some ⟨BN, 0, none⟩)) rfl (by kernel_rfl) (by kernel_rfl) (by kernel_rfl) (fun _ _ _ h => h) (Or.inl ⟨by rfl, ?_⟩) (by assumption) ?_
    · intro wq hSw
      try dsimp only at hSw
      go_simp
    try simp only [Act.put]
    refine wpAnyH_take (i := 11) (v := .slice (some ⟨gn, 0, none⟩) n.nodes.length cn) rfl (by kernel_rfl) (by kernel_rfl) (by kernel_rfl) (fun _ _ _ h => h) (Or.inl ⟨by rfl, ?_⟩) (by assumption) ?_
    · intro wq hSw
      try dsimp only at hSw
      go_simp
    try simp only [Act.put]
    refine wpAnyH_take (i := 12) (v := .int .i64 k) rfl (by kernel_rfl) (by kernel_rfl) (by kernel_rfl) (fun _ _ _ h => h) (Or.inl ⟨by rfl, ?_⟩) (by assumption) ?_
    · intro wq hSw
      try dsimp only at hSw
      go_simp
    try simp only [Act.put]
    refine wpAnyH_take (i := 13) (v := .pointer (some ⟨gn, k * 3, none⟩)) rfl (by kernel_rfl) (by kernel_rfl) (by kernel_rfl) (fun _ _ _ h => h) (Or.inl ⟨by rfl, ?_⟩) (by assumption) ?_
    · intro wq hSw
      try dsimp only at hSw
      go_simp
    try simp only [Act.put]
    refine wpAnyH_take (i := 14) (v := .pointer (some ⟨gn, k * 3 + 1, none⟩)) rfl (by kernel_rfl) (by kernel_rfl) (by kernel_rfl) (fun _ _ _ h => h) (Or.inl ⟨by rfl, ?_⟩) (by assumption) ?_
    · intro wq hSw
      try dsimp only at hSw
      go_simp
    try simp only [Act.put]
    refine wpAnyH_take (i := 15) (v := .int .i64 LW) rfl (by kernel_rfl) (by kernel_rfl) (by kernel_rfl) (fun _ _ _ h => h) (Or.inl ⟨by rfl, ?_⟩) (by assumption) ?_
    · intro wq hSw
      try dsimp only at hSw
      go_simp
    try simp only [Act.put]
    refine wpAnyH_take (i := 17) (v := .pointer (some ⟨s, 0, none⟩)) rfl (by kernel_rfl) (by kernel_rfl) (by kernel_rfl) (fun _ _ _ h => h) (Or.inl ⟨by rfl, ?_⟩) (by assumption) ?_
    · intro wq hSw
      try dsimp only at hSw
      go_simp
    try simp only [Act.put]
    refine wpAnyH_ready (rs := [16, 18]) (by kernel_rfl) (by simp) ?_
    refine AllReadyH.cons rfl (fun K hK => ?_) (AllReadyH.cons rfl (fun K hK => ?_) AllReadyH.nil)
    · go_simp
      refine hK.out _ _ ?_ (fun hHeld => ?_)
      · exact KQ.out _ ((Kept.refl _ _).alloc _).drew
      clear hK K
      try simp only [Act.put]
      refine wpAnyH_ready (rs := [18]) (by kernel_rfl) (by simp) ?_
      refine AllReadyH.cons rfl (fun K hK => ?_) AllReadyH.nil
      go_simp
      refine (l01Next_any s 4 _ (by omega) (by omega) (HS3.out.alloc _).drew).mono ?_
      rintro e w4 ⟨q, rfl, q0, q1, hs4, hk4⟩
      obtain ⟨z, hz', hzm⟩ := vals_at w3 [.int .i64 (IntKind.i64.wrap (LW - 1)), .int .i64 LW, .int .i64 100000000, .int .i64 100000001] 2 q q0 q1
      have hk4 := hk4.undrew
      have hz := hk4.cell hz' (by simp only; omega)
      have hk4 := ((Kept.refl (· = s) w3).alloc _).trans hk4
      have K4 := hk4.mono (Y := fun b => b = s ∨ w3.heap.size ≤ b) (fun b _ h => Or.inl h)
      have M0 := hk4.cell m2 (by simp only; omega)
      have F0 := (hk4.frozen (p := ⟨gn, k * 3 + 2, none⟩) (by simp only; omega) (by simp only; omega)).trans (fN _)
      obtain ⟨zb, rfl⟩ := ints4_mem hzm
      have zz4 := hk4.size
      refine hK.out _ _ ?_ (fun hHeld => ?_)
      · exact KQ.out _ K4
      clear hK K
      try simp only [Act.put]
      refine wpAnyH_strong (S' := fun W => (W.cell? ⟨BN, 0, none⟩ = some (.slice (some ⟨gn, 0, none⟩) n.nodes.length cn) ∧ W.cell? ⟨BN, 1, none⟩ = some (.slice ap n.pipes.length cp) ∧ W.cell? ⟨gn, k * 3 + 1, none⟩ = some (.int .i64 LW)) ∧ W.cell? ⟨w3.heap.size, q.toNat, none⟩ = some (.int .i64 zb)) (fun W h => h.1) ?_
      have hHeld := And.intro hHeld hz
      refine wpAnyH_take (i := 19) (v := .pointer (some ⟨w3.heap.size, q.toNat, none⟩)) rfl (by kernel_rfl) (by kernel_rfl) (by kernel_rfl) (fun _ _ _ h => h) (Or.inl ⟨by rfl, ?_⟩) (by assumption) ?_
      · intro wq hSw
        try dsimp only at hSw
        go_simp
      try simp only [Act.put]
      refine wpAnyH_take (i := 20) (v := .int .i64 zb) rfl (by kernel_rfl) (by kernel_rfl) (by kernel_rfl) (fun _ _ _ h => h) (Or.inl ⟨by rfl, ?_⟩) (by assumption) ?_
      · intro wq hSw
        try dsimp only at hSw
        go_simp
      try simp only [Act.put]
      refine wpAnyH_take (i := 21) (v := .pointer (some ⟨gn, k * 3, none⟩)) rfl (by kernel_rfl) (by kernel_rfl) (by kernel_rfl) (fun _ _ _ h => h) (Or.inl ⟨by rfl, ?_⟩) (by assumption) ?_
      · intro wq hSw
        try dsimp only at hSw
        go_simp
      try simp only [Act.put]
      refine wpAnyH_take (i := 22) (v := .pointer (some ⟨gn, k * 3 + 2, none⟩)) rfl (by kernel_rfl) (by kernel_rfl) (by kernel_rfl) (fun _ _ _ h => h) (Or.inl ⟨by rfl, ?_⟩) (by assumption) ?_
      · intro wq hSw
        try dsimp only at hSw
        go_simp
      try simp only [Act.put]
      refine wpAnyH_ready (rs := [23]) (by kernel_rfl) (by simp) ?_
      refine AllReadyH.cons rfl (fun K hK => ?_) AllReadyH.nil
      go_simp
      refine hK.out _ _ ?_ (fun hHeld => ?_)
      · exact ⟨⟨(cell_off2 (Or.inl hgN)).trans hHeld.1.1, (cell_off2 (Or.inl hgN)).trans hHeld.1.2.1, (cell_off2 (Or.inr (by omega))).trans hHeld.1.2.2⟩, (cell_off2 (Or.inl (by omega))).trans hHeld.2⟩
      clear hK K hHeld
      refine wpAnyH_done (by kernel_rfl) ?_ _
      have HD5 := HD3.out.kept hk4 (fun b hb => by omega)
      have HX5 := HX3.out.kept hk4 (by omega)
      have HN5 := HN3.out.kept hk4 (by omega)
      have HK5 := HK3.out.trans hk4
      have HS5 := hs4
      clear M0 F0 K4 hk4 hz hz' hs4 KQ
      have C0 := HN5.cell 0 (by simp)
      have C1 := HN5.cell 1 (by simp)
      have R0 := HX5.cell 0 (by simp)
      have R1 := HX5.cell 1 (by simp)
      have G0 := HX5.frozen 0
      have G1 := HX5.frozen 1
      have DN := hid (HD5.stN (o := k * 3 + 2) (u := .int .i64 zb) hlt (fun X h => by simpa using h.setHigh k hkl zb) (high_ok hkl HD5.ok) (by simp) hn7 (by omega) HS5 HK5)
      have HX6 := hid (HX5.kept ((Kept.refl (· = gn) w4).setCell (p := ⟨gn, k * 3 + 2, none⟩) rfl (.int .i64 zb)) (fun e => hgw e.symm))
      clear HN5 HX5 HD5 HS5 HK5
      go_wp2_with fail
      obtain ⟨W, hW, ⟨e0, e1⟩, hd5⟩ := any_end HX6.out hlt DN.out
      rw [hW]
      first | exact bodyPost_ret (v := .agg #[.slice (some ⟨gn, 0, none⟩) n.nodes.length cn, .slice ap n.pipes.length cp]) (by simp [results, Tryz.results33, go_sem, e0, e1]) rfl ⟨_, _, _, rfl, hd5⟩ | exact bodyPost_ret (v := .agg #[.slice (some ⟨gn, 0, none⟩) n.nodes.length cn, .slice ap n.pipes.length cp]) (by simp [results, Tryz.results33, go_sem, e0, e1]) rfl ⟨_, _, rfl, _, hd5⟩
    · go_simp
      refine (l01Next_any s 4 _ (by omega) (by omega) HS3.out.drew).mono ?_
      rintro e w4 ⟨q, rfl, q0, q1, hs4, hk4⟩
      have hk4 := hk4.undrew
      obtain ⟨z, hz, hzm⟩ := vals_at w4 [.int .i64 (IntKind.i64.wrap (LW - 1)), .int .i64 LW, .int .i64 100000000, .int .i64 100000001] 2 q q0 q1
      have K4 := hk4.mono (Y := fun b => b = s ∨ w3.heap.size ≤ b) (fun b _ h => Or.inl h)
      have M0 := hk4.cell m2 (by simp only; omega)
      have F0 := (hk4.frozen (p := ⟨gn, k * 3 + 2, none⟩) (by simp only; omega) (by simp only; omega)).trans (fN _)
      obtain ⟨zb, rfl⟩ := ints4_mem hzm
      have zz4 := hk4.size
      obtain ⟨W4, hW4, b4⟩ : ∃ W4, w4.alloc (.cells #[.int .i64 (IntKind.i64.wrap (LW - 1)), .int .i64 LW, .int .i64 100000000, .int .i64 100000001] 2) = W4 ∧ Below w4.heap.size w4 W4 := ⟨_, rfl, below_new _ _⟩
      rw [hW4] at hz
      refine hK.out _ _ ?_ (fun hHeld => ?_)
      · exact KQ.out _ K4
      clear hK K
      try simp only [Act.put]
      refine wpAnyH_ready (rs := [16]) (by kernel_rfl) (by simp) ?_
      refine AllReadyH.cons rfl (fun K hK => ?_) AllReadyH.nil
      go_simp
      try rw [hW4]
      have hk5 := hk4.trans (Kept.of_below b4)
      have K5 := K4.trans (Kept.of_below b4)
      have M0 := (b4.cell (p := ⟨gn, k * 3 + 2, none⟩) (by simp only; omega)).trans M0
      have F0 := ((Kept.of_below (X := fun _ => False) b4).frozen (p := ⟨gn, k * 3 + 2, none⟩) (by simp only; omega) (fun h => h)).trans F0
      refine hK.out _ _ ?_ (fun hHeld => ?_)
      · exact KQ.out _ K5
      clear hK K
      try simp only [Act.put]
      refine wpAnyH_strong (S' := fun W => (W.cell? ⟨BN, 0, none⟩ = some (.slice (some ⟨gn, 0, none⟩) n.nodes.length cn) ∧ W.cell? ⟨BN, 1, none⟩ = some (.slice ap n.pipes.length cp) ∧ W.cell? ⟨gn, k * 3 + 1, none⟩ = some (.int .i64 LW)) ∧ W.cell? ⟨w4.heap.size, q.toNat, none⟩ = some (.int .i64 zb)) (fun W h => h.1) ?_
      have hHeld := And.intro hHeld hz
      refine wpAnyH_take (i := 19) (v := .pointer (some ⟨w4.heap.size, q.toNat, none⟩)) rfl (by kernel_rfl) (by kernel_rfl) (by kernel_rfl) (fun _ _ _ h => h) (Or.inl ⟨by rfl, ?_⟩) (by assumption) ?_
      · intro wq hSw
        try dsimp only at hSw
        go_simp
      try simp only [Act.put]
      refine wpAnyH_take (i := 20) (v := .int .i64 zb) rfl (by kernel_rfl) (by kernel_rfl) (by kernel_rfl) (fun _ _ _ h => h) (Or.inl ⟨by rfl, ?_⟩) (by assumption) ?_
      · intro wq hSw
        try dsimp only at hSw
        go_simp
      try simp only [Act.put]
      refine wpAnyH_take (i := 21) (v := .pointer (some ⟨gn, k * 3, none⟩)) rfl (by kernel_rfl) (by kernel_rfl) (by kernel_rfl) (fun _ _ _ h => h) (Or.inl ⟨by rfl, ?_⟩) (by assumption) ?_
      · intro wq hSw
        try dsimp only at hSw
        go_simp
      try simp only [Act.put]
      refine wpAnyH_take (i := 22) (v := .pointer (some ⟨gn, k * 3 + 2, none⟩)) rfl (by kernel_rfl) (by kernel_rfl) (by kernel_rfl) (fun _ _ _ h => h) (Or.inl ⟨by rfl, ?_⟩) (by assumption) ?_
      · intro wq hSw
        try dsimp only at hSw
        go_simp
      try simp only [Act.put]
      refine wpAnyH_ready (rs := [23]) (by kernel_rfl) (by simp) ?_
      refine AllReadyH.cons rfl (fun K hK => ?_) AllReadyH.nil
      go_simp
      refine hK.out _ _ ?_ (fun hHeld => ?_)
      · exact ⟨⟨(cell_off2 (Or.inl hgN)).trans hHeld.1.1, (cell_off2 (Or.inl hgN)).trans hHeld.1.2.1, (cell_off2 (Or.inr (by omega))).trans hHeld.1.2.2⟩, (cell_off2 (Or.inl (by omega))).trans hHeld.2⟩
      clear hK K hHeld
      refine wpAnyH_done (by kernel_rfl) ?_ _
      have HD5 := HD3.out.kept hk5 (fun b hb => by omega)
      have HX5 := HX3.out.kept hk5 (by omega)
      have HN5 := HN3.out.kept hk5 (by omega)
      have HK5 := HK3.out.trans hk5
      have HS5 := hs4.kept (Kept.of_below (X := fun _ => False) b4) (fun k h => h.elim)
      clear M0 F0 K4 K5 hk4 hk5 hz hs4 KQ b4 hW4
      have C0 := HN5.cell 0 (by simp)
      have C1 := HN5.cell 1 (by simp)
      have R0 := HX5.cell 0 (by simp)
      have R1 := HX5.cell 1 (by simp)
      have G0 := HX5.frozen 0
      have G1 := HX5.frozen 1
      have DN := hid (HD5.stN (o := k * 3 + 2) (u := .int .i64 zb) hlt (fun X h => by simpa using h.setHigh k hkl zb) (high_ok hkl HD5.ok) (by simp) hn7 (by omega) HS5 HK5)
      have HX6 := hid (HX5.kept ((Kept.refl (· = gn) W4).setCell (p := ⟨gn, k * 3 + 2, none⟩) rfl (.int .i64 zb)) (fun e => hgw e.symm))
      clear HN5 HX5 HD5 HS5 HK5
      go_wp2_with fail
      obtain ⟨W, hW, ⟨e0, e1⟩, hd5⟩ := any_end HX6.out hlt DN.out
      rw [hW]
      first | exact bodyPost_ret (v := .agg #[.slice (some ⟨gn, 0, none⟩) n.nodes.length cn, .slice ap n.pipes.length cp]) (by simp [results, Tryz.results33, go_sem, e0, e1]) rfl ⟨_, _, _, rfl, hd5⟩ | exact bodyPost_ret (v := .agg #[.slice (some ⟨gn, 0, none⟩) n.nodes.length cn, .slice ap n.pipes.length cp]) (by simp [results, Tryz.results33, go_sem, e0, e1]) rfl ⟨_, _, rfl, _, hd5⟩
  by_cases h4 : x = 4
  · subst h4
    by_cases hp0 : 0 < n.pipes.length
    case neg =>
      have hp0' : ¬ (0 < (n.pipes.length : Int)) := by omega
      go_wp2_with fail
      obtain ⟨W, hW, ⟨e0, e1⟩, hd5⟩ := any_end (HX3.out) hlt (HD3.out.dnet hn7 (by omega) HS3.out HK3.out)
      rw [hW]
      exact bodyPost_ret (v := .agg #[.slice (some ⟨gn, 0, none⟩) n.nodes.length cn, .slice ap n.pipes.length cp]) (by simp [results, Tryz.results33, go_sem, e0, e1]) rfl ⟨_, _, _, rfl, hd5⟩
    have hp0' : 0 < (n.pipes.length : Int) := by omega
    obtain ⟨ap', cp', hpe', _, hPc0⟩ := HD3.out.hp.shape lenP
    obtain ⟨gp, hgp, hgpo, hgpB, hgpl, hfrP, hPc⟩ := hPc0.resolve_left (fun e => by rw [e] at hp0; simp at hp0)
    simp only [Value.slice.injEq] at hpe'
    obtain ⟨rfl, -, rfl⟩ := hpe'
    subst hgp
    have hgpN : gp < BN := hpB1 gp rfl
    have hpw : gp ≠ w.heap.size := by omega
    have hpN : gp ≠ BN := by omega
    obtain ⟨p0, p1, p2, p3, p4⟩ := cellsP (hPc 0 hp0)
    have m0 : w3.cell? ⟨gp, 2, none⟩ = some (.int .i64 (n.pipes[0]).k) := by simpa using p2
    have fN := hfrP
    clear hPc hPc0 hfrP p0 p1 p2 p3 p4 m1 m2
    go_wp2_with fail
    go_region_with
      (first
        | (go_at_call 29; refine (l01Next_any s 3 _ (by omega) (by omega) HS3.out.drew).mono ?_; rintro e w4 ⟨q, rfl, q0, q1, hs4, hk4⟩; have hk4 := hk4.undrew; have K4 := hk4.mono (Y := fun b => b = s ∨ b = gn ∨ w3.heap.size ≤ b) (fun b _ h => Or.inl h); obtain ⟨z, hz, hzm⟩ := vals_at w4 [.int .i64 0, .int .i64 1000, .int .i64 1001] 2 q q0 q1; have M0 := hk4.cell m0 (by simp only; omega); have F0 := (hk4.frozen (p := ⟨gp, 2, none⟩) (by simp only; omega) (by simp only; omega)).trans (fN _); obtain ⟨zb, rfl⟩ := ints3_mem hzm; have KA := (Kept.refl (fun _ => False) w4).alloc (.cells #[.int .i64 0, .int .i64 1000, .int .i64 1001] 2); have zz4 := hk4.size; have C0 := hk4.cell c1 (by simp only; omega); have C0' := KA.cell C0 (fun h => h); have M0' := KA.cell M0 (fun h => h); have F0' := (KA.frozen (p := ⟨gp, 2, none⟩) (by simp only; omega) (fun h => h)).trans F0)
        | (go_at_call 29; refine (l01Next_any s 3 _ (by omega) (by omega) (HS3.out.alloc _).drew).mono ?_; rintro e w4 ⟨q, rfl, q0, q1, hs4, hk4⟩; obtain ⟨z, hz', hzm⟩ := vals_at w3 [.int .i64 0, .int .i64 1000, .int .i64 1001] 2 q q0 q1; have hk4 := hk4.undrew; have hz := hk4.cell hz' (by simp only; omega); have hk4 := (((Kept.refl (· = s) w3).alloc _).trans hk4); have C0 := hk4.cell c1 (by simp only; omega); have K4 := hk4.mono (Y := fun b => b = s ∨ b = gn ∨ w3.heap.size ≤ b) (fun b _ h => Or.inl h); have M0 := hk4.cell m0 (by simp only; omega); have F0 := (hk4.frozen (p := ⟨gp, 2, none⟩) (by simp only; omega) (by simp only; omega)).trans (fN _); obtain ⟨zb, rfl⟩ := ints3_mem hzm))
    all_goals
      have HD4 := HD3.out.kept hk4 (fun b hb => by omega)
      have HX4 := HX3.out.kept hk4 (by omega)
      have HN4 := HN3.out.kept hk4 (by omega)
      have HK4 := HK3.out.trans hk4
    all_goals first
      | (obtain ⟨W4, hW4, b4⟩ : ∃ W4, w4.alloc (.cells #[.int .i64 0, .int .i64 1000, .int .i64 1001] 2) = W4 ∧ Below w4.heap.size w4 W4 := ⟨_, rfl, below_new _ _⟩
         rw [hW4]
         have HD5 := HD4.below b4
         have HX5 := HX4.below b4
         have HN5 := HN4.below b4
         have HS5 := hs4.kept (Kept.of_below (X := fun _ => False) b4) (fun k h => h.elim)
         have HK5 := HK4.trans (Kept.of_below b4)
         skip
         clear hW4 M0' F0' KA M0 F0 C0' C0 K4 hk4 hz hs4 HD4 HX4 HN4 HK4
         have C0 := HN5.cell 0 (by simp)
         have C1 := HN5.cell 1 (by simp)
         have R0 := HX5.cell 0 (by simp)
         have R1 := HX5.cell 1 (by simp)
         have G0 := HX5.frozen 0
         have G1 := HX5.frozen 1
         have DN := hid (HD5.stP (o := 2) (u := .int .i64 zb) hlt (fun X h => by simpa using h.setK 0 hp0 zb) (by simp) hn7 (by omega) HS5 HK5)
         have HX6 := hid (HX5.kept ((Kept.refl (· = gp) W4).setCell (p := ⟨gp, 2, none⟩) rfl (.int .i64 zb)) (fun e => hpw e.symm))
         clear HN5 HX5 HD5 HS5 HK5
         go_wp2_with fail
         obtain ⟨W, hW, ⟨e0, e1⟩, hd5⟩ := any_end HX6.out hlt DN.out
         rw [hW]
         first | exact bodyPost_ret (v := .agg #[.slice (some ⟨gn, 0, none⟩) n.nodes.length cn, .slice (some ⟨gp, 0, none⟩) n.pipes.length cp]) (by simp [results, Tryz.results33, go_sem, e0, e1]) rfl ⟨_, _, _, rfl, hd5⟩ | exact bodyPost_ret (v := .agg #[.slice (some ⟨gn, 0, none⟩) n.nodes.length cn, .slice (some ⟨gp, 0, none⟩) n.pipes.length cp]) (by simp [results, Tryz.results33, go_sem, e0, e1]) rfl ⟨_, _, rfl, _, hd5⟩)
      | (have HD5 := HD4
         have HX5 := HX4
         have HN5 := HN4
         have HS5 := hs4
         have HK5 := HK4
         clear M0 F0 C0 K4 hk4 hz hs4 HD4 HX4 HN4 HK4
         have C0 := HN5.cell 0 (by simp)
         have C1 := HN5.cell 1 (by simp)
         have R0 := HX5.cell 0 (by simp)
         have R1 := HX5.cell 1 (by simp)
         have G0 := HX5.frozen 0
         have G1 := HX5.frozen 1
         have DN := hid (HD5.stP (o := 2) (u := .int .i64 zb) hlt (fun X h => by simpa using h.setK 0 hp0 zb) (by simp) hn7 (by omega) HS5 HK5)
         have HX6 := hid (HX5.kept ((Kept.refl (· = gp) w4).setCell (p := ⟨gp, 2, none⟩) rfl (.int .i64 zb)) (fun e => hpw e.symm))
         clear HN5 HX5 HD5 HS5 HK5
         go_wp2_with fail
         obtain ⟨W, hW, ⟨e0, e1⟩, hd5⟩ := any_end HX6.out hlt DN.out
         rw [hW]
         first | exact bodyPost_ret (v := .agg #[.slice (some ⟨gn, 0, none⟩) n.nodes.length cn, .slice (some ⟨gp, 0, none⟩) n.pipes.length cp]) (by simp [results, Tryz.results33, go_sem, e0, e1]) rfl ⟨_, _, _, rfl, hd5⟩ | exact bodyPost_ret (v := .agg #[.slice (some ⟨gn, 0, none⟩) n.nodes.length cn, .slice (some ⟨gp, 0, none⟩) n.pipes.length cp]) (by simp [results, Tryz.results33, go_sem, e0, e1]) rfl ⟨_, _, rfl, _, hd5⟩)
  by_cases h5 : x = 5
  · subst h5
    by_cases hp0 : 0 < n.pipes.length
    case neg =>
      have hp0' : ¬ (0 < (n.pipes.length : Int)) := by omega
      go_wp2_with fail
      obtain ⟨W, hW, ⟨e0, e1⟩, hd5⟩ := any_end (HX3.out) hlt (HD3.out.dnet hn7 (by omega) HS3.out HK3.out)
      rw [hW]
      exact bodyPost_ret (v := .agg #[.slice (some ⟨gn, 0, none⟩) n.nodes.length cn, .slice ap n.pipes.length cp]) (by simp [results, Tryz.results33, go_sem, e0, e1]) rfl ⟨_, _, _, rfl, hd5⟩
    have hp0' : 0 < (n.pipes.length : Int) := by omega
    obtain ⟨ap', cp', hpe', _, hPc0⟩ := HD3.out.hp.shape lenP
    obtain ⟨gp, hgp, hgpo, hgpB, hgpl, hfrP, hPc⟩ := hPc0.resolve_left (fun e => by rw [e] at hp0; simp at hp0)
    simp only [Value.slice.injEq] at hpe'
    obtain ⟨rfl, -, rfl⟩ := hpe'
    subst hgp
    have hgpN : gp < BN := hpB1 gp rfl
    have hpw : gp ≠ w.heap.size := by omega
    have hpN : gp ≠ BN := by omega
    obtain ⟨p0, p1, p2, p3, p4⟩ := cellsP (hPc 0 hp0)
    have m0 : w3.cell? ⟨gp, 4, none⟩ = some (.int .i64 (n.pipes[0]).lim) := by simpa using p4
    have fN := hfrP
    clear hPc hPc0 hfrP p0 p1 p2 p3 p4 m1 m2
    go_wp2_with fail
    go_region_with
      (first
        | (go_at_call 29; refine (l01Next_any s 3 _ (by omega) (by omega) HS3.out.drew).mono ?_; rintro e w4 ⟨q, rfl, q0, q1, hs4, hk4⟩; have hk4 := hk4.undrew; have K4 := hk4.mono (Y := fun b => b = s ∨ b = gn ∨ w3.heap.size ≤ b) (fun b _ h => Or.inl h); obtain ⟨z, hz, hzm⟩ := vals_at w4 [.int .i64 0, .int .i64 30000, .int .i64 30001] 2 q q0 q1; have M0 := hk4.cell m0 (by simp only; omega); have F0 := (hk4.frozen (p := ⟨gp, 4, none⟩) (by simp only; omega) (by simp only; omega)).trans (fN _); obtain ⟨zb, rfl⟩ := ints3_mem hzm; have KA := (Kept.refl (fun _ => False) w4).alloc (.cells #[.int .i64 0, .int .i64 30000, .int .i64 30001] 2); have zz4 := hk4.size; have C0 := hk4.cell c1 (by simp only; omega); have C0' := KA.cell C0 (fun h => h); have M0' := KA.cell M0 (fun h => h); have F0' := (KA.frozen (p := ⟨gp, 4, none⟩) (by simp only; omega) (fun h => h)).trans F0)
        | (go_at_call 29; refine (l01Next_any s 3 _ (by omega) (by omega) (HS3.out.alloc _).drew).mono ?_; rintro e w4 ⟨q, rfl, q0, q1, hs4, hk4⟩; obtain ⟨z, hz', hzm⟩ := vals_at w3 [.int .i64 0, .int .i64 30000, .int .i64 30001] 2 q q0 q1; have hk4 := hk4.undrew; have hz := hk4.cell hz' (by simp only; omega); have hk4 := (((Kept.refl (· = s) w3).alloc _).trans hk4); have C0 := hk4.cell c1 (by simp only; omega); have K4 := hk4.mono (Y := fun b => b = s ∨ b = gn ∨ w3.heap.size ≤ b) (fun b _ h => Or.inl h); have M0 := hk4.cell m0 (by simp only; omega); have F0 := (hk4.frozen (p := ⟨gp, 4, none⟩) (by simp only; omega) (by simp only; omega)).trans (fN _); obtain ⟨zb, rfl⟩ := ints3_mem hzm))
    all_goals
      have HD4 := HD3.out.kept hk4 (fun b hb => by omega)
      have HX4 := HX3.out.kept hk4 (by omega)
      have HN4 := HN3.out.kept hk4 (by omega)
      have HK4 := HK3.out.trans hk4
    all_goals first
      | (obtain ⟨W4, hW4, b4⟩ : ∃ W4, w4.alloc (.cells #[.int .i64 0, .int .i64 30000, .int .i64 30001] 2) = W4 ∧ Below w4.heap.size w4 W4 := ⟨_, rfl, below_new _ _⟩
         rw [hW4]
         have HD5 := HD4.below b4
         have HX5 := HX4.below b4
         have HN5 := HN4.below b4
         have HS5 := hs4.kept (Kept.of_below (X := fun _ => False) b4) (fun k h => h.elim)
         have HK5 := HK4.trans (Kept.of_below b4)
         skip
         clear hW4 M0' F0' KA M0 F0 C0' C0 K4 hk4 hz hs4 HD4 HX4 HN4 HK4
         have C0 := HN5.cell 0 (by simp)
         have C1 := HN5.cell 1 (by simp)
         have R0 := HX5.cell 0 (by simp)
         have R1 := HX5.cell 1 (by simp)
         have G0 := HX5.frozen 0
         have G1 := HX5.frozen 1
         have DN := hid (HD5.stP (o := 4) (u := .int .i64 zb) hlt (fun X h => by simpa using h.setLim 0 hp0 zb) (by simp) hn7 (by omega) HS5 HK5)
         have HX6 := hid (HX5.kept ((Kept.refl (· = gp) W4).setCell (p := ⟨gp, 4, none⟩) rfl (.int .i64 zb)) (fun e => hpw e.symm))
         clear HN5 HX5 HD5 HS5 HK5
         go_wp2_with fail
         obtain ⟨W, hW, ⟨e0, e1⟩, hd5⟩ := any_end HX6.out hlt DN.out
         rw [hW]
         first | exact bodyPost_ret (v := .agg #[.slice (some ⟨gn, 0, none⟩) n.nodes.length cn, .slice (some ⟨gp, 0, none⟩) n.pipes.length cp]) (by simp [results, Tryz.results33, go_sem, e0, e1]) rfl ⟨_, _, _, rfl, hd5⟩ | exact bodyPost_ret (v := .agg #[.slice (some ⟨gn, 0, none⟩) n.nodes.length cn, .slice (some ⟨gp, 0, none⟩) n.pipes.length cp]) (by simp [results, Tryz.results33, go_sem, e0, e1]) rfl ⟨_, _, rfl, _, hd5⟩)
      | (have HD5 := HD4
         have HX5 := HX4
         have HN5 := HN4
         have HS5 := hs4
         have HK5 := HK4
         clear M0 F0 C0 K4 hk4 hz hs4 HD4 HX4 HN4 HK4
         have C0 := HN5.cell 0 (by simp)
         have C1 := HN5.cell 1 (by simp)
         have R0 := HX5.cell 0 (by simp)
         have R1 := HX5.cell 1 (by simp)
         have G0 := HX5.frozen 0
         have G1 := HX5.frozen 1
         have DN := hid (HD5.stP (o := 4) (u := .int .i64 zb) hlt (fun X h => by simpa using h.setLim 0 hp0 zb) (by simp) hn7 (by omega) HS5 HK5)
         have HX6 := hid (HX5.kept ((Kept.refl (· = gp) w4).setCell (p := ⟨gp, 4, none⟩) rfl (.int .i64 zb)) (fun e => hpw e.symm))
         clear HN5 HX5 HD5 HS5 HK5
         go_wp2_with fail
         obtain ⟨W, hW, ⟨e0, e1⟩, hd5⟩ := any_end HX6.out hlt DN.out
         rw [hW]
         first | exact bodyPost_ret (v := .agg #[.slice (some ⟨gn, 0, none⟩) n.nodes.length cn, .slice (some ⟨gp, 0, none⟩) n.pipes.length cp]) (by simp [results, Tryz.results33, go_sem, e0, e1]) rfl ⟨_, _, _, rfl, hd5⟩ | exact bodyPost_ret (v := .agg #[.slice (some ⟨gn, 0, none⟩) n.nodes.length cn, .slice (some ⟨gp, 0, none⟩) n.pipes.length cp]) (by simp [results, Tryz.results33, go_sem, e0, e1]) rfl ⟨_, _, rfl, _, hd5⟩)
  go_wp2_with fail
  obtain ⟨W, hW, ⟨e0, e1⟩, hd5⟩ := any_end (HX3.out) hlt (HD3.out.dnet hn7 (by omega) HS3.out HK3.out)
  rw [hW]
  exact bodyPost_ret (v := .agg #[.slice (some ⟨gn, 0, none⟩) n.nodes.length cn, .slice ap n.pipes.length cp]) (by simp [results, Tryz.results33, go_sem, e0, e1]) rfl ⟨_, _, _, rfl, hd5⟩

end Go.Proofs.YtdbgncinaacheaaGreatDoor
