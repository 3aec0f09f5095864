/- The draws of nodes, pipes and networks: some network. -/
import Derived.Test.YtdapdaadglaoiaaDraw
import Derived.Test.YtdapdaadglaoiaaClone
import Derived.Laws.BytesArg
namespace Go.Proofs.Ytdapdaadglaoiaa
open Go.RowKit

theorem Kept.ofNew {w w' : World} {X : Nat → Prop} (h : Below w.heap.size w w') : Kept X w w' := Kept.of_below h
theorem l01Next_gen (s : Nat) (n : Int) (w : World) (hn2 : n ≤ 4000000000000000000) (h : Src 126 w s) :
    Calls Try.prog 92 #[.pointer (some ⟨s, 0, none⟩), .int .i64 n] w fun e w' =>
      ∃ r : Int, e = .returned (.int .i64 r) ∧ 0 ≤ r ∧ (r < n ∨ r = 0) ∧ Src 126 w' s ∧ Kept (· = s) w w' := by
  by_cases hn : 1 < n
  · refine (l01Next_any s n w hn hn2 h).mono ?_
    rintro e w' ⟨r, rfl, h0, h1, h2, h3⟩
    exact ⟨r, rfl, h0, Or.inl h1, h2, h3⟩
  · refine (l01Next_small s n w (by omega)).mono ?_
    rintro e w' ⟨rfl, rfl⟩
    exact ⟨0, rfl, by omega, Or.inr rfl, h, Kept.refl _ _⟩

theorem strOne_sz (z : Int) : (strOfNums [z]).size = 1 := rfl
theorem conv_one' (W : World) (z : Int) : (convert 22 9 (.slice (some ⟨W.heap.size, 0, none⟩) 1 1)).run Try.prog (W.alloc (.cells #[.int .u8 z] 5)) = .ok (.string (strOfNums [z])) (W.alloc (.cells #[.int .u8 z] 5)) :=
  run_convert_bytes_arg _ 22 5 Try.underlying22 Try.underlying5 W.heap.size 0 1 1 [z] rfl (fun i hi => by
    obtain rfl : i = 0 := by omega
    rw [World.cell?_alloc_new]; rfl) 9 Try.underlying9
theorem l01Dec_small (n : Int) (w : World) (h0 : 0 ≤ n) (h1 : n < 10) :
    Calls Try.prog 189 #[.int .i64 n] w fun e w' => e = .returned (.string (strOfNums [48 + n])) ∧ Below w.heap.size w w' := by
  have hcv := conv_one' w (48 + n)
  go_enter Try.func189, Try.ntmps189
  go_wp2_with fail
  go_ret
  exact ⟨rfl, below_new _ _⟩

theorem Kept.setNew {X : Nat → Prop} {a b : World} (h : Kept X a b) {p : Addr} (hp : a.heap.size ≤ p.block) (u : Value) : Kept X a (b.setCell p u) :=
  ((h.mono (Y := fun k => X k ∨ a.heap.size ≤ k) (fun _ _ h => Or.inl h)).setCell (Or.inr hp) u).mono (fun k hk h => h.resolve_right (by omega))
/-- A block of the call's own: its cells, none of them frozen. -/
def Blk (w : World) (b : Nat) (cs : Array Value) (T : TypeId) : Prop := w.heap[b]? = some (.cells cs T (0, 0))
theorem Blk.new (w : World) (cs : Array Value) (T : TypeId) : Blk (w.alloc (.cells cs T)) w.heap.size cs T := heap_alloc_new w _
theorem Blk.lt {w : World} {b : Nat} {cs : Array Value} {T : TypeId} (h : Blk w b cs T) : b < w.heap.size := by
  rcases Nat.lt_or_ge b w.heap.size with h1 | h1
  · exact h1
  · unfold Blk at h; rw [Array.getElem?_eq_none h1] at h; cases h
theorem Blk.kept {X : Nat → Prop} {w w' : World} {b : Nat} {cs : Array Value} {T : TypeId} (h : Blk w b cs T) (hk : Kept X w w') (hX : ¬ X b) : Blk w' b cs T := (hk.block b h.lt hX).trans h
theorem Blk.below {w w' : World} {b : Nat} {cs : Array Value} {T : TypeId} (h : Blk w b cs T) (hb : Below w.heap.size w w') : Blk w' b cs T := (hb.block b h.lt).trans h
theorem Blk.cell {w : World} {b : Nat} {cs : Array Value} {T : TypeId} (h : Blk w b cs T) (j : Nat) (hj : j < cs.size) : w.cell? ⟨b, j, none⟩ = some cs[j] := by
  have h' : w.heap[b]? = some (.cells cs T (0, 0)) := h
  simp [World.cell?, h', hj]
theorem Blk.frozen {w : World} {b : Nat} {cs : Array Value} {T : TypeId} (h : Blk w b cs T) (o : Nat) : w.frozen? ⟨b, o, none⟩ = false := by
  have h' : w.heap[b]? = some (.cells cs T (0, 0)) := h
  simp [World.frozen?, h']
theorem Blk.set {w : World} {b : Nat} {cs : Array Value} {T : TypeId} (h : Blk w b cs T) (o : Nat) (u : Value) : Blk (w.setCell ⟨b, o, none⟩ u) b (cs.setIfInBounds o u) T := heap_setCell_same h u
theorem Blk.drew {w : World} {b : Nat} {cs : Array Value} {T : TypeId} (h : Blk w b cs T) : Blk w.drew b cs T := h

set_option maxRecDepth 100000 in
theorem l02DrawNode_any (s : Nat) (i : Int) (w : World) (h0 : 0 ≤ i) (h1 : i < 10) (h : Src 126 w s) :
    Calls Try.prog 173 #[.pointer (some ⟨s, 0, none⟩), .int .i64 i] w fun e w' =>
      ∃ x : Nd, e = .returned (.agg #[.string x.name, .int .i64 x.low, .int .i64 x.high]) ∧ x.name.size ≤ 100 ∧ Src 126 w' s ∧ Kept (· = s) w w' := by
  have hs := h.lt
  have hW0 := (Kept.refl (· = s) w).alloc (.cells #[.string ⟨#[]⟩, .int .i64 0, .int .i64 0] 71)
  have hbx := Blk.new w #[.string ⟨#[]⟩, .int .i64 0, .int .i64 0] 71
  have h := h.alloc (.cells #[.string ⟨#[]⟩, .int .i64 0, .int .i64 0] 71)
  go_enter Try.func173, Try.ntmps173
  go_wp2_with fail
  refine (l01Next_any s 4000 _ (by omega) (by omega) h).mono ?_
  rintro e w1 ⟨r, rfl, r0, r1, hs1, hk1⟩
  have HK1 := hid (hW0.trans hk1)
  have HX1 := hid (hbx.kept hk1 (by omega))
  clear hW0 hbx hk1
  go_wp2_with fail
  refine (l01Dec_small i _ h0 h1).mono ?_
  rintro e w2 ⟨rfl, b2⟩
  have HK2 := hid (HK1.out.trans (Kept.of_below b2))
  have HX2 := hid (HX1.out.below b2)
  have hs2 := hs1.kept (Kept.of_below (X := fun _ => False) b2) (fun k h => h.elim)
  have z2 := strOne_sz (48 + i)
  clear HK1 HX1 b2
  go_wp2_with fail
  refine (l01Next_any s 60000 _ (by omega) (by omega) hs2).mono ?_
  rintro e w3 ⟨q, rfl, q0, q1, hs3, hk3⟩
  have HK3 := hid (HK2.out.trans hk3)
  have hb3 := HX2.out.kept hk3 (by omega)
  have c0 := hb3.cell 0 (by simp)
  have c1 := hb3.cell 1 (by simp)
  have c2 := hb3.cell 2 (by simp)
  have f0 := hb3.frozen 0
  have f1 := hb3.frozen 1
  have f2 := hb3.frozen 2
  have HX3 := hid hb3
  have HS3 := hid hs3
  have hsn : s ≠ w.heap.size := by omega
  clear HK2 HX2 hk3 hb3 hs3
  go_wp2_with fail
  have hb5 := ((HX3.out.set 0 (.string (⟨#[110]⟩ ++ strOfNums [48 + i]))).set 1 (.int .i64 r)).set 2 (.int .i64 (r + 2000 + q))
  have e0 := hb5.cell 0 (by simp)
  have e1 := hb5.cell 1 (by simp)
  have e2 := hb5.cell 2 (by simp)
  have hk5 := ((HK3.out.setNew (p := ⟨w.heap.size, 0, none⟩) (Nat.le_refl _) (.string (⟨#[110]⟩ ++ strOfNums [48 + i]))).setNew (p := ⟨w.heap.size, 1, none⟩) (Nat.le_refl _) (.int .i64 r)).setNew (p := ⟨w.heap.size, 2, none⟩) (Nat.le_refl _) (.int .i64 (r + 2000 + q))
  have hs5 := HS3.out.kept ((((Kept.refl (· = w.heap.size) w3).setCell (p := ⟨w.heap.size, 0, none⟩) rfl (.string (⟨#[110]⟩ ++ strOfNums [48 + i]))).setCell (p := ⟨w.heap.size, 1, none⟩) rfl (.int .i64 r)).setCell (p := ⟨w.heap.size, 2, none⟩) rfl (.int .i64 (r + 2000 + q))) (fun k h => by omega)
  simp at e0 e1 e2
  exact bodyPost_ret (v := .agg #[.string (⟨#[110]⟩ ++ strOfNums [48 + i]), .int .i64 r, .int .i64 (r + 2000 + q)]) (by simp [results, Try.results173, go_sem, e0, e1, e2]) rfl ⟨⟨⟨#[110]⟩ ++ strOfNums [48 + i], r, r + 2000 + q⟩, rfl, by rw [ByteArray.size_append, z2]; simp [ByteArray.size], hs5, hk5⟩

theorem pipe_end {w w4 : World} {s : Nat} (hb : Blk w4 w.heap.size #[.int .i64 0, .int .i64 0, .int .i64 0, .int .i64 0, .int .i64 0] 73) (hk : Kept (· = s) w w4) (hs : Src 126 w4 s) (hsn : s < w.heap.size) (x0 x1 x2 x3 x4 : Int) :
    ∃ W, (((((w4.setCell ⟨w.heap.size, 0, none⟩ (.int .i64 x0)).setCell ⟨w.heap.size, 1, none⟩ (.int .i64 x1)).setCell ⟨w.heap.size, 2, none⟩ (.int .i64 x2)).setCell ⟨w.heap.size, 3, none⟩ (.int .i64 x3)).setCell ⟨w.heap.size, 4, none⟩ (.int .i64 x4)) = W ∧
      (W.cell? ⟨w.heap.size, 0, none⟩ = some (.int .i64 x0) ∧ W.cell? ⟨w.heap.size, 1, none⟩ = some (.int .i64 x1) ∧ W.cell? ⟨w.heap.size, 2, none⟩ = some (.int .i64 x2) ∧ W.cell? ⟨w.heap.size, 3, none⟩ = some (.int .i64 x3) ∧ W.cell? ⟨w.heap.size, 4, none⟩ = some (.int .i64 x4)) ∧
      Src 126 W s ∧ Kept (· = s) w W := by
  have hb5 := ((((hb.set 0 (.int .i64 x0)).set 1 (.int .i64 x1)).set 2 (.int .i64 x2)).set 3 (.int .i64 x3)).set 4 (.int .i64 x4)
  have e0 := hb5.cell 0 (by simp)
  have e1 := hb5.cell 1 (by simp)
  have e2 := hb5.cell 2 (by simp)
  have e3 := hb5.cell 3 (by simp)
  have e4 := hb5.cell 4 (by simp)
  simp at e0 e1 e2 e3 e4
  refine ⟨_, rfl, ⟨e0, e1, e2, e3, e4⟩, hs.kept (X := (· = w.heap.size)) ?_ (fun k h => ?_), ?_⟩
  · exact (((((Kept.refl (· = w.heap.size) w4).setCell (p := ⟨w.heap.size, 0, none⟩) rfl _).setCell (p := ⟨w.heap.size, 1, none⟩) rfl _).setCell (p := ⟨w.heap.size, 2, none⟩) rfl _).setCell (p := ⟨w.heap.size, 3, none⟩) rfl _).setCell (p := ⟨w.heap.size, 4, none⟩) rfl _
  · have := hs.lt
    have := hb.lt
    have := hk.size
    omega
  · exact ((((hk.setNew (p := ⟨w.heap.size, 0, none⟩) (Nat.le_refl _) _).setNew (p := ⟨w.heap.size, 1, none⟩) (Nat.le_refl _) _).setNew (p := ⟨w.heap.size, 2, none⟩) (Nat.le_refl _) _).setNew (p := ⟨w.heap.size, 3, none⟩) (Nat.le_refl _) _).setNew (p := ⟨w.heap.size, 4, none⟩) (Nat.le_refl _) _
set_option maxRecDepth 100000 in
theorem l02DrawPipe_any (s : Nat) (a b : Int) (w : World) (h : Src 126 w s) :
    Calls Try.prog 174 #[.pointer (some ⟨s, 0, none⟩), .int .i64 a, .int .i64 b] w fun e w' =>
      ∃ p : Pp, e = .returned (.agg #[.int .i64 p.fr, .int .i64 p.to, .int .i64 p.k, .int .i64 p.vol, .int .i64 p.lim]) ∧ Src 126 w' s ∧ Kept (· = s) w w' := by
  have hs := h.lt
  have hlt := h.lt
  have hsn : s ≠ w.heap.size := by omega
  have hW0 := (Kept.refl (· = s) w).alloc (.cells #[.int .i64 0, .int .i64 0, .int .i64 0, .int .i64 0, .int .i64 0] 73)
  have hbx := Blk.new w #[.int .i64 0, .int .i64 0, .int .i64 0, .int .i64 0, .int .i64 0] 73
  have h := h.alloc (.cells #[.int .i64 0, .int .i64 0, .int .i64 0, .int .i64 0, .int .i64 0] 73)
  go_enter Try.func174, Try.ntmps174
  go_wp2_with fail
  refine (l01Next_any s 2 _ (by omega) (by omega) h).mono ?_
  rintro e w1 ⟨r, rfl, r0, r1, hs1, hk1⟩
  have HK1 := hid (hW0.trans hk1)
  have HX1 := hid (hbx.kept hk1 (by omega))
  clear hW0 hbx hk1
  by_cases hr : r = 0
  all_goals
    go_wp2_with fail
    refine (l01Next_any s 9 _ (by omega) (by omega) hs1).mono ?_
    rintro e w2 ⟨q, rfl, q0, q1, hs2, hk2⟩
    have HK2 := hid (HK1.out.trans hk2)
    have HX2 := hid (HX1.out.kept hk2 (by omega))
    clear hk2 HK1 HX1
    go_wp2_with fail
    refine (l01Next_any s 100 _ (by omega) (by omega) hs2).mono ?_
    rintro e w3 ⟨v, rfl, v0, v1, hs3, hk3⟩
    have HK3 := hid (HK2.out.trans hk3)
    have HX3 := hid (HX2.out.kept hk3 (by omega))
    clear hk3 HK2 HX2
    go_wp2_with fail
    refine (l01Next_any s 200 _ (by omega) (by omega) hs3).mono ?_
    rintro e w4 ⟨u, rfl, u0, u1, hs4, hk4⟩
    have HK4 := hid (HK3.out.trans hk4)
    have hb4 := HX3.out.kept hk4 (by omega)
    have c0 := hb4.cell 0 (by simp)
    have c1 := hb4.cell 1 (by simp)
    have c2 := hb4.cell 2 (by simp)
    have c3 := hb4.cell 3 (by simp)
    have c4 := hb4.cell 4 (by simp)
    have f0 := hb4.frozen 0
    have f1 := hb4.frozen 1
    have f2 := hb4.frozen 2
    have f3 := hb4.frozen 3
    have f4 := hb4.frozen 4
    have HX4 := hid hb4
    have HS4 := hid hs4
    clear HK3 HX3 hk4 hb4 hs4
    go_wp2_with fail
  · obtain ⟨W, hW, ⟨e0, e1, e2, e3, e4⟩, hs5, hk5⟩ := pipe_end HX4.out HK4.out HS4.out hlt b a (1 + q) v (1 + u)
    rw [hW]
    exact bodyPost_ret (v := .agg #[.int .i64 b, .int .i64 a, .int .i64 (1 + q), .int .i64 v, .int .i64 (1 + u)]) (by simp [results, Try.results174, go_sem, e0, e1, e2, e3, e4]) rfl ⟨⟨b, a, 1 + q, v, 1 + u⟩, rfl, hs5, hk5⟩
  · obtain ⟨W, hW, ⟨e0, e1, e2, e3, e4⟩, hs5, hk5⟩ := pipe_end HX4.out HK4.out HS4.out hlt a b (1 + q) v (1 + u)
    rw [hW]
    exact bodyPost_ret (v := .agg #[.int .i64 a, .int .i64 b, .int .i64 (1 + q), .int .i64 v, .int .i64 (1 + u)]) (by simp [results, Try.results174, go_sem, e0, e1, e2, e3, e4]) rfl ⟨⟨a, b, 1 + q, v, 1 + u⟩, rfl, hs5, hk5⟩

end Go.Proofs.Ytdapdaadglaoiaa
