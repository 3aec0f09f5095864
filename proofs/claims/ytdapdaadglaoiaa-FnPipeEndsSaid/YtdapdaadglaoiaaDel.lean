/- slices.Delete of one pipe; withoutPipe, WithoutPipe of both sides. -/
import Derived.Test.YtdapdaadglaoiaaTurn
import Derived.Deep.RegionLaw
import Derived.Laws.IdiomCopy
import Derived.Deep.MidRow
import Derived.Lib.SliceRun
namespace Go.Proofs.Ytdapdaadglaoiaa
open Go.RowKit

theorem kept_setCells (b : Nat) : ∀ (vs : List Value) (o : Nat) (w : World), Kept (fun k => k = b) w (w.setCells b o vs)
  | [], _, w => Kept.refl _ w
  | v :: r, o, w => ((Kept.refl (fun k => k = b) w).setCell (p := ⟨b, o, none⟩) rfl v).trans (kept_setCells b r (o + 1) _)

/-- Zero cells for one pipe. -/
def zCells : List Value := [.int .i64 0, .int .i64 0, .int .i64 0, .int .i64 0, .int .i64 0]
theorem run_clear_one (w : World) (ty : TypeId) (b o c : Nat) (hc : ∀ j, j < 5 → (w.cell? ⟨b, o + j, none⟩).isSome = true) (hf : ∀ j, j < 5 → w.frozen? ⟨b, o + j, none⟩ = false) :
    (Builtin.clear_ #[25] ty #[.slice (some ⟨b, o, none⟩) 1 c]).run Try.prog w = .ok (.tuple #[]) (w.setCells b o zCells) := by
  have hzv : (zeroValue 73).run Try.prog w = .ok (.agg #[.int .i64 0, .int .i64 0, .int .i64 0, .int .i64 0, .int .i64 0]) w := by kernel_rfl
  have hzc : (Builtin.zeroCells (Value.agg #[.int .i64 0, .int .i64 0, .int .i64 0, .int .i64 0, .int .i64 0]).cells 1).toList = zCells := by kernel_rfl
  have hst := run_storeCells_cells (P := Try.prog) b o zCells 0 w (by simpa [zCells] using hc) (by simpa [zCells] using hf) (by intro v hv; simp [zCells] at hv; subst hv; rfl)
  simp only [Nat.add_zero] at hst
  simp [Builtin.clear_, run_underlying Try.underlying25, hzv, hzc, hst]

/-- The rows that are left when one is taken out and those behind it move up; the world in which this has been done. -/
theorem del_rows {X : Nat → Prop} {w : World} {b off cap : Nat} {xs : List Pp} (h : RowsOwn encP 5 X w (.slice (some ⟨b, off, none⟩) xs.length cap) xs) (k : Nat) (hk : k < xs.length) (vs : List Value) :
    RowsOwn encP 5 X ((w.setCells b (off + k * 5) ((xs.drop (k + 1)).flatMap encP)).setCells b (off + (xs.length - 1) * 5) vs) (.slice (some ⟨b, off, none⟩) (xs.length - 1) cap) (xs.take k ++ xs.drop (k + 1)) := by
  obtain ⟨b', off', ha, hl, hx, hfr, hcc⟩ := h.at' (by omega)
  simp only [Option.some.injEq, Addr.mk.injEq, and_true] at ha
  obtain ⟨rfl, rfl⟩ := ha
  have hlen : (xs.take k ++ xs.drop (k + 1)).length = xs.length - 1 := by simp; omega
  have hfl : ((xs.drop (k + 1)).flatMap encP).length = (xs.length - (k + 1)) * 5 := by rw [flat_len lenP]; simp
  have hth : ∀ q, q < xs.length * 5 → ∃ u, w.cell? ⟨b, off + q, none⟩ = some u := fun q hq => by
    have hi : q / 5 < xs.length := by omega
    have := hcc (q / 5) hi (q % 5) (by rw [lenP]; omega)
    exact ⟨_, by rw [(by omega : off + q = off + q / 5 * 5 + q % 5)]; exact this⟩
  refine ⟨by rw [hlen]; have := h.1; omega, _, cap, by rw [hlen], Or.inr ⟨b, off, rfl, ?_, hx, fun o => ?_, fun i hi j hj => ?_⟩⟩
  · have h1 := (kept_setCells b ((xs.drop (k + 1)).flatMap encP) (off + k * 5) w).size
    have h2 := (kept_setCells b vs (off + (xs.length - 1) * 5) (w.setCells b (off + k * 5) ((xs.drop (k + 1)).flatMap encP))).size
    omega
  · rw [World.frozen?_setCells, World.frozen?_setCells]; exact hfr o
  · rw [hlen] at hi
    have hj5 : j < 5 := by rw [← lenP ((xs.take k ++ xs.drop (k + 1))[i])]; exact hj
    rw [World.cell?_setCells_out _ _ _ _ _ (fun _ _ => Or.inl (by simp only; omega))]
    by_cases hik : i < k
    · rw [World.cell?_setCells_out _ _ _ _ _ (fun _ _ => Or.inl (by simp only; omega))]
      have e : (xs.take k ++ xs.drop (k + 1))[i] = xs[i] := by rw [List.getElem_append_left (by simp; omega)]; simp
      simp only [e] at hj ⊢
      exact hcc i (by omega) j hj
    · have hq : (i - k) * 5 + j < ((xs.drop (k + 1)).flatMap encP).length := by rw [hfl]; omega
      have hin := World.cell?_setCells_in b ((xs.drop (k + 1)).flatMap encP) (off + k * 5) w (fun q hq' => by
        obtain ⟨u, hu⟩ := hth (k * 5 + q) (by rw [hfl] at hq'; omega)
        rw [Nat.add_assoc, hu]; rfl) ((i - k) * 5 + j) hq
      have e1 : off + i * 5 + j = off + k * 5 + ((i - k) * 5 + j) := by omega
      rw [e1, hin]
      have hg := flat_get lenP (xs.drop (k + 1)) (i - k) j (by simp; omega) hj5
      rw [List.getElem?_eq_getElem hq] at hg
      have e : (xs.take k ++ xs.drop (k + 1))[i] = (xs.drop (k + 1))[i - k]'(by simp; omega) := by
        rw [List.getElem_append_right (by simp; omega)]
        congr 1; simp; omega
      simp only [e] at hj ⊢
      rw [List.getElem?_eq_getElem hj] at hg
      exact hg

set_option maxHeartbeats 1000000 in
set_option maxRecDepth 100000 in
theorem delete_any (X : Nat → Prop) (b off cap : Nat) (xs : List Pp) (k : Nat) (w : World) (h : RowsOwn encP 5 X w (.slice (some ⟨b, off, none⟩) xs.length cap) xs) (hcap : xs.length ≤ cap) (hk : k < xs.length) (hl : xs.length ≤ 2000000) :
    Calls Try.prog 165 #[.slice (some ⟨b, off, none⟩) xs.length cap, .int .i64 k, .int .i64 ((k : Int) + 1)] w fun e w' =>
      e = .returned (.slice (some ⟨b, off, none⟩) (xs.length - 1) cap) ∧ RowsOwn encP 5 X w' (.slice (some ⟨b, off, none⟩) (xs.length - 1) cap) (xs.take k ++ xs.drop (k + 1)) ∧ Kept (fun c => c = b) w w' := by
  obtain ⟨b', off', ha, hbl, hx, hfr, hcc⟩ := h.at' (by omega)
  simp only [Option.some.injEq, Addr.mk.injEq, and_true] at ha
  obtain ⟨rfl, rfl⟩ := ha
  have hth : ∀ q, q < xs.length * 5 → ∃ u, w.cell? ⟨b, off + q, none⟩ = some u := fun q hq => by
    have hi : q / 5 < xs.length := by omega
    have := hcc (q / 5) hi (q % 5) (by rw [lenP]; omega)
    exact ⟨_, by rw [(by omega : off + q = off + q / 5 * 5 + q % 5)]; exact this⟩
  obtain ⟨news, hnews⟩ : ∃ news, news = (xs.drop (k + 1)).flatMap encP := ⟨_, rfl⟩
  have hlen : news.length = (xs.length - (k + 1)) * 5 := by rw [hnews, flat_len lenP]; simp
  obtain ⟨A, hA, hsrc⟩ : ∃ A : Addr, (if cap = k + 1 then some (⟨b, off, none⟩ : Addr) else some ⟨b, off + (k + 1) * 5, none⟩) = some A ∧ Hid (∀ t u, news[t]? = some u → w.drew.cell? (A.add t) = some u) := by
    by_cases hc : cap = k + 1
    · refine ⟨⟨b, off, none⟩, by simp [hc], fun t u hu => ?_⟩
      have h0 : news.length = 0 := by rw [hlen]; omega
      rw [List.length_eq_zero_iff.1 h0] at hu
      simp at hu
    · refine ⟨⟨b, off + (k + 1) * 5, none⟩, by simp [hc], fun t u hu => ?_⟩
      rw [hnews] at hu
      refine rows_news lenP (by decide) (fun i hi => ?_) t u hu
      have hi' : i < xs.length - (k + 1) := by simpa using hi
      have := hcc (k + 1 + i) (by omega)
      rw [(by omega : off + (k + 1) * 5 + i * 5 = off + (k + 1 + i) * 5), List.getElem_drop]
      exact this
  have s1 : Hid (news.length = (xs.length - (k + 1)) * 5) := hlen
  have s2 : Hid (∀ u ∈ news, u.oneCell' = true) := by
    intro u hu
    rw [hnews] at hu
    obtain ⟨x, _, hx⟩ := List.mem_flatMap.1 hu
    exact oneP x u hx
  have s3 : Hid (∀ t, t < news.length → (w.drew.cell? ⟨b, off + k * 5 + t, none⟩).isSome = true ∧ w.drew.frozen? ⟨b, off + k * 5 + t, none⟩ = false) := by
    intro t ht
    rw [hlen] at ht
    obtain ⟨u, hu⟩ := hth (k * 5 + t) (by omega)
    refine ⟨by show (w.cell? _).isSome = true; rw [Nat.add_assoc, hu]; rfl, hfr _⟩
  obtain ⟨W1, hW1⟩ : ∃ W1, W1 = w.drew.setCells b (off + k * 5) news := ⟨_, rfl⟩
  have hdx : k + (xs.length - (k + 1)) = xs.length - 1 := by omega
  have hcl : ∀ ty, (Builtin.clear_ #[25] ty #[.slice (some ⟨b, off + (k + (xs.length - (k + 1))) * 5, none⟩) (xs.length - (k + (xs.length - (k + 1)))) (cap - (k + (xs.length - (k + 1))))]).run Try.prog W1 = .ok (.tuple #[]) (W1.setCells b (off + (xs.length - 1) * 5) zCells) := fun ty => by
    rw [hdx, (by omega : xs.length - (xs.length - 1) = 1)]
    refine run_clear_one W1 ty b _ _ (fun j hj => ?_) (fun j hj => ?_)
    · rw [hW1]
      obtain ⟨u, hu⟩ := hth ((xs.length - 1) * 5 + j) (by omega)
      refine World.isSome_setCells _ _ _ _ _ ?_
      show (w.cell? _).isSome = true
      rw [Nat.add_assoc, hu]; rfl
    · rw [hW1, World.frozen?_setCells]; exact hfr _
  have hW : Hid (W1 = w.drew.setCells b (off + k * 5) news) := hW1
  have HD : Hid (RowsOwn encP 5 X (W1.setCells b (off + (xs.length - 1) * 5) zCells) (.slice (some ⟨b, off, none⟩) (xs.length - 1) cap) (xs.take k ++ xs.drop (k + 1))) := by
    rw [hW1, hnews]
    exact del_rows (h.below (Below.refl _ _).drew) k hk zCells
  have HK : Hid (Kept (fun c => c = b) w (W1.setCells b (off + (xs.length - 1) * 5) zCells)) := by
    rw [hW1]
    exact ((Kept.refl (fun c => c = b) w).drew.trans (kept_setCells _ _ _ _)).trans (kept_setCells _ _ _ _)
  obtain ⟨i0, hi0, hz0, hz1, hz2⟩ := info_parts infoP
  have hkc : k ≤ cap := by omega
  have hkc1 : k + 1 ≤ cap := by omega
  have HDX := hid hdx
  have hI0 : (0 : Int) ≤ (k : Int) + 1 := by omega
  have hI1 : (k : Int) + 1 ≤ (xs.length : Int) := by omega
  clear hW1 hth hcc hfr h hnews hlen hdx
  go_enter Try.func165, Try.ntmps165
  go_wp2_with fail
  go_region_law (refine step_append_room rfl (.tmp 22) (.tmp 25) 25 rfl 73 i0 5 Try.underlying25 hi0 hz1 b off k cap (by simp [Act.eval, Act.put]) A (xs.length - (k + 1)) (cap - (k + 1)) news (by simp [Act.eval, Act.put]) s1.out hsrc.out s2.out (by omega) s3.out ?_; rw [← hW.out])
  go_wp2_with fail
  go_ret
  exact ⟨by rw [← HDX.out]; rfl, HD.out, HK.out⟩

def dropNet (n : Net) (k : Nat) : Net := ⟨n.nodes, n.pipes.take k ++ n.pipes.drop (k + 1)⟩

set_option maxHeartbeats 1000000 in
set_option maxRecDepth 100000 in
theorem withoutPipe_any (nv pv : Value) (n : Net) (k : Nat) (w : World) (h : NetAt w nv pv n) (hl1 : n.nodes.length ≤ 2000000) (hl2 : n.pipes.length ≤ 2000000) (hk : k < n.pipes.length) :
    Calls Try.prog 125 #[.agg #[nv, pv], .int .i64 k] w fun e w' => ∃ nv' pv', e = .returned (.agg #[nv', pv']) ∧ NetApart w.heap.size w'.heap.size w' nv' pv' (dropNet n k) ∧ (CapOk nv' ∧ CapOk pv') ∧ Below w.heap.size w w' := by
  obtain ⟨a0, k0, rfl⟩ := h.1.shape
  obtain ⟨a1, k1, rfl⟩ := h.2.2.shape
  obtain ⟨W0, hW0⟩ : ∃ W0, W0 = (w.alloc (.cells #[.slice a0 n.nodes.length k0, .slice a1 n.pipes.length k1] 27)).alloc (.cells #[.slice none 0 0, .slice none 0 0] 27) := ⟨_, rfl⟩
  have hWb : Below w.heap.size w W0 := by rw [hW0]; exact (below_new w _).alloc (by simp) _
  have hsz : W0.heap.size = w.heap.size + 1 + 1 := by rw [hW0]; simp
  have HC : Hid (∀ W, Below W0.heap.size W0 W → _) := fun W hW => two_boxes hW0 hW
  have HN := h.below hWb
  obtain ⟨c0, c1, r0, r1, f0, f1⟩ := HC.out W0 (Below.refl _ _)
  have HW := hid hWb
  clear h hWb
  go_enter Try.func125, Try.ntmps125
  go_wp2_with fail
  rw [← hW0]
  have HW0 := hid hW0
  clear hW0
  refine (cloneNetwork_any _ _ n _ HN hl1 hl2).mono ?_
  clear c0 c1 r0 r1 f0 f1
  rintro e w3 ⟨nv', pv', rfl, oo, ⟨q0, q1⟩, b3⟩
  obtain ⟨d0, d1, r0', r1', f0', f1'⟩ := HC.out _ b3
  obtain ⟨X, Y, hX, hY, hd, oN, hok, oP⟩ := oo
  obtain ⟨aN, cN, rfl⟩ := oN.at.shape
  obtain ⟨aP, cP, rfl⟩ := oP.at.shape
  obtain ⟨pb, po, rfl, hpl, hYp, hpf, hpc⟩ := oP.at' (by omega)
  have z3 := b3.size
  have HB3 := hid (HW.out.trans (b3.mono HW.out.size))
  have hyb := hY pb hYp
  have bO := below_new w3 (.cells #[.slice aN n.nodes.length cN, .slice (some ⟨pb, po, none⟩) n.pipes.length cP] 27)
  have hbo := Box.new w3 #[.slice aN n.nodes.length cN, .slice (some ⟨pb, po, none⟩) n.pipes.length cP] 27
  have hbf : ∀ o, (w3.alloc (.cells #[.slice aN n.nodes.length cN, .slice (some ⟨pb, po, none⟩) n.pipes.length cP] 27)).frozen? ⟨w3.heap.size, o, none⟩ = false := fun o => by simp
  have h2s : w.heap.size + 1 < w3.heap.size := by omega
  have e0 := (bO.cell (p := ⟨w.heap.size + 1, 0, none⟩) h2s).trans r0'
  have e1 := (bO.cell (p := ⟨w.heap.size + 1, 1, none⟩) h2s).trans r1'
  have v0 := (bO.frozen (p := ⟨w.heap.size + 1, 0, none⟩) h2s).trans f0'
  have v1 := (bO.frozen (p := ⟨w.heap.size + 1, 1, none⟩) h2s).trans f1'
  have HBO := hid (HB3.out.trans (bO.mono HB3.out.size))
  have HON := hid (oN.below bO)
  have HOP := hid (oP.below bO)
  have HBX := hid hbo
  have HBF := hid hbf
  have hsum : IntKind.i64.wrap ((k : Int) + 1) = (k : Int) + 1 := IntWalk.i64_in _ (by omega)
  have hq1 := q1.le
  clear b3 d0 d1 r0' r1' f0' f1' oN oP hpc hpf bO hbo hbf
  go_wp2_with fail
  refine (delete_any Y pb po cP n.pipes k _ HOP.out hq1 hk hl2).mono ?_
  rintro e w4 ⟨rfl, oD, K4⟩
  have bx4 := HBX.out.kept K4 (by omega)
  obtain ⟨o0, o1⟩ := bx4.two
  have hfo := (World.frozen?_of_block (w := w3.alloc (.cells #[.slice aN n.nodes.length cN, .slice (some ⟨pb, po, none⟩) n.pipes.length cP] 27)) (a := ⟨w3.heap.size, 1, none⟩) (K4.block _ (by simp) (by show ¬ (w3.heap.size = pb); omega))).trans (HBF.out 1)
  have E0 := K4.cell e0 (by simp only; omega)
  have E1 := K4.cell e1 (by simp only; omega)
  have V0 := (World.frozen?_of_block (w := w3.alloc (.cells #[.slice aN n.nodes.length cN, .slice (some ⟨pb, po, none⟩) n.pipes.length cP] 27)) (a := ⟨w.heap.size + 1, 0, none⟩) (K4.block _ (by simp; omega) (by show ¬ (w.heap.size + 1 = pb); omega))).trans v0
  have V1 := (World.frozen?_of_block (w := w3.alloc (.cells #[.slice aN n.nodes.length cN, .slice (some ⟨pb, po, none⟩) n.pipes.length cP] 27)) (a := ⟨w.heap.size + 1, 1, none⟩) (K4.block _ (by simp; omega) (by show ¬ (w.heap.size + 1 = pb); omega))).trans v1
  have HD := hid oD
  have HK := hid K4
  have z4 := K4.size
  simp only [World.size_alloc] at z4
  clear e0 e1 v0 v1 oD K4 bx4
  go_wp2_with fail
  obtain ⟨W5, hW5⟩ : ∃ W5, W5 = w4.setCell ⟨w3.heap.size, 1, none⟩ (.slice (some ⟨pb, po, none⟩) (n.pipes.length - 1) cP) := ⟨_, rfl⟩
  have K5 : Kept (fun b => b = w3.heap.size) w4 W5 := by rw [hW5]; exact (Kept.refl (fun b => b = w3.heap.size) w4).setCell (p := ⟨w3.heap.size, 1, none⟩) rfl _
  rw [← hW5]
  have E0' := K5.cell E0 (by simp only; omega)
  have E1' := K5.cell E1 (by simp only; omega)
  have z5 := K5.size
  have K2 := kept_two (w := W5) (w.heap.size + 1) (.slice aN n.nodes.length cN) (.slice (some ⟨pb, po, none⟩) (n.pipes.length - 1) cP)
  obtain ⟨t0, t1⟩ := (box_two_set (x := .slice aN n.nodes.length cN) (y := .slice (some ⟨pb, po, none⟩) (n.pipes.length - 1) cP) E0' E1').two
  have hz := HBO.out.size
  refine bodyPost_ret (v := .agg #[.slice aN n.nodes.length cN, .slice (some ⟨pb, po, none⟩) (n.pipes.length - 1) cP]) (by simp only [results, Try.results125]; simp [go_sem, t0, t1]) rfl ?_
  refine ⟨_, _, rfl, ⟨X, Y, fun b hb => ⟨by have := hX b hb; omega, by have := hX b hb; simp only [World.size_setCell]; omega⟩, fun b hb => ⟨by have := hY b hb; omega, by have := hY b hb; simp only [World.size_setCell]; omega⟩, hd, ?_, hok, ?_⟩, ⟨q0, CapOk.mk (by omega)⟩, HBO.out.trans ((HK.out.below hz (fun b hb => by omega)).trans ((K5.below (by simp only [World.size_alloc] at hz; omega) (fun b hb => by omega)).trans (K2.below (by simp only [World.size_alloc] at hz; omega) (fun b hb => by omega))))⟩
  · exact ((HON.out.kept HK.out (fun b _ hb e => hd b hb (by rw [e]; exact hYp))).kept K5 (fun b _ hb e => by have := hX b hb; omega)).kept K2 (fun b _ hb e => by have := hX b hb; omega)
  · exact (HD.out.kept K5 (fun b _ hb e => by have := hY b hb; omega)).kept K2 (fun b _ hb e => by have := hY b hb; omega)

def wpR (n : Net) (x : Int) : Net × Int := if codeOf n n.pipes.length x = 0 then (dropNet n x.toNat, 0) else (zNet, codeOf n n.pipes.length x)
theorem wpR_len (n : Net) (x : Int) (h1 : n.nodes.length ≤ 2000000) (h2 : n.pipes.length ≤ 2000000) : (wpR n x).1.nodes.length ≤ 2000000 ∧ (wpR n x).1.pipes.length ≤ 2000000 := by
  unfold wpR
  split
  · exact ⟨h1, by simp [dropNet]; omega⟩
  · simp [zNet]

set_option maxHeartbeats 1000000 in
set_option maxRecDepth 100000 in
theorem impl_WithoutPipe_any (nv pv : Value) (n : Net) (x : Int) (w : World) (h : NetAt w nv pv n) (hcap : CapOk nv) :
    Calls Try.prog 66 #[.agg #[nv, pv], .int .i64 x] w (OutN w (wpR n x)) := by
  obtain ⟨a0, k0, rfl⟩ := h.1.shape
  obtain ⟨a1, k1, rfl⟩ := h.2.2.shape
  have hl2 := h.2.2.1
  obtain ⟨W0, hW0⟩ : ∃ W0, W0 = (w.alloc (.cells #[.slice a0 n.nodes.length k0, .slice a1 n.pipes.length k1] 27)).alloc (.cells #[.slice none 0 0, .slice none 0 0] 27) := ⟨_, rfl⟩
  have hWb : Below w.heap.size w W0 := by rw [hW0]; exact (below_new w _).alloc (by simp) _
  have hsz : W0.heap.size = w.heap.size + 1 + 1 := by rw [hW0]; simp
  have HC : Hid (∀ W, Below W0.heap.size W0 W → _) := fun W hW => two_boxes hW0 hW
  have HN : Hid (∀ W, Below W0.heap.size W0 W → NetAt W (.slice a0 n.nodes.length k0) (.slice a1 n.pipes.length k1) n) := fun W hW => (h.below hWb).below hW
  obtain ⟨c0, c1, r0, r1, f0, f1⟩ := HC.out W0 (Below.refl _ _)
  have HW := hid hWb
  clear h hWb
  go_enter Try.func66, Try.ntmps66
  go_wp2_with fail
  rw [← hW0]
  have HW0 := hid hW0
  clear hW0
  refine (impl_IsNetwork_any _ _ n _ (HN.out _ (Below.refl _ _)) hcap).mono ?_
  cases hb : netB n
  · have hr : Hid (wpR n x = (zNet, 1)) := by simp [Hid, wpR, codeOf, hb]
    rintro e w1 ⟨rfl, b1⟩
    obtain ⟨d0, d1, r0', r1', f0', f1'⟩ := HC.out _ b1
    have HB := hid (HW.out.trans (b1.mono HW.out.size))
    have z1 := b1.size
    clear b1 c0 c1 r0 r1 f0 f1
    go_wp2_with fail
    refine bodyPost_ret (v := .tuple #[.agg #[.slice none 0 0, .slice none 0 0], .int .i64 1]) (by simp [results, Try.results66, go_sem, r0', r1']) rfl ?_
    rw [hr.out]
    exact ⟨_, _, rfl, NetApart.zero _ _ _, ⟨CapOk.mk (Nat.le_refl _), CapOk.mk (Nat.le_refl _)⟩, HB.out.trans ((kept_two _ _ _).below HB.out.size (fun b hb => by omega))⟩
  have hnl := netB_t hb
  rintro e w1 ⟨rfl, b1⟩
  obtain ⟨d0, d1, r0', r1', f0', f1'⟩ := HC.out _ b1
  clear c0 c1 r0 r1 f0 f1
  go_wp2_with fail
  refine (isPipeOf_alloc _ _ n.pipes.length x _ hl2 ⟨_, _, _, rfl⟩ ⟨_, _, rfl⟩).mono ?_
  cases hx : inB x 0 ((n.pipes.length : Int) - 1)
  · have hr : Hid (wpR n x = (zNet, 2)) := by simp [Hid, wpR, codeOf, hb, hx]
    rintro e w2 ⟨rfl, hw2⟩
    have b2 : Below W0.heap.size W0 w2 := b1.trans (by rw [hw2]; exact (below_new w1 _).mono b1.size)
    obtain ⟨c0, c1, r0, r1, f0, f1⟩ := HC.out _ b2
    have HB := hid (HW.out.trans (b2.mono HW.out.size))
    clear b1 b2 d0 d1 r0' r1' f0' f1' hw2
    go_wp2_with fail
    refine bodyPost_ret (v := .tuple #[.agg #[.slice none 0 0, .slice none 0 0], .int .i64 2]) (by simp [results, Try.results66, go_sem, r0, r1]) rfl ?_
    rw [hr.out]
    exact ⟨_, _, rfl, NetApart.zero _ _ _, ⟨CapOk.mk (Nat.le_refl _), CapOk.mk (Nat.le_refl _)⟩, HB.out.trans ((kept_two _ _ _).below HB.out.size (fun b hb => by omega))⟩
  have hxr := inB_t hx
  obtain ⟨k, rfl⟩ : ∃ k : Nat, x = k := ⟨x.toNat, by omega⟩
  have hk : k < n.pipes.length := by omega
  have hr : Hid (wpR n k = (dropNet n k, 0)) := by simp [Hid, wpR, codeOf, hb, hx]
  rintro e w2 ⟨rfl, hw2⟩
  have b2 : Below W0.heap.size W0 w2 := b1.trans (by rw [hw2]; exact (below_new w1 _).mono b1.size)
  obtain ⟨c0, c1, r0, r1, f0, f1⟩ := HC.out _ b2
  clear d0 d1 r0' r1' f0' f1' hw2 b1
  go_wp2_with fail
  refine (withoutPipe_any _ _ n k _ (HN.out _ b2) (by omega) (by omega) hk).mono ?_
  rintro e w3 ⟨nv', pv', rfl, oo, ⟨q0, q1⟩, b3⟩
  have B3 := b2.trans (b3.mono b2.size)
  obtain ⟨d0, d1, r0', r1', f0', f1'⟩ := HC.out _ B3
  obtain ⟨aN, cN, rfl⟩ := oo.at.1.shape
  obtain ⟨aP, cP, rfl⟩ := oo.at.2.2.shape
  have z2 := b2.size
  have z3 := b3.size
  have HB := hid (HW.out.trans (B3.mono HW.out.size))
  have HO := hid oo
  clear c0 c1 r0 r1 f0 f1 b2 b3 B3 oo hx hxr
  go_wp2_with fail
  have K2 := kept_two (w := w3) (w.heap.size + 1) (.slice aN (dropNet n k).nodes.length cN) (.slice aP (dropNet n k).pipes.length cP)
  obtain ⟨t0, t1⟩ := (box_two_set (x := .slice aN (dropNet n k).nodes.length cN) (y := .slice aP (dropNet n k).pipes.length cP) r0' r1').two
  refine bodyPost_ret (v := .tuple #[.agg #[.slice aN (dropNet n k).nodes.length cN, .slice aP (dropNet n k).pipes.length cP], .int .i64 0]) (by simp only [results, Try.results66]; simp [go_sem, t0, t1]) rfl ?_
  rw [hr.out]
  exact ⟨_, _, rfl, (HO.out.kept K2 (fun b h1 h2 e => by omega)).widen (by omega) (by simp only [World.size_setCell]; omega), ⟨q0, q1⟩, HB.out.trans (K2.below HB.out.size (fun b hb => by omega))⟩

end Go.Proofs.Ytdapdaadglaoiaa
