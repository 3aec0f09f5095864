/- slices.Delete of one pipe; withoutPipe, WithoutPipe of both sides. WithoutPipe of the reference. ComponentsOf of both sides (printed by wip/gennet1.py). BridgesOf of both sides. BridgesOf of the reference. Bridges and cycles, flows from chords, plain. No program. -/
import Derived.Test.YtdapdaadglaoiaaTurn
import Derived.Test.YtdapdaadglaoiaaComp
import Derived.Test.YtdapdaadglaoiaaBridge
import Derived.Test.YtdapdaadglaoiaaConn
import Derived.Test.YtdapdaadglaoiaaCycP
import Derived.Deep.RegionLaw
import Derived.Laws.IdiomCopy
import Derived.Deep.MidRow
import Derived.Lib.SliceRun
namespace Go.Proofs.Ytdapdaadglaoiaa
open Go.RowKit

theorem kept_setCells (b : Nat) : ∀ (vs : List Value) (o : Nat) (w : World), Kept (fun k => k = b) w (w.setCells b o vs)
  | [], _, w => Kept.refl _ w
  | v :: r, o, w => ((Kept.refl (fun k => k = b) w).setCell (p := ⟨b, o, none⟩) rfl v).trans (kept_setCells b r (o + 1) _)

/-- Zero cells for one pipe. -/
def zCells : List Value := [.int .i64 0, .int .i64 0, .int .i64 0, .int .i64 0, .int .i64 0]
theorem run_clear_one (w : World) (ty : TypeId) (b o c : Nat) (hc : ∀ j, j < 5 → (w.cell? ⟨b, o + j, none⟩).isSome = true) (hf : ∀ j, j < 5 → w.frozen? ⟨b, o + j, none⟩ = false) :
    (Builtin.clear_ #[25] ty #[.slice (some ⟨b, o, none⟩) 1 c]).run Try.prog w = .ok (.tuple #[]) (w.setCells b o zCells) := by
  have hzv : (zeroValue 73).run Try.prog w = .ok (.agg #[.int .i64 0, .int .i64 0, .int .i64 0, .int .i64 0, .int .i64 0]) w := by kernel_rfl
  have hzc : (Builtin.zeroCells (Value.agg #[.int .i64 0, .int .i64 0, .int .i64 0, .int .i64 0, .int .i64 0]).cells 1).toList = zCells := by kernel_rfl
  have hst := run_storeCells_cells (P := Try.prog) b o zCells 0 w (by simpa [zCells] using hc) (by simpa [zCells] using hf) (by intro v hv; simp [zCells] at hv; subst hv; rfl)
  simp only [Nat.add_zero] at hst
  simp [Builtin.clear_, run_underlying Try.underlying25, hzv, hzc, hst]

/-- The rows that are left when one is taken out and those behind it move up; the world in which this has been done. -/
theorem del_rows {X : Nat → Prop} {w : World} {b off cap : Nat} {xs : List Pp} (h : RowsOwn encP 5 X w (.slice (some ⟨b, off, none⟩) xs.length cap) xs) (k : Nat) (hk : k < xs.length) (vs : List Value) :
    RowsOwn encP 5 X ((w.setCells b (off + k * 5) ((xs.drop (k + 1)).flatMap encP)).setCells b (off + (xs.length - 1) * 5) vs) (.slice (some ⟨b, off, none⟩) (xs.length - 1) cap) (xs.take k ++ xs.drop (k + 1)) := by
  obtain ⟨b', off', ha, hl, hx, hfr, hcc⟩ := h.at' (by omega)
  simp only [Option.some.injEq, Addr.mk.injEq, and_true] at ha
  obtain ⟨rfl, rfl⟩ := ha
  have hlen : (xs.take k ++ xs.drop (k + 1)).length = xs.length - 1 := by simp; omega
  have hfl : ((xs.drop (k + 1)).flatMap encP).length = (xs.length - (k + 1)) * 5 := by rw [flat_len lenP]; simp
  have hth : ∀ q, q < xs.length * 5 → ∃ u, w.cell? ⟨b, off + q, none⟩ = some u := fun q hq => by
    have hi : q / 5 < xs.length := by omega
    have := hcc (q / 5) hi (q % 5) (by rw [lenP]; omega)
    exact ⟨_, by rw [(by omega : off + q = off + q / 5 * 5 + q % 5)]; exact this⟩
  refine ⟨by rw [hlen]; have := h.1; omega, _, cap, by rw [hlen], Or.inr ⟨b, off, rfl, ?_, hx, fun o => ?_, fun i hi j hj => ?_⟩⟩
  · have h1 := (kept_setCells b ((xs.drop (k + 1)).flatMap encP) (off + k * 5) w).size
    have h2 := (kept_setCells b vs (off + (xs.length - 1) * 5) (w.setCells b (off + k * 5) ((xs.drop (k + 1)).flatMap encP))).size
    omega
  · rw [World.frozen?_setCells, World.frozen?_setCells]; exact hfr o
  · rw [hlen] at hi
    have hj5 : j < 5 := by rw [← lenP ((xs.take k ++ xs.drop (k + 1))[i])]; exact hj
    rw [World.cell?_setCells_out _ _ _ _ _ (fun _ _ => Or.inl (by simp only; omega))]
    by_cases hik : i < k
    · rw [World.cell?_setCells_out _ _ _ _ _ (fun _ _ => Or.inl (by simp only; omega))]
      have e : (xs.take k ++ xs.drop (k + 1))[i] = xs[i] := by rw [List.getElem_append_left (by simp; omega)]; simp
      simp only [e] at hj ⊢
      exact hcc i (by omega) j hj
    · have hq : (i - k) * 5 + j < ((xs.drop (k + 1)).flatMap encP).length := by rw [hfl]; omega
      have hin := World.cell?_setCells_in b ((xs.drop (k + 1)).flatMap encP) (off + k * 5) w (fun q hq' => by
        obtain ⟨u, hu⟩ := hth (k * 5 + q) (by rw [hfl] at hq'; omega)
        rw [Nat.add_assoc, hu]; rfl) ((i - k) * 5 + j) hq
      have e1 : off + i * 5 + j = off + k * 5 + ((i - k) * 5 + j) := by omega
      rw [e1, hin]
      have hg := flat_get lenP (xs.drop (k + 1)) (i - k) j (by simp; omega) hj5
      rw [List.getElem?_eq_getElem hq] at hg
      have e : (xs.take k ++ xs.drop (k + 1))[i] = (xs.drop (k + 1))[i - k]'(by simp; omega) := by
        rw [List.getElem_append_right (by simp; omega)]
        congr 1; simp; omega
      simp only [e] at hj ⊢
      rw [List.getElem?_eq_getElem hj] at hg
      exact hg

set_option maxHeartbeats 1000000 in
set_option maxRecDepth 100000 in
theorem delete_any (X : Nat → Prop) (b off cap : Nat) (xs : List Pp) (k : Nat) (w : World) (h : RowsOwn encP 5 X w (.slice (some ⟨b, off, none⟩) xs.length cap) xs) (hcap : xs.length ≤ cap) (hk : k < xs.length) (hl : xs.length ≤ 2000000) :
    Calls Try.prog 165 #[.slice (some ⟨b, off, none⟩) xs.length cap, .int .i64 k, .int .i64 ((k : Int) + 1)] w fun e w' =>
      e = .returned (.slice (some ⟨b, off, none⟩) (xs.length - 1) cap) ∧ RowsOwn encP 5 X w' (.slice (some ⟨b, off, none⟩) (xs.length - 1) cap) (xs.take k ++ xs.drop (k + 1)) ∧ Kept (fun c => c = b) w w' := by
  obtain ⟨b', off', ha, hbl, hx, hfr, hcc⟩ := h.at' (by omega)
  simp only [Option.some.injEq, Addr.mk.injEq, and_true] at ha
  obtain ⟨rfl, rfl⟩ := ha
  have hth : ∀ q, q < xs.length * 5 → ∃ u, w.cell? ⟨b, off + q, none⟩ = some u := fun q hq => by
    have hi : q / 5 < xs.length := by omega
    have := hcc (q / 5) hi (q % 5) (by rw [lenP]; omega)
    exact ⟨_, by rw [(by omega : off + q = off + q / 5 * 5 + q % 5)]; exact this⟩
  obtain ⟨news, hnews⟩ : ∃ news, news = (xs.drop (k + 1)).flatMap encP := ⟨_, rfl⟩
  have hlen : news.length = (xs.length - (k + 1)) * 5 := by rw [hnews, flat_len lenP]; simp
  obtain ⟨A, hA, hsrc⟩ : ∃ A : Addr, (if cap = k + 1 then some (⟨b, off, none⟩ : Addr) else some ⟨b, off + (k + 1) * 5, none⟩) = some A ∧ Hid (∀ t u, news[t]? = some u → w.drew.cell? (A.add t) = some u) := by
    by_cases hc : cap = k + 1
    · refine ⟨⟨b, off, none⟩, by simp [hc], fun t u hu => ?_⟩
      have h0 : news.length = 0 := by rw [hlen]; omega
      rw [List.length_eq_zero_iff.1 h0] at hu
      simp at hu
    · refine ⟨⟨b, off + (k + 1) * 5, none⟩, by simp [hc], fun t u hu => ?_⟩
      rw [hnews] at hu
      refine rows_news lenP (by decide) (fun i hi => ?_) t u hu
      have hi' : i < xs.length - (k + 1) := by simpa using hi
      have := hcc (k + 1 + i) (by omega)
      rw [(by omega : off + (k + 1) * 5 + i * 5 = off + (k + 1 + i) * 5), List.getElem_drop]
      exact this
  have s1 : Hid (news.length = (xs.length - (k + 1)) * 5) := hlen
  have s2 : Hid (∀ u ∈ news, u.oneCell' = true) := by
    intro u hu
    rw [hnews] at hu
    obtain ⟨x, _, hx⟩ := List.mem_flatMap.1 hu
    exact oneP x u hx
  have s3 : Hid (∀ t, t < news.length → (w.drew.cell? ⟨b, off + k * 5 + t, none⟩).isSome = true ∧ w.drew.frozen? ⟨b, off + k * 5 + t, none⟩ = false) := by
    intro t ht
    rw [hlen] at ht
    obtain ⟨u, hu⟩ := hth (k * 5 + t) (by omega)
    refine ⟨by show (w.cell? _).isSome = true; rw [Nat.add_assoc, hu]; rfl, hfr _⟩
  obtain ⟨W1, hW1⟩ : ∃ W1, W1 = w.drew.setCells b (off + k * 5) news := ⟨_, rfl⟩
  have hdx : k + (xs.length - (k + 1)) = xs.length - 1 := by omega
  have hcl : ∀ ty, (Builtin.clear_ #[25] ty #[.slice (some ⟨b, off + (k + (xs.length - (k + 1))) * 5, none⟩) (xs.length - (k + (xs.length - (k + 1)))) (cap - (k + (xs.length - (k + 1))))]).run Try.prog W1 = .ok (.tuple #[]) (W1.setCells b (off + (xs.length - 1) * 5) zCells) := fun ty => by
    rw [hdx, (by omega : xs.length - (xs.length - 1) = 1)]
    refine run_clear_one W1 ty b _ _ (fun j hj => ?_) (fun j hj => ?_)
    · rw [hW1]
      obtain ⟨u, hu⟩ := hth ((xs.length - 1) * 5 + j) (by omega)
      refine World.isSome_setCells _ _ _ _ _ ?_
      show (w.cell? _).isSome = true
      rw [Nat.add_assoc, hu]; rfl
    · rw [hW1, World.frozen?_setCells]; exact hfr _
  have hW : Hid (W1 = w.drew.setCells b (off + k * 5) news) := hW1
  have HD : Hid (RowsOwn encP 5 X (W1.setCells b (off + (xs.length - 1) * 5) zCells) (.slice (some ⟨b, off, none⟩) (xs.length - 1) cap) (xs.take k ++ xs.drop (k + 1))) := by
    rw [hW1, hnews]
    exact del_rows (h.below (Below.refl _ _).drew) k hk zCells
  have HK : Hid (Kept (fun c => c = b) w (W1.setCells b (off + (xs.length - 1) * 5) zCells)) := by
    rw [hW1]
    exact ((Kept.refl (fun c => c = b) w).drew.trans (kept_setCells _ _ _ _)).trans (kept_setCells _ _ _ _)
  obtain ⟨i0, hi0, hz0, hz1, hz2⟩ := info_parts infoP
  have hkc : k ≤ cap := by omega
  have hkc1 : k + 1 ≤ cap := by omega
  have HDX := hid hdx
  have hI0 : (0 : Int) ≤ (k : Int) + 1 := by omega
  have hI1 : (k : Int) + 1 ≤ (xs.length : Int) := by omega
  clear hW1 hth hcc hfr h hnews hlen hdx
  go_enter Try.func165, Try.ntmps165
  go_wp2_with fail
  go_region_law (refine step_append_room rfl (.tmp 22) (.tmp 25) 25 rfl 73 i0 5 Try.underlying25 hi0 hz1 b off k cap (by simp [Act.eval, Act.put]) A (xs.length - (k + 1)) (cap - (k + 1)) news (by simp [Act.eval, Act.put]) s1.out hsrc.out s2.out (by omega) s3.out ?_; rw [← hW.out])
  go_wp2_with fail
  go_ret
  exact ⟨by rw [← HDX.out]; rfl, HD.out, HK.out⟩

def dropNet (n : Net) (k : Nat) : Net := ⟨n.nodes, n.pipes.take k ++ n.pipes.drop (k + 1)⟩

set_option maxHeartbeats 1000000 in
set_option maxRecDepth 100000 in
theorem withoutPipe_any (nv pv : Value) (n : Net) (k : Nat) (w : World) (h : NetAt w nv pv n) (hl1 : n.nodes.length ≤ 2000000) (hl2 : n.pipes.length ≤ 2000000) (hk : k < n.pipes.length) :
    Calls Try.prog 125 #[.agg #[nv, pv], .int .i64 k] w fun e w' => ∃ nv' pv', e = .returned (.agg #[nv', pv']) ∧ NetApart w.heap.size w'.heap.size w' nv' pv' (dropNet n k) ∧ (CapOk nv' ∧ CapOk pv') ∧ Below w.heap.size w w' := by
  obtain ⟨a0, k0, rfl⟩ := h.1.shape
  obtain ⟨a1, k1, rfl⟩ := h.2.2.shape
  obtain ⟨W0, hW0⟩ : ∃ W0, W0 = (w.alloc (.cells #[.slice a0 n.nodes.length k0, .slice a1 n.pipes.length k1] 27)).alloc (.cells #[.slice none 0 0, .slice none 0 0] 27) := ⟨_, rfl⟩
  have hWb : Below w.heap.size w W0 := by rw [hW0]; exact (below_new w _).alloc (by simp) _
  have hsz : W0.heap.size = w.heap.size + 1 + 1 := by rw [hW0]; simp
  have HC : Hid (∀ W, Below W0.heap.size W0 W → _) := fun W hW => two_boxes hW0 hW
  have HN := h.below hWb
  obtain ⟨c0, c1, r0, r1, f0, f1⟩ := HC.out W0 (Below.refl _ _)
  have HW := hid hWb
  clear h hWb
  go_enter Try.func125, Try.ntmps125
  go_wp2_with fail
  rw [← hW0]
  have HW0 := hid hW0
  clear hW0
  refine (cloneNetwork_any _ _ n _ HN hl1 hl2).mono ?_
  clear c0 c1 r0 r1 f0 f1
  rintro e w3 ⟨nv', pv', rfl, oo, ⟨q0, q1⟩, b3⟩
  obtain ⟨d0, d1, r0', r1', f0', f1'⟩ := HC.out _ b3
  obtain ⟨X, Y, hX, hY, hd, oN, hok, oP⟩ := oo
  obtain ⟨aN, cN, rfl⟩ := oN.at.shape
  obtain ⟨aP, cP, rfl⟩ := oP.at.shape
  obtain ⟨pb, po, rfl, hpl, hYp, hpf, hpc⟩ := oP.at' (by omega)
  have z3 := b3.size
  have HB3 := hid (HW.out.trans (b3.mono HW.out.size))
  have hyb := hY pb hYp
  have bO := below_new w3 (.cells #[.slice aN n.nodes.length cN, .slice (some ⟨pb, po, none⟩) n.pipes.length cP] 27)
  have hbo := Box.new w3 #[.slice aN n.nodes.length cN, .slice (some ⟨pb, po, none⟩) n.pipes.length cP] 27
  have hbf : ∀ o, (w3.alloc (.cells #[.slice aN n.nodes.length cN, .slice (some ⟨pb, po, none⟩) n.pipes.length cP] 27)).frozen? ⟨w3.heap.size, o, none⟩ = false := fun o => by simp
  have h2s : w.heap.size + 1 < w3.heap.size := by omega
  have e0 := (bO.cell (p := ⟨w.heap.size + 1, 0, none⟩) h2s).trans r0'
  have e1 := (bO.cell (p := ⟨w.heap.size + 1, 1, none⟩) h2s).trans r1'
  have v0 := (bO.frozen (p := ⟨w.heap.size + 1, 0, none⟩) h2s).trans f0'
  have v1 := (bO.frozen (p := ⟨w.heap.size + 1, 1, none⟩) h2s).trans f1'
  have HBO := hid (HB3.out.trans (bO.mono HB3.out.size))
  have HON := hid (oN.below bO)
  have HOP := hid (oP.below bO)
  have HBX := hid hbo
  have HBF := hid hbf
  have hsum : IntKind.i64.wrap ((k : Int) + 1) = (k : Int) + 1 := IntWalk.i64_in _ (by omega)
  have hq1 := q1.le
  clear b3 d0 d1 r0' r1' f0' f1' oN oP hpc hpf bO hbo hbf
  go_wp2_with fail
  refine (delete_any Y pb po cP n.pipes k _ HOP.out hq1 hk hl2).mono ?_
  rintro e w4 ⟨rfl, oD, K4⟩
  have bx4 := HBX.out.kept K4 (by omega)
  obtain ⟨o0, o1⟩ := bx4.two
  have hfo := (World.frozen?_of_block (w := w3.alloc (.cells #[.slice aN n.nodes.length cN, .slice (some ⟨pb, po, none⟩) n.pipes.length cP] 27)) (a := ⟨w3.heap.size, 1, none⟩) (K4.block _ (by simp) (by show ¬ (w3.heap.size = pb); omega))).trans (HBF.out 1)
  have E0 := K4.cell e0 (by simp only; omega)
  have E1 := K4.cell e1 (by simp only; omega)
  have V0 := (World.frozen?_of_block (w := w3.alloc (.cells #[.slice aN n.nodes.length cN, .slice (some ⟨pb, po, none⟩) n.pipes.length cP] 27)) (a := ⟨w.heap.size + 1, 0, none⟩) (K4.block _ (by simp; omega) (by show ¬ (w.heap.size + 1 = pb); omega))).trans v0
  have V1 := (World.frozen?_of_block (w := w3.alloc (.cells #[.slice aN n.nodes.length cN, .slice (some ⟨pb, po, none⟩) n.pipes.length cP] 27)) (a := ⟨w.heap.size + 1, 1, none⟩) (K4.block _ (by simp; omega) (by show ¬ (w.heap.size + 1 = pb); omega))).trans v1
  have HD := hid oD
  have HK := hid K4
  have z4 := K4.size
  simp only [World.size_alloc] at z4
  clear e0 e1 v0 v1 oD K4 bx4
  go_wp2_with fail
  obtain ⟨W5, hW5⟩ : ∃ W5, W5 = w4.setCell ⟨w3.heap.size, 1, none⟩ (.slice (some ⟨pb, po, none⟩) (n.pipes.length - 1) cP) := ⟨_, rfl⟩
  have K5 : Kept (fun b => b = w3.heap.size) w4 W5 := by rw [hW5]; exact (Kept.refl (fun b => b = w3.heap.size) w4).setCell (p := ⟨w3.heap.size, 1, none⟩) rfl _
  rw [← hW5]
  have E0' := K5.cell E0 (by simp only; omega)
  have E1' := K5.cell E1 (by simp only; omega)
  have z5 := K5.size
  have K2 := kept_two (w := W5) (w.heap.size + 1) (.slice aN n.nodes.length cN) (.slice (some ⟨pb, po, none⟩) (n.pipes.length - 1) cP)
  obtain ⟨t0, t1⟩ := (box_two_set (x := .slice aN n.nodes.length cN) (y := .slice (some ⟨pb, po, none⟩) (n.pipes.length - 1) cP) E0' E1').two
  have hz := HBO.out.size
  refine bodyPost_ret (v := .agg #[.slice aN n.nodes.length cN, .slice (some ⟨pb, po, none⟩) (n.pipes.length - 1) cP]) (by simp only [results, Try.results125]; simp [go_sem, t0, t1]) rfl ?_
  refine ⟨_, _, rfl, ⟨X, Y, fun b hb => ⟨by have := hX b hb; omega, by have := hX b hb; simp only [World.size_setCell]; omega⟩, fun b hb => ⟨by have := hY b hb; omega, by have := hY b hb; simp only [World.size_setCell]; omega⟩, hd, ?_, hok, ?_⟩, ⟨q0, CapOk.mk (by omega)⟩, HBO.out.trans ((HK.out.below hz (fun b hb => by omega)).trans ((K5.below (by simp only [World.size_alloc] at hz; omega) (fun b hb => by omega)).trans (K2.below (by simp only [World.size_alloc] at hz; omega) (fun b hb => by omega))))⟩
  · exact ((HON.out.kept HK.out (fun b _ hb e => hd b hb (by rw [e]; exact hYp))).kept K5 (fun b _ hb e => by have := hX b hb; omega)).kept K2 (fun b _ hb e => by have := hX b hb; omega)
  · exact (HD.out.kept K5 (fun b _ hb e => by have := hY b hb; omega)).kept K2 (fun b _ hb e => by have := hY b hb; omega)

def wpR (n : Net) (x : Int) : Net × Int := if codeOf n n.pipes.length x = 0 then (dropNet n x.toNat, 0) else (zNet, codeOf n n.pipes.length x)
theorem wpR_len (n : Net) (x : Int) (h1 : n.nodes.length ≤ 2000000) (h2 : n.pipes.length ≤ 2000000) : (wpR n x).1.nodes.length ≤ 2000000 ∧ (wpR n x).1.pipes.length ≤ 2000000 := by
  unfold wpR
  split
  · exact ⟨h1, by simp [dropNet]; omega⟩
  · simp [zNet]

set_option maxHeartbeats 1000000 in
set_option maxRecDepth 100000 in
theorem impl_WithoutPipe_any (nv pv : Value) (n : Net) (x : Int) (w : World) (h : NetAt w nv pv n) (hcap : CapOk nv) :
    Calls Try.prog 66 #[.agg #[nv, pv], .int .i64 x] w (OutN w (wpR n x)) := by
  obtain ⟨a0, k0, rfl⟩ := h.1.shape
  obtain ⟨a1, k1, rfl⟩ := h.2.2.shape
  have hl2 := h.2.2.1
  obtain ⟨W0, hW0⟩ : ∃ W0, W0 = (w.alloc (.cells #[.slice a0 n.nodes.length k0, .slice a1 n.pipes.length k1] 27)).alloc (.cells #[.slice none 0 0, .slice none 0 0] 27) := ⟨_, rfl⟩
  have hWb : Below w.heap.size w W0 := by rw [hW0]; exact (below_new w _).alloc (by simp) _
  have hsz : W0.heap.size = w.heap.size + 1 + 1 := by rw [hW0]; simp
  have HC : Hid (∀ W, Below W0.heap.size W0 W → _) := fun W hW => two_boxes hW0 hW
  have HN : Hid (∀ W, Below W0.heap.size W0 W → NetAt W (.slice a0 n.nodes.length k0) (.slice a1 n.pipes.length k1) n) := fun W hW => (h.below hWb).below hW
  obtain ⟨c0, c1, r0, r1, f0, f1⟩ := HC.out W0 (Below.refl _ _)
  have HW := hid hWb
  clear h hWb
  go_enter Try.func66, Try.ntmps66
  go_wp2_with fail
  rw [← hW0]
  have HW0 := hid hW0
  clear hW0
  refine (impl_IsNetwork_any _ _ n _ (HN.out _ (Below.refl _ _)) hcap).mono ?_
  cases hb : netB n
  · have hr : Hid (wpR n x = (zNet, 1)) := by simp [Hid, wpR, codeOf, hb]
    rintro e w1 ⟨rfl, b1⟩
    obtain ⟨d0, d1, r0', r1', f0', f1'⟩ := HC.out _ b1
    have HB := hid (HW.out.trans (b1.mono HW.out.size))
    have z1 := b1.size
    clear b1 c0 c1 r0 r1 f0 f1
    go_wp2_with fail
    refine bodyPost_ret (v := .tuple #[.agg #[.slice none 0 0, .slice none 0 0], .int .i64 1]) (by simp [results, Try.results66, go_sem, r0', r1']) rfl ?_
    rw [hr.out]
    exact ⟨_, _, rfl, NetApart.zero _ _ _, ⟨CapOk.mk (Nat.le_refl _), CapOk.mk (Nat.le_refl _)⟩, HB.out.trans ((kept_two _ _ _).below HB.out.size (fun b hb => by omega))⟩
  have hnl := netB_t hb
  rintro e w1 ⟨rfl, b1⟩
  obtain ⟨d0, d1, r0', r1', f0', f1'⟩ := HC.out _ b1
  clear c0 c1 r0 r1 f0 f1
  go_wp2_with fail
  refine (isPipeOf_alloc _ _ n.pipes.length x _ hl2 ⟨_, _, _, rfl⟩ ⟨_, _, rfl⟩).mono ?_
  cases hx : inB x 0 ((n.pipes.length : Int) - 1)
  · have hr : Hid (wpR n x = (zNet, 2)) := by simp [Hid, wpR, codeOf, hb, hx]
    rintro e w2 ⟨rfl, hw2⟩
    have b2 : Below W0.heap.size W0 w2 := b1.trans (by rw [hw2]; exact (below_new w1 _).mono b1.size)
    obtain ⟨c0, c1, r0, r1, f0, f1⟩ := HC.out _ b2
    have HB := hid (HW.out.trans (b2.mono HW.out.size))
    clear b1 b2 d0 d1 r0' r1' f0' f1' hw2
    go_wp2_with fail
    refine bodyPost_ret (v := .tuple #[.agg #[.slice none 0 0, .slice none 0 0], .int .i64 2]) (by simp [results, Try.results66, go_sem, r0, r1]) rfl ?_
    rw [hr.out]
    exact ⟨_, _, rfl, NetApart.zero _ _ _, ⟨CapOk.mk (Nat.le_refl _), CapOk.mk (Nat.le_refl _)⟩, HB.out.trans ((kept_two _ _ _).below HB.out.size (fun b hb => by omega))⟩
  have hxr := inB_t hx
  obtain ⟨k, rfl⟩ : ∃ k : Nat, x = k := ⟨x.toNat, by omega⟩
  have hk : k < n.pipes.length := by omega
  have hr : Hid (wpR n k = (dropNet n k, 0)) := by simp [Hid, wpR, codeOf, hb, hx]
  rintro e w2 ⟨rfl, hw2⟩
  have b2 : Below W0.heap.size W0 w2 := b1.trans (by rw [hw2]; exact (below_new w1 _).mono b1.size)
  obtain ⟨c0, c1, r0, r1, f0, f1⟩ := HC.out _ b2
  clear d0 d1 r0' r1' f0' f1' hw2 b1
  go_wp2_with fail
  refine (withoutPipe_any _ _ n k _ (HN.out _ b2) (by omega) (by omega) hk).mono ?_
  rintro e w3 ⟨nv', pv', rfl, oo, ⟨q0, q1⟩, b3⟩
  have B3 := b2.trans (b3.mono b2.size)
  obtain ⟨d0, d1, r0', r1', f0', f1'⟩ := HC.out _ B3
  obtain ⟨aN, cN, rfl⟩ := oo.at.1.shape
  obtain ⟨aP, cP, rfl⟩ := oo.at.2.2.shape
  have z2 := b2.size
  have z3 := b3.size
  have HB := hid (HW.out.trans (B3.mono HW.out.size))
  have HO := hid oo
  clear c0 c1 r0 r1 f0 f1 b2 b3 B3 oo hx hxr
  go_wp2_with fail
  have K2 := kept_two (w := w3) (w.heap.size + 1) (.slice aN (dropNet n k).nodes.length cN) (.slice aP (dropNet n k).pipes.length cP)
  obtain ⟨t0, t1⟩ := (box_two_set (x := .slice aN (dropNet n k).nodes.length cN) (y := .slice aP (dropNet n k).pipes.length cP) r0' r1').two
  refine bodyPost_ret (v := .tuple #[.agg #[.slice aN (dropNet n k).nodes.length cN, .slice aP (dropNet n k).pipes.length cP], .int .i64 0]) (by simp only [results, Try.results66]; simp [go_sem, t0, t1]) rfl ?_
  rw [hr.out]
  exact ⟨_, _, rfl, (HO.out.kept K2 (fun b h1 h2 e => by omega)).widen (by omega) (by simp only [World.size_setCell]; omega), ⟨q0, q1⟩, HB.out.trans (K2.below HB.out.size (fun b hb => by omega))⟩

end Go.Proofs.Ytdapdaadglaoiaa

namespace Go.Proofs.Ytdapdaadglaoiaa
open Go.RowKit

/-- A slice's tail. -/
theorem rows_tail {w : World} {b off cap : Nat} {xs : List Pp} (h : RowsAt encP 5 w (.slice (some ⟨b, off, none⟩) xs.length cap) xs) (hcap : xs.length ≤ cap) (k : Nat) (hk : k < xs.length) (A : Addr) (hA : (if cap = k + 1 then some (⟨b, off, none⟩ : Addr) else some ⟨b, off + (k + 1) * 5, none⟩) = some A) (c : Nat) :
    RowsAt encP 5 w (.slice (some A) (xs.length - (k + 1)) c) (xs.drop (k + 1)) := by
  obtain ⟨b', off', ha, hbl, hcc⟩ := h.at' (by omega)
  simp only [Option.some.injEq, Addr.mk.injEq, and_true] at ha
  obtain ⟨rfl, rfl⟩ := ha
  refine ⟨by have := h.1; simp; omega, some A, c, by simp, ?_⟩
  by_cases hc : cap = k + 1
  · exact Or.inl (List.drop_of_length_le (by omega))
  · rw [if_neg hc] at hA
    refine Or.inr ⟨b, off + (k + 1) * 5, hA.symm, hbl, fun i hi => ?_⟩
    have hi' : i < xs.length - (k + 1) := by simpa using hi
    have := hcc (k + 1 + i) (by omega)
    rw [(by omega : off + (k + 1) * 5 + i * 5 = off + (k + 1 + i) * 5), List.getElem_drop]
    exact this

set_option maxHeartbeats 1000000 in
set_option maxRecDepth 100000 in
theorem spec_WithoutPipe_any (nv pv : Value) (n : Net) (x : Int) (w : World) (h : NetAt w nv pv n) (hcap : CapOk pv) :
    Calls Try.prog 67 #[.agg #[nv, pv], .int .i64 x] w (OutN w (wpR n x)) := by
  obtain ⟨a0, k0, rfl⟩ := h.1.shape
  obtain ⟨a1, k1, rfl⟩ := h.2.2.shape
  have hl2 := h.2.2.1
  have hcl := hcap.le
  obtain ⟨W0, hW0⟩ : ∃ W0, W0 = (w.alloc (.cells #[.slice a0 n.nodes.length k0, .slice a1 n.pipes.length k1] 27)).alloc (.cells #[.slice none 0 0, .slice none 0 0] 27) := ⟨_, rfl⟩
  have hWb : Below w.heap.size w W0 := by rw [hW0]; exact (below_new w _).alloc (by simp) _
  have hsz : W0.heap.size = w.heap.size + 1 + 1 := by rw [hW0]; simp
  have HC : Hid (∀ W, Below W0.heap.size W0 W → _) := fun W hW => two_boxes hW0 hW
  have HN : Hid (∀ W, Below W0.heap.size W0 W → NetAt W (.slice a0 n.nodes.length k0) (.slice a1 n.pipes.length k1) n) := fun W hW => (h.below hWb).below hW
  obtain ⟨c0, c1, r0, r1, f0, f1⟩ := HC.out W0 (Below.refl _ _)
  have HW := hid hWb
  have HNW := hid h
  clear h hWb
  go_enter Try.func67, Try.ntmps67
  go_wp2_with fail
  rw [← hW0]
  have HW0 := hid hW0
  clear hW0
  refine (l02PipeCode_any _ _ n x _ (HN.out _ (Below.refl _ _))).mono ?_
  by_cases hc : codeOf n n.pipes.length x = 0
  case neg =>
    have hr : Hid (wpR n x = (zNet, codeOf n n.pipes.length x)) := by simp [Hid, wpR, hc]
    obtain ⟨c, hcc⟩ : ∃ c, codeOf n n.pipes.length x = c := ⟨_, rfl⟩
    rw [hcc] at hr hc ⊢
    have hc' : (c != 0) = true := by simpa using hc
    rintro e w1 ⟨rfl, b1⟩
    obtain ⟨d0, d1, r0', r1', f0', f1'⟩ := HC.out _ b1
    have HB := hid (HW.out.trans (b1.mono HW.out.size))
    clear b1 c0 c1 r0 r1 f0 f1 hcc
    go_wp2_with fail
    refine bodyPost_ret (v := .tuple #[.agg #[.slice none 0 0, .slice none 0 0], .int .i64 c]) (by simp [results, Try.results67, go_sem, r0', r1']) rfl ?_
    rw [hr.out]
    exact ⟨_, _, rfl, NetApart.zero _ _ _, ⟨CapOk.mk (Nat.le_refl _), CapOk.mk (Nat.le_refl _)⟩, HB.out.trans ((kept_two _ _ _).below HB.out.size (fun b hb => by omega))⟩
  obtain ⟨hb, hx0, hx1⟩ := codeOf_zero hc
  have hnl := netB_t hb
  obtain ⟨k, rfl⟩ : ∃ k : Nat, x = k := ⟨x.toNat, by omega⟩
  have hk : k < n.pipes.length := by omega
  have hr : Hid (wpR n k = (dropNet n k, 0)) := by simp [Hid, wpR, hc]
  rw [hc]
  rintro e w2 ⟨rfl, b2⟩
  obtain ⟨d0, d1, r0', r1', f0', f1'⟩ := HC.out _ b2
  obtain ⟨sb, so, rfl, hsl, _⟩ := (HN.out _ b2).2.2.at' (by omega)
  have z2 := b2.size
  have hkI : (k : Int) < n.pipes.length := by omega
  have hkc : k ≤ k1 := by omega
  have hI0 : (0 : Int) ≤ (k : Int) + 1 := by omega
  have hI1 : (k : Int) + 1 ≤ (n.pipes.length : Int) := by omega
  obtain ⟨A, hA⟩ : ∃ A : Addr, (if k1 = k + 1 then some (⟨sb, so, none⟩ : Addr) else some ⟨sb, so + (k + 1) * 5, none⟩) = some A := by
    split
    · exact ⟨_, rfl⟩
    · exact ⟨_, rfl⟩
  have hsum : IntKind.i64.wrap ((k : Int) + 1) = (k : Int) + 1 := IntWalk.i64_in _ (by omega)
  have HB2 := hid (HW.out.trans (b2.mono HW.out.size))
  have HPT := hid ((HN.out _ b2).2.2.take k (by omega) k1)
  have HBB := hid b2
  have h1s : w.heap.size < w2.heap.size := by omega
  have h2s : w.heap.size + 1 < w2.heap.size := by omega
  have hlt : (n.pipes.take k).length = k := by simp; omega
  have HPT2 : Hid (RowsAt encP 5 w2 (.slice (some ⟨sb, so, none⟩) k k1) (n.pipes.take k)) := HPT.out
  clear c0 c1 r0 r1 f0 f1 hx0 hx1 b2 HPT
  go_wp2_with (at_builtin; refine wpList_appP rfl (.tmp 15) (.tmp 19) rfl w2.heap.size (.slice (some ⟨w2.heap.size, 0, none⟩) 0 0) _ [] (n.pipes.take k) rfl rfl (OwnR.made _ _ _ _ _ (Nat.le_refl _)) (HPT2.out.below (below_new _ _)) ?c1 ?c2 ?_)
  case c1 => simp; omega
  case c2 => simp
  intro v7 w3 hv7 hk7 hb7
  have hk7' : Kept (fun b => w2.heap.size ≤ b) w2 w3 := (Kept.of_below (below_new w2 _)).trans (hk7.mono (fun b _ hb => by simp [Value.ownBlock] at hb; omega))
  have OW3 : Ow (w.heap.size + 1) w2.heap.size w2 w3 := Ow.grow ⟨Kept.refl _ _, Nat.le_refl _, ⟨f0', f1'⟩, ⟨_, r0'⟩, ⟨_, r1'⟩⟩ h2s hk7'
  obtain ⟨g7, hg7, hg7a, hg7b⟩ : ∃ g7, v7.ownBlock = some g7 ∧ w2.heap.size ≤ g7 ∧ g7 < w3.heap.size := by
    rcases hb7 with h | h
    · exact ⟨_, h, (hv7.lt _ h)⟩
    · exact ⟨_, h, (hv7.lt _ h)⟩
  obtain ⟨a7, c7, rfl, _⟩ := hv7.shape lenP
  rw [hlt] at hv7 hg7
  have HV7 := hid hv7
  have hSS : Hid (∀ W, Ow (w.heap.size + 1) w2.heap.size w2 W → W.cell? ⟨w.heap.size, 0, none⟩ = some (.slice a0 n.nodes.length k0) ∧ W.cell? ⟨w.heap.size, 1, none⟩ = some (.slice (some ⟨sb, so, none⟩) n.pipes.length k1) ∧ Ow (w.heap.size + 1) w2.heap.size w2 W) := fun W hW =>
    ⟨hW.1.cell d0 (by simp only; omega), hW.1.cell d1 (by simp only; omega), hW⟩
  have hNs : Hid (∀ W, Ow (w.heap.size + 1) w2.heap.size w2 W → RowsAt encN 3 W (.slice a0 n.nodes.length k0) n.nodes) := fun W hW => rows_of_kept HNW.out.1 HB2.out hW.1 (fun b hb => by omega)
  have hPs : Hid (∀ W, Ow (w.heap.size + 1) w2.heap.size w2 W → RowsAt encP 5 W (.slice (some A) (n.pipes.length - (k + 1)) (k1 - (k + 1))) (n.pipes.drop (k + 1))) := fun W hW => rows_tail (rows_of_kept HNW.out.2.2 HB2.out hW.1 (fun b hb => by omega)) hcl k hk A hA _
  have hok := hid HNW.out.2.1
  have ow0 := hid OW3.drew
  obtain ⟨C0, C1, _⟩ := hSS.out _ OW3.drew
  obtain ⟨E0, E1, _⟩ := hSS.out _ OW3
  have hld : (n.pipes.drop (k + 1)).length = n.pipes.length - (k + 1) := by simp
  have z3 := OW3.2.1
  have hrH := h2s
  clear hv7 hk7 hb7 hk7' r0' r1' f0' f1' d0 d1
  go_wp2_with fail
  go_region_held3 (fun W => W.cell? ⟨w.heap.size, 0, none⟩ = some (.slice a0 n.nodes.length k0) ∧ W.cell? ⟨w.heap.size, 1, none⟩ = some (.slice (some ⟨sb, so, none⟩) n.pipes.length k1) ∧ Ow (w.heap.size + 1) w2.heap.size w2 W)
    (first | exact ⟨C0, C1, ow0.out⟩ | exact hSS.out _ OW2 | exact hSS.out _ (OW2.store _ _) | exact hSS.out _ OW1 | exact hSS.out _ (Ow.alloc (And.right (And.right (by assumption))) hrH _))
    (first
      | (refine step_appP rfl (.tmp 25) (.tmp 30) rfl w2.heap.size (.slice a7 k c7) (.slice (some A) (n.pipes.length - (k + 1)) (k1 - (k + 1))) (n.pipes.take k) (n.pipes.drop (k + 1)) rfl rfl ((HV7.out.below ((Below.refl _ _).drew.alloc (Nat.le_refl _) _)).kept kN (fun b hb e => ?_)) (hPs.out _ OW1) ?_ OW1.2.1 ?_; (· rw [hg7] at hb; simp at hb; omega); (· omega); intro vP wP oP kP gP; have kP' : Kept (fun b => b = g7) wN wP := kP.mono (fun b _ hb => by rw [hg7] at hb; simp at hb; omega); have OW2 := OW1.grow hrH (kP'.mono (fun b _ hb => by omega)); obtain ⟨aP, cP, rfl, _⟩ := oP.shape lenP; have OWc := OW2; obtain ⟨_, _, ⟨f0, f1⟩, ⟨x0, e0⟩, ⟨x1, e1⟩⟩ := OWc)
      | (refine step_ownN rfl (.tmp 21) (.tmp 23) rfl (w.heap.size + 1) w2.heap.size w2 hrH _ (.slice a0 n.nodes.length k0) n.nodes rfl rfl (hNs.out _ (And.right (And.right (by assumption)))) (And.right (And.right (by assumption))) ?_ ?_ ?_ ?_; (· exact heap_at2 _ _ _ (by first | rfl | omega | (simp; done) | (simp; omega))); (· first | exact Nat.le_refl _ | omega | (simp; done) | (simp; omega)); (· omega); intro vN wN oN kN gN OW1; obtain ⟨aN, cN, rfl, _⟩ := oN.shape lenN; have zN := OW1.2.1; have yN := kN.size))
  have HF : Hid (NetApart w.heap.size wP.heap.size ((wP.setCell ⟨w.heap.size + 1, 0, none⟩ (.slice aN n.nodes.length cN)).setCell ⟨w.heap.size + 1, 1, none⟩ (.slice aP (k + (n.pipes.length - (k + 1))) cP)) (.slice aN n.nodes.length cN) (.slice aP (k + (n.pipes.length - (k + 1))) cP) (dropNet n k) ∧ (CapOk (.slice aN n.nodes.length cN) ∧ CapOk (.slice aP (k + (n.pipes.length - (k + 1))) cP))) := by
    rw [hg7] at gP
    have hLL : (n.pipes.take k ++ n.pipes.drop (k + 1)).length = k + (n.pipes.length - (k + 1)) := by rw [List.length_append, hld, hlt]
    rw [hLL] at gP oP
    refine own_fin (n := dropNet n k) (H := w2.heap.size) (r := w.heap.size + 1) oN oP kP' gP (Nat.le_refl _) (fun hb => ?_) hrH (by omega) hok.out (by simp only [dropNet]; omega) (by simp only [dropNet, List.length_append, hld, hlt]; omega)
    rcases gN with h | h
    · rw [h] at hb; simp at hb; omega
    · rw [h] at hb; simp at hb; omega
  have HB : Hid (Below w.heap.size w ((wP.setCell ⟨w.heap.size + 1, 0, none⟩ (.slice aN n.nodes.length cN)).setCell ⟨w.heap.size + 1, 1, none⟩ (.slice aP (k + (n.pipes.length - (k + 1))) cP))) := HB2.out.trans ((OW2.store _ _).1.below HB2.out.size (fun b hb => by omega))
  obtain ⟨t0, t1⟩ := (box_two_set (x := .slice aN n.nodes.length cN) (y := .slice aP (k + (n.pipes.length - (k + 1))) cP) e0 e1).two
  clear oN oP kN kP kP' OW1 OW2 OW3
  go_wp2_with fail
  refine bodyPost_ret (v := .tuple #[.agg #[.slice aN n.nodes.length cN, .slice aP (k + (n.pipes.length - (k + 1))) cP], .int .i64 0]) (by simp only [results, Try.results67]; simp [go_sem, t0, t1]) rfl ?_
  rw [hr.out]
  exact ⟨_, _, rfl, by simpa only [World.size_setCell] using HF.out.1, HF.out.2, HB.out⟩

end Go.Proofs.Ytdapdaadglaoiaa

namespace Go.Proofs.Ytdapdaadglaoiaa
open Go.RowKit

def coR (n : Net) : List Int × Int := if netB n = true then (comps n, 0) else ([], 1)
theorem coR_len (n : Net) : (coR n).1.length ≤ 2000000 := by
  unfold coR
  split
  · next hb =>
    have := compIter_len n n.nodes.length
    have := netB_t hb
    simp only [comps]; omega
  · simp

set_option maxHeartbeats 400000 in
theorem impl_ComponentsOf_any (nv pv : Value) (n : Net) (w : World) (h : NetAt w nv pv n) (hcap : CapOk nv) :
    Calls Try.prog 86 #[.agg #[nv, pv]] w (OutI w (coR n)) := by
  obtain ⟨a0, k0, rfl⟩ := h.1.shape
  obtain ⟨a1, k1, rfl⟩ := h.2.2.shape
  have hWb := below_new w (.cells #[.slice a0 n.nodes.length k0, .slice a1 n.pipes.length k1] 27)
  have hbx := Box.new w #[.slice a0 n.nodes.length k0, .slice a1 n.pipes.length k1] 27
  have h := h.below hWb
  go_enter Try.func86, Try.ntmps86
  go_wp2_with fail
  refine (impl_IsNetwork_any _ _ n _ h hcap).mono ?_
  cases hb : netB n
  · have hr : Hid (coR n = ([], 1)) := by simp [Hid, coR, hb]
    rintro e w1 ⟨rfl, b1⟩
    have B := hid (hWb.trans (b1.mono hWb.size))
    go_wp2_with fail
    go_ret2
    rw [hr.out]
    exact ⟨_, rfl, Slc.nil _ _, B.out⟩
  · have hr : Hid (coR n = (comps n, 0)) := by simp [Hid, coR, hb]
    rintro e w1 ⟨rfl, b1⟩
    have B := hid (hWb.trans (b1.mono hWb.size))
    obtain ⟨c0, c1⟩ := (hbx.below b1).two
    have h := h.below b1
    clear hWb b1 hbx
    go_wp2_with fail
    refine (componentsOf_any _ _ n _ h hb).mono ?_
    rintro e w2 ⟨r, rfl, se, b2⟩
    have B2 := hid (B.out.trans (b2.mono B.out.size))
    have HS := hid se
    have hsz := B.out.size
    obtain ⟨_, ea, ec, rfl, _⟩ := se
    clear b2 c0 c1
    go_wp2_with fail
    go_ret2
    rw [hr.out]
    exact ⟨_, rfl, HS.out.mono (fun b _ hb => ⟨by omega, hb.2⟩), B2.out⟩

end Go.Proofs.Ytdapdaadglaoiaa

namespace Go.Proofs.Ytdapdaadglaoiaa
open Go.RowKit

def isBridge (n : Net) (k : Nat) : Bool := !decide ((comps (dropP n k)).getD (pAt n k).fr.toNat 0 = (comps (dropP n k)).getD (pAt n k).to.toNat 0)
def bridgesTo (n : Net) (k : Nat) : List Int := ((List.range k).filter (isBridge n)).map (fun i : Nat => (i : Int))
def brR (n : Net) : List Int × Int := if netB n = true then (bridgesTo n n.pipes.length, 0) else ([], 1)
theorem bridgesTo_succ (n : Net) (k : Nat) : bridgesTo n (k + 1) = bridgesTo n k ++ (if isBridge n k = true then [(k : Int)] else []) := by
  unfold bridgesTo
  rw [List.range_succ, List.filter_append, List.map_append]
  congr 1
  by_cases h : isBridge n k = true <;> simp [h]
theorem bridgesTo_len (n : Net) (k : Nat) : (bridgesTo n k).length ≤ k := by
  unfold bridgesTo
  rw [List.length_map]
  exact Nat.le_trans (List.length_filter_le _ _) (by simp)
theorem brR_len (n : Net) : (brR n).1.length ≤ 2000000 := by
  unfold brR
  split
  · next h =>
    have := bridgesTo_len n n.pipes.length
    have := netB_t h
    simp only; omega
  · simp

def BrRel (n : Net) (l : List Value) (w : World) (i s : Value) (wr : World) : Prop :=
  ∃ k : Nat, i = .int .i64 k ∧ k ≤ n.pipes.length ∧ OwnI 2 (w.heap.size + 1) wr s (bridgesTo n k) ∧ Box wr w.heap.size l ∧ Below w.heap.size w wr

set_option maxHeartbeats 2000000 in
set_option maxRecDepth 100000 in
theorem impl_BridgesOf_any (nv pv : Value) (n : Net) (w : World) (h : NetAt w nv pv n) (hcap : CapOk nv) :
    Calls Try.prog 45 #[.agg #[nv, pv]] w (OutI w (brR n)) := by
  obtain ⟨a0, k0, rfl⟩ := h.1.shape
  obtain ⟨a1, k1, rfl⟩ := h.2.2.shape
  have HP := hid h
  have hWb := below_new w (.cells #[.slice a0 n.nodes.length k0, .slice a1 n.pipes.length k1] 27)
  have hbx := Box.new w #[.slice a0 n.nodes.length k0, .slice a1 n.pipes.length k1] 27
  have h := h.below hWb
  go_enter Try.func45, Try.ntmps45
  go_wp2_with fail
  refine (impl_IsNetwork_any _ _ n _ h hcap).mono ?_
  cases hb : netB n
  · have hr : Hid (brR n = ([], 1)) := by simp [Hid, brR, hb]
    rintro e w1 ⟨rfl, b1⟩
    have HB := hid (hWb.trans (b1.mono hWb.size))
    clear b1 hWb hbx
    go_wp2_with fail
    go_ret2
    rw [hr.out]
    exact ⟨_, rfl, Slc.nil _ _, HB.out⟩
  have hr : Hid (brR n = (bridgesTo n n.pipes.length, 0)) := by simp [Hid, brR, hb]
  have hnl := netB_t hb
  rintro e w1 ⟨rfl, b1⟩
  have HB := hid (hWb.trans (b1.mono hWb.size))
  have HX := hid (hbx.below b1)
  obtain ⟨c0, c1⟩ := (hbx.below b1).two
  have z1 := b1.size
  simp only [World.size_alloc] at z1
  clear b1 hWb hbx h
  go_wp2_with fail
  clear c0 c1
  go_loopw [13, 4] (fun i s wr => BrRel n [.slice a0 n.nodes.length k0, .slice a1 n.pipes.length k1] w i s wr) (fun i _ _ => n.pipes.length - (intOf i).toNat)
  case atStart => exact ⟨0, rfl, by omega, OwnI.nil _ _ _, HX.out, HB.out⟩
  case round =>
    clear HX HB
    obtain ⟨k, rfl, hk, ho, bx, hbel⟩ := hrel
    have hln := bridgesTo_len n k
    by_cases hlt : k < n.pipes.length
    · obtain ⟨pb, po, rfl, hpl, hpc⟩ := (HP.out.below hbel).2.2.at' (by omega)
      obtain ⟨x0, x1, x2, x3, x4⟩ := cellsP (hpc k hlt)
      have hb' := netB_drop hb hlt
      have hcl := comps_len (dropP n k)
      have hdn : (dropP n k).nodes.length = n.nodes.length := rfl
      obtain ⟨f0, f1, t0, t1, hne⟩ := netB_pipe hb (List.getElem_mem hlt)
      obtain ⟨x, hx⟩ : ∃ x : Nat, n.pipes[k].fr = x := ⟨n.pipes[k].fr.toNat, by omega⟩
      obtain ⟨y, hy⟩ : ∃ y : Nat, n.pipes[k].to = y := ⟨n.pipes[k].to.toNat, by omega⟩
      have hbr : Hid (isBridge n k = !decide ((comps (dropP n k)).getD x 0 = (comps (dropP n k)).getD y 0)) := by unfold Hid isBridge; rw [pAt_nat hlt, hx, hy, Int.toNat_natCast, Int.toNat_natCast]
      have hS := hid (bridgesTo_succ n k)
      have HWP : Hid (∀ W : World, Below w.heap.size w W → _) := fun W hW => withoutPipe_any _ _ n k W (HP.out.below hW) (by omega) (by omega) hlt
      have HCO : Hid (∀ (W : World) nv' pv', NetAt W nv' pv' (dropP n k) → _) := fun W nv' pv' hW => componentsOf_any nv' pv' (dropP n k) W hW hb'
      obtain ⟨A, hA⟩ : ∃ A, (comps (dropP n k)).getD x 0 = A := ⟨_, rfl⟩
      obtain ⟨B, hB⟩ : ∃ B, (comps (dropP n k)).getD y 0 = B := ⟨_, rfl⟩
      rw [hx] at x0
      rw [hy] at x1
      rw [hA, hB] at hbr
      obtain ⟨c0, c1⟩ := bx.two
      have HO := hid ho
      have HX := hid bx
      have HB := hid hbel
      have hxl : x < (comps (dropP n k)).length := by omega
      have hyl : y < (comps (dropP n k)).length := by omega
      have hxI : (x : Int) < ((comps (dropP n k)).length : Int) := by omega
      have hyI : (y : Int) < ((comps (dropP n k)).length : Int) := by omega
      have hA' : (comps (dropP n k))[x] = A := by rw [← hA]; simp [List.getD, hxl]
      have hB' : (comps (dropP n k))[y] = B := by rw [← hB]; simp [List.getD, hyl]
      have HA := hid hA'
      have HBB := hid hB'
      have hwb := bx.1
      clear ho bx hbel hpc hA hB hA' hB' hcl hdn
      go_wp2_with fail
      obtain ⟨U, hU⟩ : ∃ U, U = wr.alloc (.cells #[.int .i64 x, .int .i64 y, .int .i64 n.pipes[k].k, .int .i64 n.pipes[k].vol, .int .i64 n.pipes[k].lim] 73) := ⟨_, rfl⟩
      have bU : Below wr.heap.size wr U := by rw [hU]; exact below_new _ _
      have hbp : Box U wr.heap.size [.int .i64 x, .int .i64 y, .int .i64 n.pipes[k].k, .int .i64 n.pipes[k].vol, .int .i64 n.pipes[k].lim] := by rw [hU]; exact Box.new _ _ _
      rw [← hU]
      have HBU := hid (HB.out.trans (bU.mono HB.out.size))
      have HSS : Hid (∀ W, Below U.heap.size U W → W.cell? ⟨w.heap.size, 0, none⟩ = some (.slice a0 n.nodes.length k0) ∧ W.cell? ⟨w.heap.size, 1, none⟩ = some (.slice (some ⟨pb, po, none⟩) n.pipes.length k1) ∧ W.cell? ⟨wr.heap.size, 0, none⟩ = some (.int .i64 x) ∧ W.cell? ⟨wr.heap.size, 1, none⟩ = some (.int .i64 y)) := fun W hW => by
        obtain ⟨e0, e1⟩ := ((HX.out.below bU).below hW).two
        have hp := hbp.below hW
        exact ⟨e0, e1, hp.2 0 (by simp), hp.2 1 (by simp)⟩
      have hd0 := hid ((Below.refl U.heap.size U).drew)
      have HOU := hid (HO.out.below bU)
      have HXU := hid (HX.out.below bU)
      clear hU bU hbp c0 c1 x0 x1 x2 x3 x4
      refine wp_region_held_drew (S := fun W => W.cell? ⟨w.heap.size, 0, none⟩ = some (.slice a0 n.nodes.length k0) ∧ W.cell? ⟨w.heap.size, 1, none⟩ = some (.slice (some ⟨pb, po, none⟩) n.pipes.length k1) ∧ W.cell? ⟨wr.heap.size, 0, none⟩ = some (.int .i64 x) ∧ W.cell? ⟨wr.heap.size, 1, none⟩ = some (.int .i64 y)) (by kernel_rfl) ?_ (fun hHeld => ?_)
      · exact HSS.out _ hd0.out
      refine wpAnyH_take (i := 0) (v := .agg #[.slice a0 n.nodes.length k0, .slice (some ⟨pb, po, none⟩) n.pipes.length k1]) rfl (by kernel_rfl) (by kernel_rfl) (by kernel_rfl) (fun _ _ _ h => h) (Or.inl ⟨by rfl, ?_⟩) (by assumption) ?_
      · intro wq hSw
        try dsimp only at hSw
        go_simp
      try simp only [Act.put]
      refine wpAnyH_take (i := 1) (v := .int .i64 k) rfl (by kernel_rfl) (by kernel_rfl) (by kernel_rfl) (fun _ _ _ h => h) (Or.inl ⟨by rfl, ?_⟩) (by assumption) ?_
      · intro wq hSw
        try dsimp only at hSw
        go_simp
      try simp only [Act.put]
      refine wpAnyH_take (i := 4) (v := .pointer (some ⟨wr.heap.size, 0, none⟩)) rfl (by kernel_rfl) (by kernel_rfl) (by kernel_rfl) (fun _ _ _ h => h) (Or.inl ⟨by rfl, ?_⟩) (by assumption) ?_
      · intro wq hSw
        try dsimp only at hSw
        go_simp
      try simp only [Act.put]
      refine wpAnyH_take (i := 5) (v := .int .i64 x) rfl (by kernel_rfl) (by kernel_rfl) (by kernel_rfl) (fun _ _ _ h => h) (Or.inl ⟨by rfl, ?_⟩) (by assumption) ?_
      · intro wq hSw
        try dsimp only at hSw
        go_simp
      try simp only [Act.put]
      refine wpAnyH_take (i := 8) (v := .agg #[.slice a0 n.nodes.length k0, .slice (some ⟨pb, po, none⟩) n.pipes.length k1]) rfl (by kernel_rfl) (by kernel_rfl) (by kernel_rfl) (fun _ _ _ h => h) (Or.inl ⟨by rfl, ?_⟩) (by assumption) ?_
      · intro wq hSw
        try dsimp only at hSw
        go_simp
      try simp only [Act.put]
      refine wpAnyH_take (i := 9) (v := .int .i64 k) rfl (by kernel_rfl) (by kernel_rfl) (by kernel_rfl) (fun _ _ _ h => h) (Or.inl ⟨by rfl, ?_⟩) (by assumption) ?_
      · intro wq hSw
        try dsimp only at hSw
        go_simp
      try simp only [Act.put]
      refine wpAnyH_take (i := 12) (v := .pointer (some ⟨wr.heap.size, 1, none⟩)) rfl (by kernel_rfl) (by kernel_rfl) (by kernel_rfl) (fun _ _ _ h => h) (Or.inl ⟨by rfl, ?_⟩) (by assumption) ?_
      · intro wq hSw
        try dsimp only at hSw
        go_simp
      try simp only [Act.put]
      refine wpAnyH_take (i := 13) (v := .int .i64 y) rfl (by kernel_rfl) (by kernel_rfl) (by kernel_rfl) (fun _ _ _ h => h) (Or.inl ⟨by rfl, ?_⟩) (by assumption) ?_
      · intro wq hSw
        try dsimp only at hSw
        go_simp
      try simp only [Act.put]
      refine wpAnyH_ready (rs := [2]) (by kernel_rfl) (by simp) ?_
      refine AllReadyH.cons rfl (fun K hK => ?_) AllReadyH.nil
      go_simp
      refine (HWP.out _ (HBU.out.trans (hd0.out.mono HBU.out.size))).mono ?_
      rintro e W1 ⟨nv1, pv1, rfl, o1, _, b1⟩
      have B1 := below_undrew b1
      refine hK.out _ _ ?_ (fun hHeld => ?_)
      · exact HSS.out _ B1
      clear hK K
      try simp only [Act.put]
      refine wpAnyH_ready (rs := [3]) (by kernel_rfl) (by simp) ?_
      refine AllReadyH.cons rfl (fun K hK => ?_) AllReadyH.nil
      go_simp
      refine (HCO.out _ _ _ o1.at).mono ?_
      rintro e W2 ⟨r2, rfl, S2, b2⟩
      have B2 := B1.trans (b2.mono B1.size)
      obtain ⟨_, a2, c2, rfl, _⟩ := id S2
      obtain ⟨g2, f2, rfl, _, hg2, _, hc2⟩ := S2.at (by omega)
      have Q2 := hc2 x hxl
      rw [HA.out] at Q2
      refine hK.out _ _ ?_ (fun hHeld => ?_)
      · exact HSS.out _ B2
      clear hK K
      try simp only [Act.put]
      refine wpAnyH_take (i := 6) (v := .pointer (some ⟨g2, f2 + x, none⟩)) rfl (by kernel_rfl) (by kernel_rfl) (by kernel_rfl) (fun _ _ _ h => h) (Or.inl ⟨by rfl, ?_⟩) (by assumption) ?_
      · intro wq hSw
        try dsimp only at hSw
        go_simp
      try simp only [Act.put]
      refine wpAnyH_strong (S' := fun W => (W.cell? ⟨w.heap.size, 0, none⟩ = some (.slice a0 n.nodes.length k0) ∧ W.cell? ⟨w.heap.size, 1, none⟩ = some (.slice (some ⟨pb, po, none⟩) n.pipes.length k1) ∧ W.cell? ⟨wr.heap.size, 0, none⟩ = some (.int .i64 x) ∧ W.cell? ⟨wr.heap.size, 1, none⟩ = some (.int .i64 y)) ∧ W.cell? ⟨g2, f2 + x, none⟩ = some (.int .i64 A)) (fun W h => h.1) ?_
      have hHeld := And.intro (HSS.out _ B2) Q2
      refine wpAnyH_take (i := 7) (v := .int .i64 A) rfl (by kernel_rfl) (by kernel_rfl) (by kernel_rfl) (fun _ _ _ h => h) (Or.inl ⟨by rfl, ?_⟩) (by assumption) ?_
      · intro wq hSw
        try dsimp only at hSw
        go_simp
      try simp only [Act.put]
      refine wpAnyH_ready (rs := [10]) (by kernel_rfl) (by simp) ?_
      refine AllReadyH.cons rfl (fun K hK => ?_) AllReadyH.nil
      go_simp
      refine (HWP.out _ (HBU.out.trans (B2.mono HBU.out.size))).mono ?_
      rintro e W3 ⟨nv3, pv3, rfl, o3, _, b3⟩
      have B3 := B2.trans (b3.mono B2.size)
      have Q2 := (b3.cell (p := ⟨g2, f2 + x, none⟩) hg2).trans Q2
      have hg23 := Nat.lt_of_lt_of_le hg2 b3.size
      refine hK.out _ _ ?_ (fun hHeld => ?_)
      · exact ⟨HSS.out _ B3, Q2⟩
      clear hK K
      try simp only [Act.put]
      refine wpAnyH_ready (rs := [11]) (by kernel_rfl) (by simp) ?_
      refine AllReadyH.cons rfl (fun K hK => ?_) AllReadyH.nil
      go_simp
      refine (HCO.out _ _ _ o3.at).mono ?_
      rintro e W4 ⟨r4, rfl, S4, b4⟩
      have B4 := B3.trans (b4.mono B3.size)
      have Q2 := (b4.cell (p := ⟨g2, f2 + x, none⟩) hg23).trans Q2
      obtain ⟨_, a4, c4, rfl, _⟩ := id S4
      obtain ⟨g4, f4, rfl, _, hg4, _, hc4⟩ := S4.at (by omega)
      have Q4 := hc4 y hyl
      rw [HBB.out] at Q4
      refine hK.out _ _ ?_ (fun hHeld => ?_)
      · exact ⟨HSS.out _ B4, Q2⟩
      clear hK K
      try simp only [Act.put]
      refine wpAnyH_take (i := 14) (v := .pointer (some ⟨g4, f4 + y, none⟩)) rfl (by kernel_rfl) (by kernel_rfl) (by kernel_rfl) (fun _ _ _ h => h) (Or.inl ⟨by rfl, ?_⟩) (by assumption) ?_
      · intro wq hSw
        try dsimp only at hSw
        go_simp
      try simp only [Act.put]
      refine wpAnyH_strong (S' := fun W => ((W.cell? ⟨w.heap.size, 0, none⟩ = some (.slice a0 n.nodes.length k0) ∧ W.cell? ⟨w.heap.size, 1, none⟩ = some (.slice (some ⟨pb, po, none⟩) n.pipes.length k1) ∧ W.cell? ⟨wr.heap.size, 0, none⟩ = some (.int .i64 x) ∧ W.cell? ⟨wr.heap.size, 1, none⟩ = some (.int .i64 y)) ∧ W.cell? ⟨g2, f2 + x, none⟩ = some (.int .i64 A)) ∧ W.cell? ⟨g4, f4 + y, none⟩ = some (.int .i64 B)) (fun W h => h.1) ?_
      have hHeld := And.intro (And.intro (HSS.out _ B4) Q2) Q4
      refine wpAnyH_take (i := 15) (v := .int .i64 B) rfl (by kernel_rfl) (by kernel_rfl) (by kernel_rfl) (fun _ _ _ h => h) (Or.inl ⟨by rfl, ?_⟩) (by assumption) ?_
      · intro wq hSw
        try dsimp only at hSw
        go_simp
      try simp only [Act.put]
      refine wpAnyH_take (i := 16) (v := .bool (A != B)) rfl (by kernel_rfl) (by kernel_rfl) (by kernel_rfl) (fun _ _ _ h => h) (Or.inl ⟨by rfl, ?_⟩) (by assumption) ?_
      · intro wq hSw
        try dsimp only at hSw
        go_simp
      try simp only [Act.put]
      refine wpAnyH_done (by kernel_rfl) ?_ _
      all_goals
        have HO4 := hid (HOU.out.below B4)
        have HX4 := hid (HXU.out.below B4)
        have HB4 := hid (HBU.out.trans (B4.mono HBU.out.size))
        have z4 := HB4.out.size
        by_cases hAB : A = B
        · have hbt : (A != B) = false := by simp [hAB]
          have hz : Hid (bridgesTo n (k + 1) = bridgesTo n k) := by
            have := hbr.out
            rw [decide_eq_true hAB] at this
            have h2 := hS.out
            rw [this] at h2
            exact (by simpa using h2 : bridgesTo n (k + 1) = bridgesTo n k)
          clear hAB
          go_wp2_with fail
          go_roundw
          case rel => exact ⟨k + 1, by go_num, by omega, by rw [hz.out]; exact HO4.out, HX4.out, HB4.out⟩
          case measure => simp [intOf]; omega
        · have hbt : (A != B) = true := by simp [hAB]
          have hz : Hid (bridgesTo n (k + 1) = bridgesTo n k ++ [(k : Int)]) := by
            have := hbr.out
            rw [decide_eq_false hAB] at this
            have h2 := hS.out
            rw [this] at h2
            exact (by simpa using h2 : bridgesTo n (k + 1) = bridgesTo n k ++ [(k : Int)])
          clear hAB
          have hzz : w.heap.size + 1 ≤ W4.heap.size := by have := HX4.out.1; omega
          go_wp2_with (at_builtin; refine wpList_app1 rfl (.tmp 35) (.tmp 37) rfl (w.heap.size + 1) u4 _ rfl (HO4.out.alloc _) W4.heap.size (k : Int) rfl ?c1 ?c2 ?c3 ?_)
          case c2 => omega
          intro v1 w5 hv1 hk1 hb1
          have hlo := HO4.out.lt
          have kk : Kept (fun c => w.heap.size + 1 ≤ c) W4 w5 := ((Kept.refl (fun c => w.heap.size + 1 ≤ c) W4).alloc (.cells #[.int .i64 k] 2)).trans (hk1.mono (fun c _ h => (hlo c h).1))
          have HX5 := hid (HX4.out.kept kk (by omega))
          have HB5 := hid (HB4.out.trans (kk.below HB4.out.size (fun c h => by omega)))
          have HV := hid hv1
          clear hv1 hk1 hb1 kk hlo
          go_wp2_with fail
          go_roundw
          case rel => exact ⟨k + 1, by go_num, by omega, by rw [hz.out]; exact HV.out, HX5.out, HB5.out⟩
          case measure => simp [intOf]; omega
    · obtain rfl : k = n.pipes.length := by omega
      have HO := hid ho
      have HB := hid hbel
      obtain ⟨_, ra, rc, rfl, _⟩ := ho.slc (by omega)
      clear ho bx hbel
      go_wp2_with fail
      go_ret2
      rw [hr.out]
      exact ⟨_, rfl, (HO.out.slc (by omega)).mono (fun c _ h => ⟨by have := h.1; omega, h.2⟩), HB.out⟩

end Go.Proofs.Ytdapdaadglaoiaa

namespace Go.Proofs.Ytdapdaadglaoiaa
open Go.RowKit

theorem isBridge_roots {n : Net} (hb : netB n = true) {k : Nat} (hk : k < n.pipes.length) : isBridge n k = true ↔ rootsTo (comps n) n.nodes.length < rootsTo (comps (dropP n k)) n.nodes.length := by
  rw [bridge_iff hb hk]
  unfold isBridge
  rw [pAt_nat hk]
  simp

def BsRel (n : Net) (l : List Value) (w : World) (i s : Value) (wr : World) : Prop :=
  ∃ k : Nat, i = .int .i64 k ∧ k ≤ n.pipes.length ∧ OwnI 2 (w.heap.size + 1) wr s (bridgesTo n k) ∧ Box wr w.heap.size l ∧ Below w.heap.size w wr

set_option maxHeartbeats 2000000 in
set_option maxRecDepth 100000 in
theorem spec_BridgesOf_any (nv pv : Value) (n : Net) (w : World) (h : NetAt w nv pv n) (hcap : CapOk pv) :
    Calls Try.prog 46 #[.agg #[nv, pv]] w (OutI w (brR n)) := by
  obtain ⟨a0, k0, rfl⟩ := h.1.shape
  obtain ⟨a1, k1, rfl⟩ := h.2.2.shape
  have HP := hid h
  have hWb := below_new w (.cells #[.slice a0 n.nodes.length k0, .slice a1 n.pipes.length k1] 27)
  have hbx := Box.new w #[.slice a0 n.nodes.length k0, .slice a1 n.pipes.length k1] 27
  have h := h.below hWb
  go_enter Try.func46, Try.ntmps46
  go_wp2_with fail
  refine (spec_IsNetwork_any _ _ n _ h).mono ?_
  cases hb : netB n
  · have hr : Hid (brR n = ([], 1)) := by simp [Hid, brR, hb]
    rintro e w1 ⟨rfl, b1⟩
    have HB := hid (hWb.trans (b1.mono hWb.size))
    clear b1 hWb hbx
    go_wp2_with fail
    go_ret2
    rw [hr.out]
    exact ⟨_, rfl, Slc.nil _ _, HB.out⟩
  have hr : Hid (brR n = (bridgesTo n n.pipes.length, 0)) := by simp [Hid, brR, hb]
  have hnl := netB_t hb
  rintro e w1 ⟨rfl, b1⟩
  have HB := hid (hWb.trans (b1.mono hWb.size))
  have HX := hid (hbx.below b1)
  have z1 := b1.size
  simp only [World.size_alloc] at z1
  clear b1 hWb hbx h
  go_wp2_with fail
  go_loopw [5, 4] (fun i s wr => BsRel n [.slice a0 n.nodes.length k0, .slice a1 n.pipes.length k1] w i s wr) (fun i _ _ => n.pipes.length - (intOf i).toNat)
  case atStart => exact ⟨0, rfl, by omega, OwnI.made _ _ _ (by omega), HX.out.below (below_new _ _), HB.out.alloc HB.out.size _⟩
  case round =>
    clear HX HB
    obtain ⟨k, rfl, hk, ho, bx, hbel⟩ := hrel
    have hln := bridgesTo_len n k
    obtain ⟨c0, c1⟩ := bx.two
    by_cases hlt : k < n.pipes.length
    · have hb' := netB_drop hb hlt
      have hbr := isBridge_roots hb hlt
      have hS := hid (bridgesTo_succ n k)
      have hpr : Hid (wpR n k = (dropP n k, 0)) := by
        have : inB (k : Int) 0 ((n.pipes.length : Int) - 1) = true := inB_mk (by omega) (by omega)
        simp [Hid, wpR, codeOf, hb, this]; rfl
      have HWP : Hid (∀ W : World, Below w.heap.size w W → Calls Try.prog 67 #[.agg #[.slice a0 n.nodes.length k0, .slice a1 n.pipes.length k1], .int .i64 k] W (OutN W (dropP n k, 0))) := fun W hW => by
        have := spec_WithoutPipe_any _ _ n k W (HP.out.below hW) hcap
        rw [hpr.out] at this
        exact this
      have HC1 : Hid (∀ W : World, Below w.heap.size w W → _) := fun W hW => l04Count_any _ _ n W (HP.out.below hW) hb
      have HC2 : Hid (∀ (W : World) nv' pv', NetAt W nv' pv' (dropP n k) → _) := fun W nv' pv' hW => l04Count_any nv' pv' (dropP n k) W hW hb'
      have hdn : (dropP n k).nodes.length = n.nodes.length := rfl
      rw [hdn] at HC2
      obtain ⟨R, hR⟩ : ∃ R, rootsTo (comps n) n.nodes.length = R := ⟨_, rfl⟩
      obtain ⟨R', hR'⟩ : ∃ R', rootsTo (comps (dropP n k)) n.nodes.length = R' := ⟨_, rfl⟩
      rw [hR] at hbr HC1
      rw [hR'] at hbr HC2
      have HBR := hid hbr
      have HO := hid ho
      have HX := hid bx
      have HB := hid hbel
      have hwb := bx.1
      clear ho bx hbel hbr hR hR' hdn
      go_wp2_with fail
      refine (HWP.out _ HB.out).mono ?_
      rintro e w2 ⟨nv2, pv2, rfl, o2, _, b2⟩
      obtain ⟨aN, cN, rfl⟩ := o2.at.1.shape
      obtain ⟨aP, cP, rfl⟩ := o2.at.2.2.shape
      have b2' := b2.alloc b2.size (.cells #[.slice aN (dropP n k).nodes.length cN, .slice aP (dropP n k).pipes.length cP] 27)
      have hbo := Box.new w2 #[.slice aN (dropP n k).nodes.length cN, .slice aP (dropP n k).pipes.length cP] 27
      have HO2 := hid (HO.out.below b2')
      have HX2 := hid (HX.out.below b2')
      have HB2 := hid (HB.out.trans (b2'.mono HB.out.size))
      have HN2 := hid (o2.at.below (below_new w2 (.cells #[.slice aN (dropP n k).nodes.length cN, .slice aP (dropP n k).pipes.length cP] 27)))
      clear c0 c1
      obtain ⟨U, hU⟩ : ∃ U, U = w2.alloc (.cells #[.slice aN (dropP n k).nodes.length cN, .slice aP (dropP n k).pipes.length cP] 27) := ⟨_, rfl⟩
      rw [← hU] at HO2 HX2 HB2 HN2 hbo
      clear b2 b2' o2
      go_wp2_with fail
      rw [← hU]
      clear hU
      have HSS : Hid (∀ W, Below U.heap.size U W → W.cell? ⟨w.heap.size, 0, none⟩ = some (.slice a0 n.nodes.length k0) ∧ W.cell? ⟨w.heap.size, 1, none⟩ = some (.slice a1 n.pipes.length k1) ∧ W.cell? ⟨w2.heap.size, 0, none⟩ = some (.slice aN (dropP n k).nodes.length cN) ∧ W.cell? ⟨w2.heap.size, 1, none⟩ = some (.slice aP (dropP n k).pipes.length cP)) := fun W hW => by
        obtain ⟨e0, e1⟩ := (HX2.out.below hW).two
        obtain ⟨e2, e3⟩ := (hbo.below hW).two
        exact ⟨e0, e1, e2, e3⟩
      have hd0 := hid ((Below.refl U.heap.size U).drew)
      go_region_held3 (fun W => W.cell? ⟨w.heap.size, 0, none⟩ = some (.slice a0 n.nodes.length k0) ∧ W.cell? ⟨w.heap.size, 1, none⟩ = some (.slice a1 n.pipes.length k1) ∧ W.cell? ⟨w2.heap.size, 0, none⟩ = some (.slice aN (dropP n k).nodes.length cN) ∧ W.cell? ⟨w2.heap.size, 1, none⟩ = some (.slice aP (dropP n k).pipes.length cP))
        (first | exact HSS.out _ B4 | exact HSS.out _ B3 | exact HSS.out _ hd0.out)
        (first
          | (go_at_call 126; refine (HC1.out _ (HB2.out.trans (B3.mono HB2.out.size))).mono ?_; rintro e W4 ⟨rfl, b4⟩; have B4 := B3.trans (b4.mono B3.size))
          | (go_at_call 126; refine (HC2.out _ _ _ (HN2.out.below hd0.out)).mono ?_; rintro e W3 ⟨rfl, b3⟩; have B3 := below_undrew b3))
      have HO4 := hid (HO2.out.below B4)
      have HX4 := hid (HX2.out.below B4)
      have HB4 := hid (HB2.out.trans (B4.mono HB2.out.size))
      by_cases hRR : R < R'
      · have hlI : (R : Int) < R' := by omega
        have hz : Hid (bridgesTo n (k + 1) = bridgesTo n k ++ [(k : Int)]) := by
          have h2 := hS.out
          rw [HBR.out.2 hRR] at h2
          exact (by simpa using h2 : bridgesTo n (k + 1) = bridgesTo n k ++ [(k : Int)])
        have hzz : w.heap.size + 1 ≤ W4.heap.size := by have := HX4.out.1; omega
        clear hRR
        go_wp2_with (at_builtin; refine wpList_app1 rfl (.tmp 30) (.tmp 32) rfl (w.heap.size + 1) u4 _ rfl (HO4.out.alloc _) W4.heap.size (k : Int) rfl ?c1 ?c2 ?c3 ?_)
        case c1 => simp
        case c2 => omega
        case c3 => simp; omega
        intro v1 w5 hv1 hk1 hb1
        have hlo := HO4.out.lt
        have kk : Kept (fun c => w.heap.size + 1 ≤ c) W4 w5 := ((Kept.refl (fun c => w.heap.size + 1 ≤ c) W4).alloc (.cells #[.int .i64 k] 2)).trans (hk1.mono (fun c _ h => (hlo c h).1))
        have HX5 := hid (HX4.out.kept kk (by omega))
        have HB5 := hid (HB4.out.trans (kk.below HB4.out.size (fun c h => by omega)))
        have HV := hid hv1
        clear hv1 hk1 hb1 kk hlo
        go_wp2_with fail
        go_roundw
        case rel => exact ⟨k + 1, by go_num, by omega, by rw [hz.out]; exact HV.out, HX5.out, HB5.out⟩
        case measure => simp [intOf]; omega
      · have hlI : ¬ ((R : Int) < R') := by omega
        have hz : Hid (bridgesTo n (k + 1) = bridgesTo n k) := by
          have h2 := hS.out
          have : isBridge n k = false := by
            cases e : isBridge n k
            · rfl
            · exact absurd (HBR.out.1 e) hRR
          rw [this] at h2
          exact (by simpa using h2 : bridgesTo n (k + 1) = bridgesTo n k)
        clear hRR
        go_wp2_with fail
        go_roundw
        case rel => exact ⟨k + 1, by go_num, by omega, by rw [hz.out]; exact HO4.out, HX4.out, HB4.out⟩
        case measure => simp [intOf]; omega
    · obtain rfl : k = n.pipes.length := by omega
      have HO := hid ho
      have HB := hid hbel
      obtain ⟨_, ra, rc, rfl, _⟩ := ho.slc (by omega)
      clear ho bx hbel
      go_wp2_with fail
      go_ret2
      rw [hr.out]
      exact ⟨_, rfl, (HO.out.slc (by omega)).mono (fun c _ h => ⟨by have := h.1; omega, h.2⟩), HB.out⟩

end Go.Proofs.Ytdapdaadglaoiaa

namespace Go.Proofs.Ytdapdaadglaoiaa
open Go.RowKit

theorem mem_dropP_idx {n : Net} {k i : Nat} (hi : i < n.pipes.length) (hne : i ≠ k) : n.pipes[i] ∈ (dropP n k).pipes := by
  rcases Nat.lt_trichotomy i k with h1 | h1 | h1
  · exact List.mem_append.2 (Or.inl (List.mem_take_iff_getElem.2 ⟨i, by omega, rfl⟩))
  · exact absurd h1 hne
  · refine List.mem_append.2 (Or.inr (List.mem_drop_iff_getElem.2 ⟨i - (k + 1), by omega, ?_⟩))
    congr 1; omega
theorem sum_inc (p : Pp) (X : List Int) (hnd : X.Nodup) : (X.map (inc p)).sum = (if p.fr ∈ X then 1 else 0) - (if p.to ∈ X then 1 else 0) := by
  induction X with
  | nil => simp
  | cons a X ih =>
    have h := List.nodup_cons.1 hnd
    rw [List.map_cons, List.sum_cons, ih h.2]
    unfold inc
    by_cases e1 : p.fr = a <;> by_cases e2 : p.to = a
    · have : p.fr ∉ X := by rw [e1]; exact h.1
      have : p.to ∉ X := by rw [e2]; exact h.1
      simp [e1, e2, h.1]
    · have : p.fr ∉ X := by rw [e1]; exact h.1
      simp only [List.mem_cons, e1, e2, h.1, true_or, false_or, if_true, if_false]
      omega
    · have : p.to ∉ X := by rw [e2]; exact h.1
      simp only [List.mem_cons, e1, e2, h.1, true_or, false_or, if_true, if_false]
      omega
    · simp only [List.mem_cons, e1, e2, false_or, if_false]
      omega
theorem sum_swap (m : Nat) (f : Nat → Int) (h : Nat → Int → Int) (X : List Int) : (X.map (fun x => ((List.range m).map (fun i => f i * h i x)).sum)).sum = ((List.range m).map (fun i => f i * (X.map (h i)).sum)).sum := by
  induction X with
  | nil =>
    simp only [List.map_nil, List.sum_nil, Int.mul_zero]
    exact (sum_zero m _ (fun _ _ => rfl)).symm
  | cons a X ih =>
    simp only [List.map_cons, List.sum_cons, ih, Int.mul_add]
    rw [sum_add]
/-- A pipe through which a circulation flows is no bridge. -/
theorem cut_zero {n : Net} (hb : netB n = true) {f : List Int} (h0 : ∀ x : Nat, x < n.nodes.length → outAt n f x = 0) {k : Nat} (hk : k < n.pipes.length) (hf : f.getD k 0 ≠ 0) : Reach (dropP n k) n.pipes[k].fr n.pipes[k].to := by
  have hb' := netB_drop hb hk
  obtain ⟨f0, f1, t0, t1, hne⟩ := netB_pipe hb (List.getElem_mem hk)
  have g := good_srch hb' (v := n.pipes[k].fr) f0 f1
  rcases Classical.em (n.pipes[k].to ∈ (srch (dropP n k) n.pipes[k].fr).order) with hm | hm
  · exact (srch_iff hb' f0 f1 _).1 hm
  · exfalso
    have hfr := g.vmem
    have hs := sum_swap n.pipes.length (fun i => f.getD i 0) (fun i x => inc (pAt n i) x) (srch (dropP n k) n.pipes[k].fr).order
    have hl : ((srch (dropP n k) n.pipes[k].fr).order.map (fun x => ((List.range n.pipes.length).map (fun i => f.getD i 0 * inc (pAt n i) x)).sum)).sum = 0 := by
      have : ∀ X : List Int, (∀ x ∈ X, 0 ≤ x ∧ x < n.nodes.length) → (X.map (fun x => ((List.range n.pipes.length).map (fun i => f.getD i 0 * inc (pAt n i) x)).sum)).sum = 0 := by
        intro X
        induction X with
        | nil => intro _; rfl
        | cons a X ih =>
          intro hX
          obtain ⟨h1, h2⟩ := hX a (by simp)
          obtain ⟨z, rfl⟩ : ∃ z : Nat, a = z := ⟨a.toNat, by omega⟩
          have := h0 z (by omega)
          unfold outAt at this
          rw [List.map_cons, List.sum_cons, this, ih (fun x hx => hX x (List.mem_cons_of_mem _ hx))]
          rfl
      exact this _ g.rng
    rw [hl, sum_single n.pipes.length _ k hk] at hs
    · rw [pAt_nat hk] at hs
      have hsi := sum_inc n.pipes[k] _ g.nd
      rw [if_pos hfr, if_neg hm] at hsi
      have hsi' : ((srch (dropP n k) n.pipes[k].fr).order.map (fun x => inc n.pipes[k] x)).sum = 1 := by
        have e : (fun x => inc n.pipes[k] x) = inc n.pipes[k] := rfl
        rw [e, hsi]; rfl
      rw [hsi'] at hs
      omega
    · intro j hj hjk
      rw [pAt_nat hj]
      have hsi := sum_inc n.pipes[j] _ g.nd
      have hmem := mem_dropP_idx hj hjk
      have hpp := netB_pipe hb (List.getElem_mem hj)
      have af : atF n.pipes[j].fr n.pipes[j] = true := atF_iff.2 (Or.inl rfl)
      have at' : atF n.pipes[j].to n.pipes[j] = true := atF_iff.2 (Or.inr rfl)
      have of : oth n.pipes[j] n.pipes[j].fr = n.pipes[j].to := by simp [oth]
      have ot : oth n.pipes[j] n.pipes[j].to = n.pipes[j].fr := by unfold oth; rw [if_neg hpp.2.2.2.2]
      have hiff : n.pipes[j].fr ∈ (srch (dropP n k) n.pipes[k].fr).order ↔ n.pipes[j].to ∈ (srch (dropP n k) n.pipes[k].fr).order := by
        constructor
        · intro h
          have := Adj.of_mem hmem af
          rw [of] at this
          exact srch_closed hb' f0 f1 h this
        · intro h
          have := Adj.of_mem hmem at'
          rw [ot] at this
          exact srch_closed hb' f0 f1 h this
      have hz : ((srch (dropP n k) n.pipes[k].fr).order.map (fun x => inc n.pipes[j] x)).sum = 0 := by
        have e : (fun x => inc n.pipes[j] x) = inc n.pipes[j] := rfl
        rw [e, hsi]
        simp only [hiff]
        omega
      rw [hz, Int.mul_zero]
def bridges (n : Net) : List Int := bridgesTo n n.pipes.length
theorem bridges_len (n : Net) : (bridges n).length ≤ n.pipes.length := by
  unfold bridges bridgesTo
  rw [List.length_map]
  exact Nat.le_trans (List.length_filter_le _ _) (by simp)
theorem isBridge_iff {n : Net} (hb : netB n = true) {k : Nat} (hk : k < n.pipes.length) : isBridge n k = true ↔ rootsTo (comps n) n.nodes.length < rootsTo (comps (dropP n k)) n.nodes.length := by
  rw [bridge_iff hb hk]
  unfold isBridge
  rw [pAt_nat hk]
  simp
theorem tree_bridges {n : Net} (hb : netB n = true) (hc : conB n = true) (hl : n.pipes.length + 1 = n.nodes.length) : (bridges n).length = n.pipes.length := by
  have hone : rootsTo (comps n) n.nodes.length = 1 := (conn_iff hb).2 (by simpa [conB] using hc)
  have hall : (List.range n.pipes.length).filter (isBridge n) = List.range n.pipes.length := by
    rw [List.filter_eq_self]
    intro k hk
    have hk := List.mem_range.1 hk
    rw [isBridge_iff hb hk, hone]
    have h1 := forest_len (netB_drop hb hk)
    have h2 := forest_le (dropP n k)
    have h3 := dropP_len hk
    have h4 : (dropP n k).nodes.length = n.nodes.length := rfl
    rw [h4] at h1
    omega
  unfold bridges bridgesTo
  rw [hall]; simp
theorem cycle_bridge {n : Net} (hb : netB n = true) {f : List Int} (h0 : ∀ x : Nat, x < n.nodes.length → outAt n f x = 0) {k : Nat} (hk : k < n.pipes.length) (hf : f.getD k 0 ≠ 0) : (k : Int) ∉ bridges n := by
  intro h
  unfold bridges bridgesTo at h
  simp only [List.mem_map, List.mem_filter, List.mem_range] at h
  obtain ⟨i, ⟨h1, h2⟩, h3⟩ := h
  obtain rfl : i = k := by omega
  have hr := cut_zero hb h0 hk hf
  obtain ⟨f0, f1, t0, t1, hne⟩ := netB_pipe hb (List.getElem_mem hk)
  have hb' := netB_drop hb hk
  unfold isBridge at h2
  rw [pAt_nat hk] at h2
  have := (comps_eq_iff hb' n.pipes[i].fr.toNat n.pipes[i].to.toNat (by show _ < n.nodes.length; omega) (by show _ < n.nodes.length; omega)).2 (by
    rw [(by omega : ((n.pipes[i].fr.toNat : Nat) : Int) = n.pipes[i].fr), (by omega : ((n.pipes[i].to.toNat : Nat) : Int) = n.pipes[i].to)]; exact hr)
  rw [decide_eq_true this] at h2
  cases h2

/-- A flow list with a multiple of another one added. -/
def addM (o c : List Int) (a : Int) : List Int := (List.range o.length).map (fun i : Nat => o.getD i 0 + a * c.getD i 0)
theorem addM_len (o c : List Int) (a : Int) : (addM o c a).length = o.length := by simp [addM]
theorem addM_get (o c : List Int) (a : Int) {i : Nat} (h : i < o.length) : (addM o c a).getD i 0 = o.getD i 0 + a * c.getD i 0 := by
  simp [addM, List.getD, h]
def fcIter (n : Net) (am : List Int) : Nat → List Int
  | 0 => List.replicate n.pipes.length 0
  | k + 1 => addM (fcIter n am k) (cyS n ((chords n).getD k 0)) (am.getD k 0)
theorem fcIter_len (n : Net) (am : List Int) (k : Nat) : (fcIter n am k).length = n.pipes.length := by
  induction k with
  | zero => simp [fcIter]
  | succ k ih => rw [fcIter, addM_len, ih]
def fromCh (n : Net) (am : List Int) : List Int := fcIter n am (chords n).length
theorem outAt_addM {n : Net} {o c : List Int} (ho : o.length = n.pipes.length) (a x : Int) : outAt n (addM o c a) x = outAt n o x + a * outAt n c x := by
  unfold outAt
  have e : ((List.range n.pipes.length).map (fun i => (addM o c a).getD i 0 * inc (pAt n i) x)) = ((List.range n.pipes.length).map (fun i => o.getD i 0 * inc (pAt n i) x + a * (c.getD i 0 * inc (pAt n i) x))) := by
    apply List.map_congr_left
    intro i hi
    have := List.mem_range.1 hi
    rw [addM_get o c a (by omega), Int.add_mul, Int.mul_assoc]
  rw [e, sum_add]
  congr 1
  generalize n.pipes.length = m
  induction m with
  | zero => simp
  | succ m ih =>
    rw [List.range_succ, List.map_append, List.map_append, List.sum_append, List.sum_append, ih, Int.mul_add]
    simp
theorem chord_at {n : Net} {k : Nat} (hk : k < (chords n).length) : ∃ c : Nat, (chords n).getD k 0 = c ∧ c < n.pipes.length ∧ (c : Int) ∉ forest n := by
  have hm := List.getElem_mem hk
  obtain ⟨c, e, h1, h2⟩ := chords_mem.1 hm
  exact ⟨c, by simpa [List.getD, hk] using e, h1, h2⟩
theorem fc_out {n : Net} (hb : netB n = true) (am : List Int) (k : Nat) (hk : k ≤ (chords n).length) (x : Nat) (hx : x < n.nodes.length) : outAt n (fcIter n am k) x = 0 := by
  induction k with
  | zero => exact outAt_zero _ _ _
  | succ k ih =>
    obtain ⟨c, e, h1, h2⟩ := chord_at (n := n) (k := k) (by omega)
    rw [fcIter, outAt_addM (fcIter_len n am k), ih (by omega), e, (cyS_spec hb h1 h2).2.1 x hx]
    simp
theorem chords_get_inj {n : Net} {i j : Nat} (hi : i < (chords n).length) (hj : j < (chords n).length) (h : (chords n).getD i 0 = (chords n).getD j 0) : i = j := by
  have := List.pairwise_iff_getElem.1 (chords_sorted n)
  have h1 : (chords n).getD i 0 = (chords n)[i] := by simp [List.getD, hi]
  have h2 : (chords n).getD j 0 = (chords n)[j] := by simp [List.getD, hj]
  rcases Nat.lt_trichotomy i j with h3 | h3 | h3
  · have := this i j hi hj h3; omega
  · exact h3
  · have := this j i hj hi h3; omega
theorem fc_at {n : Net} (hb : netB n = true) (am : List Int) (k : Nat) (hk : k ≤ (chords n).length) (j : Nat) (hj : j < (chords n).length) : (fcIter n am k).getD ((chords n).getD j 0).toNat 0 = if j < k then am.getD j 0 else 0 := by
  obtain ⟨c, e, h1, h2⟩ := chord_at hj
  rw [e, Int.toNat_natCast]
  induction k with
  | zero => rw [if_neg (by omega)]; exact rep0 _ _
  | succ k ih =>
    obtain ⟨c', e', h1', h2'⟩ := chord_at (n := n) (k := k) (by omega)
    rw [fcIter, addM_get _ _ _ (by rw [fcIter_len]; exact h1), ih (by omega), e', (cyS_spec hb h1' h2').2.2.1 c h1 h2]
    by_cases hjk : j = k
    · subst hjk
      have : c = c' := by omega
      rw [if_neg (by omega), if_pos this, if_pos (by omega)]; omega
    · have : c ≠ c' := fun h => hjk (chords_get_inj hj (by omega) (by rw [e, e', h]))
      rw [if_neg this]
      by_cases h3 : j < k
      · rw [if_pos h3, if_pos (by omega)]; omega
      · rw [if_neg h3, if_neg (by omega)]; omega
theorem fc_bnd {n : Net} (hb : netB n = true) {am : List Int} (ha : ∀ i, -30000 ≤ am.getD i 0 ∧ am.getD i 0 ≤ 30000) (k : Nat) (hk : k ≤ (chords n).length) (i : Nat) : -(30000 * (k : Int)) ≤ (fcIter n am k).getD i 0 ∧ (fcIter n am k).getD i 0 ≤ 30000 * k := by
  induction k with
  | zero => rw [fcIter, rep0]; omega
  | succ k ih =>
    obtain ⟨c', e', h1', h2'⟩ := chord_at (n := n) (k := k) (by omega)
    have hbd := (cyS_spec hb h1' h2').2.2.2 i
    have hak := ha k
    have ih := ih (by omega)
    rw [fcIter]
    by_cases hi : i < (fcIter n am k).length
    · rw [addM_get _ _ _ hi, e']
      obtain ⟨a, hae⟩ : ∃ a, a = am.getD k 0 := ⟨_, rfl⟩
      obtain ⟨b, hbe⟩ : ∃ b, b = (cyS n c').getD i 0 := ⟨_, rfl⟩
      rw [← hae] at hak ⊢
      rw [← hbe] at hbd ⊢
      have : b = -1 ∨ b = 0 ∨ b = 1 := by omega
      rcases this with rfl | rfl | rfl <;> omega
    · have : (addM (fcIter n am k) (cyS n ((chords n).getD k 0)) (am.getD k 0)).getD i 0 = 0 := by
        simp only [List.getD]
        rw [List.getElem?_eq_none (by rw [addM_len]; omega)]
        rfl
      rw [this]; omega

end Go.Proofs.Ytdapdaadglaoiaa
