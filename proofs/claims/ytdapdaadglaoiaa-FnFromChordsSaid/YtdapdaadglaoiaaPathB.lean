/- slices.Reverse of a slice of integers that the call may write. ShortestPath of the program. -/
import Derived.Test.YtdapdaadglaoiaaOwn
import Derived.Test.YtdapdaadglaoiaaPathA
import Derived.StillTailTactics
namespace Go.Proofs.Ytdapdaadglaoiaa
open Go.RowKit

/-- The k outermost elements of both ends are exchanged. -/
def rvs (zs : List Int) (k : Nat) : List Int := (List.range zs.length).map (fun p : Nat => if p < k ∨ zs.length - k ≤ p then zs.getD (zs.length - 1 - p) 0 else zs.getD p 0)
theorem rvs_len (zs : List Int) (k : Nat) : (rvs zs k).length = zs.length := by simp [rvs]
theorem rvs_get (zs : List Int) (k p : Nat) (h : p < (rvs zs k).length) : (rvs zs k)[p] = if p < k ∨ zs.length - k ≤ p then zs.getD (zs.length - 1 - p) 0 else zs.getD p 0 := by simp [rvs]
theorem rvs_zero (zs : List Int) : rvs zs 0 = zs := by
  apply List.ext_getElem
  · rw [rvs_len]
  · intro p h1 h2
    rw [rvs_get, if_neg (by omega)]
    simp [List.getD, h2]
theorem rvs_end (zs : List Int) (k j : Nat) (h : k + j + 1 = zs.length) (h1 : j ≤ k) (h2 : k ≤ j + 1) : rvs zs k = zs.reverse := by
  apply List.ext_getElem
  · rw [rvs_len]; simp
  · intro p h3 h4
    have hp : p < zs.length := by rw [rvs_len] at h3; exact h3
    rw [rvs_get, List.getElem_reverse]
    split
    · simp [List.getD, show zs.length - 1 - p < zs.length by omega]
    · have e : zs.length - 1 - p = p := by omega
      simp [e, List.getD, hp]
theorem rvs_step (zs : List Int) (k j : Nat) (h : k + j + 1 = zs.length) (h1 : k < j) (x y : Int) (hx : zs.getD j 0 = x) (hy : zs.getD k 0 = y) : ((rvs zs k).set k x).set j y = rvs zs (k + 1) := by
  subst hx hy
  apply List.ext_getElem
  · simp [rvs_len]
  · intro p h3 h4
    have hp : p < zs.length := by rw [rvs_len] at h4; exact h4
    rw [rvs_get, List.getElem_set, List.getElem_set]
    by_cases e1 : j = p
    · subst e1
      rw [if_pos rfl, if_pos (by omega), (by omega : zs.length - 1 - j = k)]
    · rw [if_neg e1]
      by_cases e2 : k = p
      · subst e2
        rw [if_pos rfl, if_pos (by omega), (by omega : zs.length - 1 - k = j)]
      · rw [if_neg e2, rvs_get]
        by_cases e3 : p < k ∨ zs.length - k ≤ p
        · rw [if_pos e3, if_pos (by omega)]
        · rw [if_neg e3, if_neg (by omega)]

def RvNil (w : World) (i j : Value) (wr : World) : Prop := i = .int .i64 0 ∧ j = .int .i64 (-1) ∧ wr = w
def RvRel (P : Nat → Prop) (zs : List Int) (v : Value) (w : World) (i j : Value) (wr : World) : Prop :=
  ∃ k m : Nat, i = .int .i64 k ∧ j = .int .i64 m ∧ k + m + 1 = zs.length ∧ k ≤ m + 1 ∧ Slc P wr v (rvs zs k) ∧ Kept P w wr

set_option maxHeartbeats 1000000 in
set_option maxRecDepth 100000 in
theorem reverse_any (P : Nat → Prop) (v : Value) (zs : List Int) (w : World) (h : Slc P w v zs) :
    Calls Try.prog 145 #[v] w fun e w' => e = .returned (.tuple #[]) ∧ Slc P w' v zs.reverse ∧ Kept P w w' := by
  have HS := hid h
  obtain ⟨hm, a, cap, rfl, hc⟩ := h
  clear hc
  by_cases h0 : zs.length = 0
  · have hz : zs = [] := List.eq_nil_of_length_eq_zero h0
    subst hz
    go_enter Try.func145, Try.ntmps145
    go_wp2_with fail
    go_loopw [2, 3] (fun i j wr => RvNil w i j wr) (fun i j _ => 0)
    case atStart => exact ⟨rfl, rfl, rfl⟩
    case round =>
      obtain ⟨rfl, rfl, rfl⟩ := hrel
      go_wp2_with fail
      go_end0
      exact ⟨rfl, HS.out, Kept.refl _ _⟩
  go_enter Try.func145, Try.ntmps145
  go_wp2_with fail
  go_loopw [2, 3] (fun i j wr => RvRel P zs (.slice a zs.length cap) w i j wr) (fun i j _ => (intOf j + 1 - intOf i).toNat)
  case atStart => exact ⟨0, zs.length - 1, rfl, by go_num, by omega, by omega, by rw [rvs_zero]; exact HS.out, Kept.refl _ _⟩
  case round =>
    clear HS
    obtain ⟨k, m, rfl, rfl, hkm, hle, hs, hkp⟩ := hrel
    have hrl := rvs_len zs k
    by_cases hlt : k < m
    · obtain ⟨b, off, rfl, hp, hblt, hf, hcc⟩ := hs.at (by omega)
      obtain ⟨y, hy⟩ : ∃ y, zs.getD k 0 = y := ⟨_, rfl⟩
      obtain ⟨x, hx⟩ : ∃ x, zs.getD m 0 = x := ⟨_, rfl⟩
      have q1 := hcc k (by omega)
      rw [rvs_get, if_neg (by omega), hy] at q1
      have q2 := hcc m (by omega)
      rw [rvs_get, if_neg (by omega), hx] at q2
      have f1 := hf (off + k)
      have f2 := hf (off + m)
      have HSET := hid ((hs.set k (by omega) x).set m (by simp; omega) y)
      have HK := hid ((hkp.setCell (p := ⟨b, off + k, none⟩) hp (.int .i64 x)).setCell (p := ⟨b, off + m, none⟩) hp (.int .i64 y))
      have HST := hid (rvs_step zs k m hkm hlt x y hx hy)
      have hl1 : (k : Int) < m := by omega
      have hl2 : (k : Int) < zs.length := by omega
      have hl3 : (m : Int) < zs.length := by omega
      clear hs hkp hf hcc hx hy hrl
      go_wp2_with fail
      go_region
      go_wp2_with fail
      go_roundw
      case rel => exact ⟨k + 1, m - 1, by go_num, by go_num, by omega, by omega, by rw [← HST.out]; exact HSET.out.below (Below.refl _ _).drew, HK.out.drew⟩
      case measure => simp [intOf]; omega
    · have hend : Hid (rvs zs k = zs.reverse) := rvs_end zs k m (by omega) (by omega) (by omega)
      have HS := hid hs
      have HK := hid hkp
      clear hs hkp hrl
      go_wp2_with fail
      go_end0
      exact ⟨rfl, by rw [← hend.out]; exact HS.out, HK.out⟩

end Go.Proofs.Ytdapdaadglaoiaa

namespace Go.Proofs.Ytdapdaadglaoiaa
open Go.RowKit

theorem codeNs_two {n : Net} {a b : Int} (h : codeNs n [a, b] = 0) : netB n = true ∧ 0 ≤ a ∧ a < n.nodes.length ∧ 0 ≤ b ∧ b < n.nodes.length := by
  unfold codeNs at h
  split at h
  · next hb =>
    split at h
    · next hv =>
      have hv' : inB a 0 ((n.nodes.length : Int) - 1) = true ∧ inB b 0 ((n.nodes.length : Int) - 1) = true := by simpa using hv
      have h1 := inB_t hv'.1
      have h2 := inB_t hv'.2
      exact ⟨hb, by omega, by omega, by omega, by omega⟩
    · cases h
  · cases h

/-- The pipes back along the entries, d steps from x on. -/
def pb (n : Net) (s : Sr) : Nat → Int → List Int
  | 0, _ => []
  | d + 1, x => s.ent.getD x.toNat 0 :: pb n s d (oth (pAt n (s.ent.getD x.toNat 0)) x)
theorem pb_len (n : Net) (s : Sr) (d : Nat) (x : Int) : (pb n s d x).length = d := by
  induction d generalizing x with
  | zero => rfl
  | succ d ih => simp [pb, ih]
theorem Good.up {n : Net} {v : Int} {s : Sr} (g : Good n v s) {x : Int} (hx : x ∈ s.order) (hne : x ≠ v) :
    ∃ i : Nat, ∃ hi : i < n.pipes.length, s.ent.getD x.toNat 0 = i ∧ atF x n.pipes[i] = true ∧ oth n.pipes[i] x ∈ s.order ∧ s.dist.getD x.toNat 0 = s.dist.getD (oth n.pipes[i] x).toNat 0 + 1 := by
  obtain ⟨k, hk, rfl⟩ := List.getElem_of_mem hx
  have hk0 : 0 < k := by
    rcases Nat.eq_zero_or_pos k with h | h
    · subst h; exact absurd g.head hne
    · exact h
  obtain ⟨i, h1, hi, h2, j, hj, _, h3, h4⟩ := g.tree k hk hk0
  exact ⟨i, hi, h1, h2, by rw [h3]; exact List.getElem_mem hj, by rw [h3]; exact h4⟩
theorem Good.nn {n : Net} {v : Int} {s : Sr} (g : Good n v s) {x : Int} (hx : x ∈ s.order) : 0 ≤ s.dist.getD x.toNat 0 :=
  (g.mem x (g.rng x hx).1 (g.rng x hx).2).2 hx
theorem Good.zero {n : Net} {v : Int} {s : Sr} (g : Good n v s) {x : Int} (hx : x ∈ s.order) (h : s.dist.getD x.toNat 0 = 0) : x = v := by
  rcases Int.decEq x v with h1 | h1
  · obtain ⟨i, hi, _, _, h2, h3⟩ := g.up hx h1
    have := g.nn h2
    omega
  · exact h1
/-- One step back. -/
theorem Good.back {n : Net} {v : Int} {s : Sr} (g : Good n v s) {x d : Nat} (hx : (x : Int) ∈ s.order) (hne : (x : Int) ≠ v) (hd : s.dist.getD x 0 = d) :
    ∃ i y e : Nat, ∃ hi : i < n.pipes.length, d = e + 1 ∧ s.ent.getD x 0 = i ∧ atF x n.pipes[i] = true ∧ oth n.pipes[i] x = y ∧ (y : Int) ∈ s.order ∧ s.dist.getD y 0 = e ∧ pb n s d x = (i : Int) :: pb n s e y := by
  obtain ⟨i, hi, h1, h2, h3, h4⟩ := g.up hx hne
  rw [Int.toNat_natCast] at h1 h4
  have h5 := g.nn h3
  have h6 := (g.rng _ h3).1
  obtain ⟨y, hy⟩ : ∃ y : Nat, oth n.pipes[i] x = y := ⟨(oth n.pipes[i] x).toNat, by omega⟩
  rw [hy] at h3 h4 h5
  rw [Int.toNat_natCast] at h4 h5
  obtain ⟨e, he⟩ : ∃ e : Nat, s.dist.getD y 0 = e := ⟨(s.dist.getD y 0).toNat, by omega⟩
  obtain rfl : d = e + 1 := by omega
  refine ⟨i, y, e, hi, rfl, h1, h2, hy, h3, he, ?_⟩
  rw [pb, Int.toNat_natCast, h1, pAt_nat hi, hy]

/-- The path's pipes in order. -/
def pathOf (n : Net) (a b : Int) : List Int := (pb n (srch n a) ((srch n a).dist.getD b.toNat 0).toNat b).reverse
def spR (n : Net) (a b : Int) : List Int × Int := if codeNs n [a, b] = 0 then (if (srch n a).dist.getD b.toNat 0 < 0 then ([], 4) else (pathOf n a b, 0)) else ([], codeNs n [a, b])
theorem pathOf_len (n : Net) (a b : Int) : (pathOf n a b).length = ((srch n a).dist.getD b.toNat 0).toNat := by simp [pathOf, pb_len]
theorem spR_len (n : Net) (a b : Int) : (spR n a b).1.length ≤ 2000000 := by
  unfold spR
  split
  · next h =>
    obtain ⟨hb, h0, h1, _⟩ := codeNs_two h
    split
    · simp
    · simp only [pathOf_len]
      have g := good_srch hb h0 h1
      have := g.hi b.toNat
      have := g.le_nodes
      have := netB_t hb
      omega
  · simp

def PwRel (n : Net) (s : Sr) (T : List Int) (l ls : List Value) (w : World) (bs : Nat) (ev : Value) (b p : Value) (wr : World) : Prop :=
  ∃ (x d : Nat) (L : List Int), b = .int .i64 x ∧ (x : Int) ∈ s.order ∧ s.dist.getD x 0 = d ∧ L ++ pb n s d x = T ∧ OwnI 2 (bs + 1) wr p L ∧ Box wr w.heap.size l ∧ Box wr bs ls ∧ Slc (fun c => w.heap.size ≤ c ∧ c < bs) wr ev s.ent ∧ Below w.heap.size w wr

set_option maxHeartbeats 2000000 in
set_option maxRecDepth 100000 in
theorem impl_ShortestPath_any (nv pv : Value) (n : Net) (a b : Int) (w : World) (h : NetAt w nv pv n) (hcap : CapOk nv) :
    Calls Try.prog 78 #[.agg #[nv, pv], .int .i64 a, .int .i64 b] w (OutI w (spR n a b)) := by
  obtain ⟨a0, k0, rfl⟩ := h.1.shape
  obtain ⟨a1, k1, rfl⟩ := h.2.2.shape
  have HP := hid h
  have hWb := below_new w (.cells #[.slice a0 n.nodes.length k0, .slice a1 n.pipes.length k1] 27)
  have hbx := Box.new w #[.slice a0 n.nodes.length k0, .slice a1 n.pipes.length k1] 27
  have hW2 := hWb.alloc hWb.size (.cells #[.int .i64 a, .int .i64 b] 2)
  have hbx := hbx.below (below_new _ (.cells #[.int .i64 a, .int .i64 b] 2))
  have hvb := Box.new (w.alloc (.cells #[.slice a0 n.nodes.length k0, .slice a1 n.pipes.length k1] 27)) #[.int .i64 a, .int .i64 b] 2
  have h := h.below hW2
  rw [World.size_alloc] at hvb
  have hcell : ∀ j (hj : j < [a, b].length), ((w.alloc (.cells #[.slice a0 n.nodes.length k0, .slice a1 n.pipes.length k1] 27)).alloc (.cells #[.int .i64 a, .int .i64 b] 2)).cell? ⟨w.heap.size + 1, j, none⟩ = some (.int .i64 [a, b][j]) := fun j hj => by
    have hj' : j < 2 := by simpa using hj
    rcases (by omega : j = 0 ∨ j = 1) with rfl | rfl
    · exact hvb.two.1
    · exact hvb.two.2
  go_enter Try.func78, Try.ntmps78
  go_wp2_with fail
  refine (checkNodes_any _ _ n (w.heap.size + 1) [a, b] 2 _ h hcap hvb.1 hcell (by simp)).mono ?_
  by_cases hc : codeNs n [a, b] = 0
  case neg =>
    have hr : Hid (spR n a b = ([], codeNs n [a, b])) := by simp [Hid, spR, hc]
    obtain ⟨c, hcc⟩ : ∃ c, codeNs n [a, b] = c := ⟨_, rfl⟩
    rw [hcc] at hr hc ⊢
    have hc' : (c != 0) = true := by simpa using hc
    rintro e w1 ⟨rfl, b1⟩
    have B := hid (hW2.trans (b1.mono hW2.size))
    clear hcc
    go_wp2_with fail
    go_ret2
    rw [hr.out]
    exact ⟨_, rfl, Slc.nil _ _, B.out⟩
  obtain ⟨hb, va0, va1, vb0, vb1⟩ := codeNs_two hc
  have hnl := netB_t hb
  obtain ⟨x0, rfl⟩ : ∃ x0 : Nat, b = x0 := ⟨b.toNat, by omega⟩
  have hr : Hid (spR n a x0 = if (srch n a).dist.getD x0 0 < 0 then ([], 4) else (pathOf n a x0, 0)) := by simp [Hid, spR, hc]
  rw [hc]
  rintro e w1 ⟨rfl, b1⟩
  have B := hid (hW2.trans (b1.mono hW2.size))
  have bx := hbx.below b1
  obtain ⟨c0, c1⟩ := bx.two
  have HX := hid bx
  have h := h.below b1
  have g := good_srch hb va0 va1
  clear hWb hW2 b1 hbx hc hvb hcell bx
  go_wp2_with fail
  refine (searchFrom_any _ _ n a _ h hb va0 va1).mono ?_
  have hpo : Hid (pathOf n a x0 = (pb n (srch n a) ((srch n a).dist.getD x0 0).toNat x0).reverse) := rfl
  obtain ⟨s, hs⟩ : ∃ s, s = srch n a := ⟨_, rfl⟩
  rw [← hs] at g hr hpo ⊢
  clear hs h
  rintro e w2 ⟨ov, dv, ev, rfl, so, sd, se, b2⟩
  have B2 := hid (B.out.trans (b2.mono B.out.size))
  have HX2 := hid (HX.out.below b2)
  have hsz := B.out.size
  have z2 := b2.size
  have SD := hid sd
  have SE := hid se
  obtain ⟨_, oa, oc, rfl, _⟩ := so
  obtain ⟨_, da, dc, rfl, _⟩ := sd
  obtain ⟨_, ea, ec, rfl, _⟩ := se
  have lld := g.ld
  have lle := g.le
  have hxl : x0 < s.dist.length := by omega
  obtain ⟨db, doff, rfl, hdb, hdbl, _, hdc⟩ := SD.out.at (by omega)
  have q0 := hdc x0 hxl
  have hgd : s.dist.getD x0 0 = s.dist[x0] := by simp [List.getD, hxl]
  rw [hgd] at hr hpo
  clear b2 c0 c1 hdc HX B lld lle
  by_cases hneg : s.dist[x0] < 0
  · rw [if_pos hneg] at hr
    go_wp2_with fail
    go_ret2
    rw [hr.out]
    exact ⟨_, rfl, Slc.nil _ _, below_al B2.out⟩
  rw [if_neg hneg] at hr
  obtain ⟨D, hD⟩ : ∃ D : Nat, s.dist[x0] = D := ⟨(s.dist[x0]).toNat, by omega⟩
  have hx0 : (x0 : Int) ∈ s.order := (g.mem x0 (by omega) (by omega)).1 (by rw [Int.toNat_natCast, hgd]; omega)
  have hpo2 : Hid (pathOf n a x0 = (pb n s D x0).reverse) := by
    have := hpo.out
    rw [hD, Int.toNat_natCast] at this
    exact this
  have hD0 : Hid (s.dist.getD x0 0 = D) := hgd.trans hD
  have hDb : D ≤ 24 := by
    have h1 := g.hi x0
    have h2 := g.le_nodes
    rw [hD0.out] at h1
    omega
  have HHD := hid hD
  clear hgd hpo hD
  go_wp2_with fail
  clear hneg q0
  go_loopw [2, 10] (fun b p wr => PwRel n s (pb n s D x0) [.slice a0 n.nodes.length k0, .slice a1 n.pipes.length k1] [.slice oa s.order.length oc, .slice (some ⟨db, doff, none⟩) s.dist.length dc, .slice ea s.ent.length ec] w w2.heap.size (.slice ea s.ent.length ec) b p wr) (fun b _ _ => (s.dist.getD (intOf b).toNat 0).toNat)
  case atStart =>
    refine ⟨x0, D, [], rfl, hx0, hD0.out, rfl, OwnI.nil _ _ _, HX2.out.below (below_new _ _), Box.new _ _ _, ?_, B2.out.alloc B2.out.size _⟩
    exact (SE.out.below (below_new _ _)).mono (fun c _ h => ⟨by omega, h.2⟩)
  case round =>
    clear HX2 SE SD B2
    obtain ⟨x, d, L, rfl, hx, hd, hL, ho, bx, bs, se, hbel⟩ := hrel
    have hLd : L.length + d = D := by
      have := congrArg List.length hL
      simp only [List.length_append, pb_len] at this
      exact this
    by_cases hxa : (x : Int) = a
    · have hd0 : d = 0 := by
        subst hxa
        have := g.d0
        rw [Int.toNat_natCast] at this
        omega
      subst hd0
      have hLe : L = pb n s D x0 := by simpa [pb] using hL
      have hpo3 : Hid (pathOf n a x0 = L.reverse) := by rw [hLe]; exact hpo2.out
      have hbt : ((x : Int) != a) = false := by simpa using hxa
      have HO := hid ho
      have HB := hid hbel
      obtain ⟨pa, pc, rfl, _⟩ := ho.shape
      clear hL hLe ho bx bs se hbel hxa
      go_wp2_with fail
      refine (reverse_any _ _ L _ (HO.out.slc (by omega))).mono ?_
      rintro e w3 ⟨rfl, hr3, hk3⟩
      have HR3 := hid hr3
      have HB3 := hid (HB.out.trans (hk3.below HB.out.size (fun c h => by have := h.1; omega)))
      have z3 := hk3.size
      clear hr3 hk3
      go_wp2_with fail
      go_ret2
      rw [hr.out, hpo3.out]
      refine ⟨_, rfl, ?_, HB3.out⟩
      have := HR3.out.mono (Q := fun c => w.heap.size ≤ c ∧ c < w3.heap.size) (fun c hc h => ⟨by have := h.1; omega, hc⟩)
      exact this
    · obtain ⟨i, y, e, hip, rfl, h1, h2, h3, h4, h5, h6⟩ := g.back hx hxa hd
      have hbt : ((x : Int) != a) = true := by simpa using hxa
      rw [h6] at hL
      have hL' : Hid ((L ++ [(i : Int)]) ++ pb n s e y = pb n s D x0) := by rw [List.append_assoc]; exact hL
      have lle := g.le
      have hrx := g.rng _ hx
      have hxe : x < s.ent.length := by omega
      have hei : s.ent[x] = i := by simpa [List.getD, hxe] using h1
      obtain ⟨eb, eo, rfl, he1, he2, _, hec⟩ := se.at (by omega)
      have q1 := hec x hxe
      rw [hei] at q1
      obtain ⟨c0, c1⟩ := bx.two
      obtain ⟨d0, d1, d2⟩ := bs.three
      have hbl := bs.1
      have hbw := bx.1
      obtain ⟨pb0, poff, rfl, hpb, hpc⟩ := (HP.out.below hbel).2.2.at' (by omega)
      have hpbw : pb0 < w.heap.size := by
        obtain ⟨q, qo, hq, hql, _⟩ := HP.out.2.2.at' (by omega)
        simp at hq
        omega
      obtain ⟨x0', x1, x2, x3, x4⟩ := cellsP (hpc i hip)
      have hoe : ∀ W : World, Calls Try.prog 95 #[.agg #[.int .i64 n.pipes[i].fr, .int .i64 n.pipes[i].to, .int .i64 n.pipes[i].k, .int .i64 n.pipes[i].vol, .int .i64 n.pipes[i].lim], .int .i64 x] W fun e w' => e = .returned (.int .i64 y) ∧ w' = W.alloc (.cells #[.int .i64 n.pipes[i].fr, .int .i64 n.pipes[i].to, .int .i64 n.pipes[i].k, .int .i64 n.pipes[i].vol, .int .i64 n.pipes[i].lim] 73) := fun W => by
        have := otherEnd_alloc n.pipes[i] x W
        rw [h3] at this
        exact this
      have HOE := hid hoe
      have HO := hid ho
      have HX := hid bx
      have HS := hid bs
      have SE := hid se
      have HB := hid hbel
      have HD := hid hd
      have H5 := hid h5
      have hnlL : L.length ≤ 24 := by omega
      have hzz : wr.heap.size ≥ w2.heap.size + 1 := by omega
      clear hL ho bx bs se hbel hxa hec hei h1 h2 h3 h6 hpc hoe lle hd h5 hLd
      go_wp2_with (at_builtin; refine wpList_app1 rfl (.tmp 31) (.tmp 37) rfl (w2.heap.size + 1) u10 _ rfl (HO.out.alloc _) wr.heap.size (i : Int) rfl ?c1 ?c2 ?c3 ?_)
      case c1 => simp
      case c2 => omega
      case c3 => simp; omega
      intro v1 w3 hv1 hk1 hb1
      have hlo := HO.out.lt
      have kk : Kept (fun c => w2.heap.size + 1 ≤ c) wr w3 := ((Kept.refl (fun c => w2.heap.size + 1 ≤ c) wr).alloc (.cells #[.int .i64 i] 2)).trans (hk1.mono (fun c _ h => (hlo c h).1))
      have Z3 := kk.size
      have HX3 := hid (HX.out.kept kk (by omega))
      have HS3 := hid (HS.out.kept kk (by omega))
      have SE3 := hid (SE.out.kept kk (fun c _ h h' => by omega))
      have HB3 := hid (HB.out.trans (kk.below HB.out.size (fun c h => by omega)))
      have C1 := kk.cell c1 (by simp only; omega)
      have D2 := kk.cell d2 (by simp only; omega)
      have Q1 := kk.cell q1 (by simp only; omega)
      have hpw : pb0 < w2.heap.size + 1 := by omega
      have X0 := kk.cell x0' (by simp only; omega)
      have X1 := kk.cell x1 (by simp only; omega)
      have X2 := kk.cell x2 (by simp only; omega)
      have X3 := kk.cell x3 (by simp only; omega)
      have X4 := kk.cell x4 (by simp only; omega)
      have HV := hid hv1
      have hln : (L ++ [(i : Int)]).length = L.length + 1 := by simp
      obtain ⟨va, vc, hve, _⟩ := hv1.shape
      simp only [hln] at hve
      subst hve
      clear hv1 hk1 hb1 kk c0 c1 d0 d1 d2 q1 x0' x1 x2 x3 x4 HX HS SE HB HO hlo
      go_wp2_with fail
      go_still_tail 10, (by kernel_rfl)
      change wpList _ _ _ _ _ (World.drew _)
      go_wp2_with (go_at_call 95; refine (HOE.out _).mono ?_; rintro e w' ⟨rfl, rfl⟩)
      have bb : ∀ o, Below w3.heap.size w3 (w3.drew.alloc o) := fun o => ((Below.refl _ _).drew.alloc (Nat.le_refl _) o)
      go_roundw
      case rel => exact ⟨y, e, L ++ [(i : Int)], rfl, h4, H5.out, hL'.out, HV.out.below (bb _), HX3.out.below (bb _), HS3.out.below (bb _), SE3.out.below (bb _), HB3.out.trans ((bb _).mono HB3.out.size)⟩
      case measure =>
        have h1 := HD.out
        have h2 := H5.out
        show (s.dist.getD ((y : Int)).toNat 0).toNat < (s.dist.getD ((x : Int)).toNat 0).toNat
        rw [Int.toNat_natCast, Int.toNat_natCast, h1, h2]
        omega

end Go.Proofs.Ytdapdaadglaoiaa
