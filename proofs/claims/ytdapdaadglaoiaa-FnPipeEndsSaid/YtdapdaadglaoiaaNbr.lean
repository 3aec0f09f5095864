/- NeighboursOf of both sides. -/
import Derived.Test.YtdapdaadglaoiaaHas
import Derived.Test.YtdapdaadglaoiaaSort
import Derived.Test.YtdapdaadglaoiaaPathA
import Derived.Test.YtdapdaadglaoiaaPipesAt
import Derived.StillTailTactics
namespace Go.Proofs.Ytdapdaadglaoiaa
open Go.RowKit

theorem compact_mem {zs : List Int} {x : Int} : x ∈ Lib.compact zs ↔ x ∈ zs := by
  unfold Lib.compact Lib.compactUpTo
  simp only [List.mem_map, List.mem_filter, List.mem_range]
  constructor
  · rintro ⟨j, ⟨hj, _⟩, rfl⟩
    rw [getElem!_pos _ _ (by simpa using hj)]
    simp
  · intro h
    obtain ⟨j, hj, he⟩ := List.getElem_of_mem h
    have : ∀ m (hm : m < zs.length), zs[m] = x → ∃ a, (a < zs.length ∧ Lib.keeps zs.toArray a = true) ∧ zs.toArray[a]! = x := by
      intro m
      induction m with
      | zero => intro hm e; exact ⟨0, ⟨hm, by simp [Lib.keeps]⟩, by rw [getElem!_pos _ _ (by simpa using hm)]; simpa using e⟩
      | succ m ih =>
        intro hm e
        by_cases hk : zs[m] = x
        · exact ih (by omega) hk
        · refine ⟨m + 1, ⟨hm, ?_⟩, by rw [getElem!_pos _ _ (by simpa using hm)]; simpa using e⟩
          refine Lib.keeps_pos ?_
          rw [getElem!_pos _ _ (by simpa using hm), getElem!_pos _ _ (by simp; omega)]
          simp only [List.getElem_toArray, Nat.add_sub_cancel]
          rw [e]; exact fun h => hk h.symm
    exact this j hj he
theorem compact_sorted {zs : List Int} (h : zs.Pairwise (fun a b => a ≤ b)) : (Lib.compact zs).Pairwise (fun a b => a < b) := by
  unfold Lib.compact Lib.compactUpTo
  rw [List.pairwise_map, List.pairwise_filter]
  refine List.Pairwise.imp_of_mem ?_ List.pairwise_lt_range
  intro i j hi hj hij _ hk
  have hi' := List.mem_range.1 hi
  have hj' := List.mem_range.1 hj
  rw [List.pairwise_iff_getElem] at h
  rw [getElem!_pos _ _ (by simpa using hi'), getElem!_pos _ _ (by simpa using hj')]
  simp only [List.getElem_toArray]
  have h1 : zs[i] ≤ zs[j - 1] := by
    by_cases e : i = j - 1
    · subst e; omega
    · exact h i (j - 1) hi' (by omega) (by omega)
  have h2 := h (j - 1) j (by omega) hj' (by omega)
  have h3 : ¬ zs[j] = zs[j - 1] := by
    intro e
    unfold Lib.keeps at hk
    rw [getElem!_pos _ _ (by simpa using hj'), getElem!_pos _ _ (by simp; omega)] at hk
    simp [e] at hk
    omega
  omega
theorem sorted_ext {l m : List Int} (hl : l.Pairwise (fun a b => a < b)) (hm : m.Pairwise (fun a b => a < b)) (h : ∀ x, x ∈ l ↔ x ∈ m) : l = m :=
  List.Perm.eq_of_pairwise (le := fun a b : Int => a ≤ b) (fun a b _ _ h1 h2 => by omega) (hl.imp (fun h => by omega)) (hm.imp (fun h => by omega))
    ((List.perm_ext_iff_of_nodup (hl.imp (fun h => by omega)) (hm.imp (fun h => by omega))).2 h)

def endsTo (n : Net) (v : Int) (k : Nat) : List Int := ((pipesOf n v).take k).map (fun i => oth (pAt n i) v)
theorem endsTo_succ (n : Net) (v : Int) (k : Nat) (h : k < (pipesOf n v).length) : endsTo n v (k + 1) = endsTo n v k ++ [oth (pAt n (pipesOf n v)[k]) v] := by
  unfold endsTo
  rw [List.take_succ_eq_append_getElem h, List.map_append]; rfl
theorem endsTo_len (n : Net) (v : Int) (k : Nat) : (endsTo n v k).length ≤ k := by unfold endsTo; simp; omega
def endsOf (n : Net) (v : Int) : List Int := endsTo n v (pipesOf n v).length
def hasE (n : Net) (v : Int) (j : Nat) : Bool := (endsOf n v).contains (j : Int)
def nbTo (n : Net) (v : Int) (k : Nat) : List Int := ((List.range k).filter (hasE n v)).map (fun i : Nat => (i : Int))
theorem nbTo_succ (n : Net) (v : Int) (k : Nat) : nbTo n v (k + 1) = nbTo n v k ++ (if hasE n v k = true then [(k : Int)] else []) := by
  unfold nbTo
  rw [List.range_succ, List.filter_append, List.map_append]
  congr 1
  cases h : hasE n v k <;> simp only [List.filter_cons, h, List.filter_nil] <;> rfl
theorem nbTo_len (n : Net) (v : Int) (k : Nat) : (nbTo n v k).length ≤ k := by
  unfold nbTo
  rw [List.length_map]
  exact Nat.le_trans (List.length_filter_le _ _) (by simp)
theorem nbTo_sorted (n : Net) (v : Int) (k : Nat) : (nbTo n v k).Pairwise (fun a b => a < b) := by
  unfold nbTo
  rw [List.pairwise_map]
  exact (List.pairwise_lt_range.filter _).imp (fun h => by omega)
theorem ends_mem {n : Net} (hb : netB n = true) {v x : Int} (h : x ∈ endsOf n v) : 0 ≤ x ∧ x < n.nodes.length := by
  unfold endsOf endsTo at h
  rw [List.take_length, List.mem_map] at h
  obtain ⟨i, hi, rfl⟩ := h
  obtain ⟨k, rfl, hk, ha⟩ := pipesOf_mem hi
  have := oth_rng hb hk ha
  rw [pAt_nat hk]; omega
theorem nb_eq {n : Net} (hb : netB n = true) (v : Int) : Lib.compact (sortZ (endsOf n v)) = nbTo n v n.nodes.length := by
  refine sorted_ext (compact_sorted (sortZ_sorted _)) (nbTo_sorted _ _ _) (fun x => ?_)
  rw [compact_mem, (sortZ_perm _).mem_iff]
  unfold nbTo hasE
  simp only [List.mem_map, List.mem_filter, List.mem_range, List.contains_iff_mem]
  constructor
  · intro h
    have := ends_mem hb h
    exact ⟨x.toNat, ⟨by omega, by rw [show ((x.toNat : Nat) : Int) = x by omega]; exact h⟩, by omega⟩
  · rintro ⟨j, ⟨_, h⟩, rfl⟩
    exact h
def nbR (n : Net) (v : Int) : List Int × Int := if codeNs n [v] = 0 then (nbTo n v n.nodes.length, 0) else ([], codeNs n [v])
theorem nbR_len (n : Net) (v : Int) : (nbR n v).1.length ≤ 2000000 := by
  unfold nbR
  split
  · next h =>
    obtain ⟨hb, _⟩ := codeNs_one h
    have := netB_t hb
    have := nbTo_len n v n.nodes.length
    simp only; omega
  · simp

theorem compact_len (zs : List Int) : (Lib.compact zs).length ≤ zs.length := by
  unfold Lib.compact Lib.compactUpTo
  rw [List.length_map]
  exact Nat.le_trans (List.length_filter_le _ _) (by simp)
theorem compact_any (T : TypeId) (B : Nat) (v : Value) (zs : List Int) (w : World) (h : OwnI T B w v zs) (hl : zs.length ≤ 1000000) :
    Calls Try.prog 107 #[v] w fun e w' => ∃ r, e = .returned r ∧ Slc (fun b => B ≤ b ∧ b < w'.heap.size) w' r (Lib.compact zs) ∧ Kept (fun b => v.ownBlock = some b) w w' := by
  have hcl := compact_len zs
  rcases h.2 with ⟨rfl, h0⟩ | ⟨g, cap, cur, rfl, hb, hh, h1, h2, h3, h4⟩
  · have hz : zs = [] := List.eq_nil_of_length_eq_zero h0
    subst hz
    have hc : Calls Try.prog 107 #[.slice none 0 0] w _ := AnyG.slices_Compact_int_empty cmpt none 0 w
    refine hc.mono ?_
    rintro e w' ⟨rfl, rfl⟩
    exact ⟨_, rfl, Slc.nil _ _, Kept.refl _ _⟩
  · by_cases hz : zs = []
    · subst hz
      have hc : Calls Try.prog 107 #[.slice (some ⟨g, 0, none⟩) 0 cap] w _ := AnyG.slices_Compact_int_empty cmpt (some ⟨g, 0, none⟩) cap w
      refine hc.mono ?_
      rintro e w' ⟨rfl, rfl⟩
      exact ⟨_, rfl, ⟨by simp [Lib.compact, Lib.compactUpTo], _, _, rfl, .inl rfl⟩, Kept.refl _ _⟩
    · have hlt : g < w.heap.size := by
        rcases Nat.lt_or_ge g w.heap.size with h | h
        · exact h
        · simp [Array.getElem?_eq_none h] at hh
      have h4' : cur.toList.take zs.length = zs.map (Value.int .i64) := by simpa using h4
      have hH := holds_of_blockI hh h4'
      have hc : Calls Try.prog 107 #[.slice (some ⟨g, 0, none⟩) zs.length cap] w _ := AnyG.slices_Compact_int cmpt g 0 cap zs w hH (by omega) h1
      refine hc.mono ?_
      rintro e w' ⟨rfl, q, rfl⟩
      have hs : (Lib.compact zs ++ List.replicate (zs.length - (Lib.compact zs).length) 0).toArray.size = zs.toArray.size := by simp; omega
      have hP := Go.Sort.holds_putRow (Value.int .i64) (Go.Sort.ahead w q) g 0 zs.toArray _ hH hs
      have hk := grownBy_sortedI (w := w) (g := g) (n := q) (os := #[]) (Lib.compact zs ++ List.replicate (zs.length - (Lib.compact zs).length) 0).toArray
      rw [Go.Sort.grow_empty] at hk
      refine ⟨_, rfl, ⟨by omega, _, _, rfl, .inr ⟨g, 0, rfl, ⟨hb, by simpa [Go.Sort.ahead] using hlt⟩, fun o => ?_, fun i hi => ?_⟩⟩, ⟨hk.os, hk.tape, hk.output, hk.size, fun k hk' hx => hk.block k hk' (fun e => hx e.symm)⟩⟩
      · rw [Go.Sort.frozen?_putRow]
        have : w.frozen? ⟨g, o, none⟩ = false := by simp [World.frozen?, hh]
        exact this
      · have := (hP i (by simp; omega)).1
        rw [this, getElem!_pos _ _ (by simp; omega)]
        simp only [List.getElem_toArray]
        rw [List.getElem_append_left hi]

/-- The append of one number, at a step of a region that draws its order. -/
theorem step_app1 {ops : Array Oper} {o : Oper} {a : Act} {Q : Exit → Act → World → Prop} {w : World} {K : Act → World → Prop} {E : Prop} (hgd : o.guard = none) (s x : Operand)
    (ho : o.op = .call { callee := .builtin .append, args := #[s, x], argTypes := #[33, 33] })
    (B : Nat) (v : Value) (zs : List Int) (hs : a.eval s = v) (hown : OwnI 2 B w v zs) (blk : Nat) (n : Int) (hx : a.eval x = .slice (some ⟨blk, 0, none⟩) 1 1)
    (hc : w.cell? ⟨blk, 0, none⟩ = some (.int .i64 n)) (hlen : zs.length ≤ 1000000000000) (hB : B ≤ w.heap.size)
    (h : ∀ v' w', OwnI 2 B w' v' (zs ++ [n]) → Kept (fun b => v.ownBlock = some b) w w' → (v'.ownBlock = v.ownBlock ∨ v'.ownBlock = some w.heap.size) → K (a.put o.dst v') w') :
    if Region.wanted o (yielded ops a.tmps) = true then Oper.wp Try.prog o a w K Q else E := by
  have hw : Region.wanted o (yielded ops a.tmps) = true := by simp [Region.wanted, hgd]
  rw [if_pos hw]
  obtain ⟨i0, hi, hz0, hz1, hz2⟩ := info_parts info64
  obtain ⟨v', w', hr, h2, h3, h4⟩ := run_append_own2 (P := Try.prog) w B 33 o.type 2 i0 (.int .i64 0) 1 8 Try.underlying33 hi hz0 hz1 hz2 rfl (by decide) v zs.length (zs.map (Value.int .i64)) hown ⟨blk, 0, none⟩ 1 1 [.int .i64 n] rfl
    (fun j u hj => by
      cases j with
      | zero => simp at hj; subst hj; exact hc
      | succ j => simp at hj) (fun u hu => by simp at hu; subst hu; rfl) (by omega) (by omega) (by omega) hB
  unfold Oper.wp execOp
  simp only [ho, resolve, invoke, builtin, Sem.run_bind, Sem.run_pure, Result.andThen_ok, List.map_toArray, List.map_cons, List.map_nil, hs, hx, hr]
  refine h v' w' ?_ (grown_kept h3) h4
  unfold OwnI
  rw [List.length_append, List.map_append]; exact h2

def NbRel (n : Net) (x : Int) (l : List Value) (w : World) (B : Nat) (pv : Value) (i s : Value) (wr : World) : Prop :=
  ∃ k : Nat, i = .int .i64 k ∧ k ≤ (pipesOf n x).length ∧ OwnI 2 B wr s (endsTo n x k) ∧ Box wr w.heap.size l ∧ Slc (fun c => w.heap.size + 1 ≤ c ∧ c < B) wr pv (pipesOf n x) ∧ Below w.heap.size w wr ∧ B ≤ wr.heap.size

set_option maxHeartbeats 1000000 in
set_option maxRecDepth 100000 in
theorem impl_NeighboursOf_any (nv pv : Value) (n : Net) (x : Int) (w : World) (h : NetAt w nv pv n) (hcap : CapOk nv) :
    Calls Try.prog 24 #[.agg #[nv, pv], .int .i64 x] w (OutI w (nbR n x)) := by
  obtain ⟨a0, k0, rfl⟩ := h.1.shape
  obtain ⟨a1, k1, rfl⟩ := h.2.2.shape
  have HP := hid h
  have hWb := below_new w (.cells #[.slice a0 n.nodes.length k0, .slice a1 n.pipes.length k1] 27)
  have hbx := Box.new w #[.slice a0 n.nodes.length k0, .slice a1 n.pipes.length k1] 27
  have hW2 := hWb.alloc hWb.size (.cells #[.int .i64 x] 2)
  have hbx := hbx.below (below_new _ (.cells #[.int .i64 x] 2))
  have hvb := Box.new (w.alloc (.cells #[.slice a0 n.nodes.length k0, .slice a1 n.pipes.length k1] 27)) #[.int .i64 x] 2
  have h := h.below hW2
  rw [World.size_alloc] at hvb
  have hcell : ∀ j (hj : j < [x].length), ((w.alloc (.cells #[.slice a0 n.nodes.length k0, .slice a1 n.pipes.length k1] 27)).alloc (.cells #[.int .i64 x] 2)).cell? ⟨w.heap.size + 1, j, none⟩ = some (.int .i64 [x][j]) := fun j hj => by
    have hj' : j < 1 := by simpa using hj
    obtain rfl : j = 0 := by omega
    exact hvb.2 0 (by simp)
  go_enter Try.func24, Try.ntmps24
  go_wp2_with fail
  refine (checkNodes_any _ _ n (w.heap.size + 1) [x] 1 _ h hcap hvb.1 hcell (by simp)).mono ?_
  by_cases hc : codeNs n [x] = 0
  case neg =>
    have hr : Hid (nbR n x = ([], codeNs n [x])) := by simp [Hid, nbR, hc]
    obtain ⟨c, hcc⟩ : ∃ c, codeNs n [x] = c := ⟨_, rfl⟩
    rw [hcc] at hr hc ⊢
    have hc' : (c != 0) = true := by simpa using hc
    rintro e w1 ⟨rfl, b1⟩
    have B := hid (hW2.trans (b1.mono hW2.size))
    clear hcc
    go_wp2_with fail
    go_ret2
    rw [hr.out]
    exact ⟨_, rfl, Slc.nil _ _, B.out⟩
  obtain ⟨hb, hx0, hx1⟩ := codeNs_one hc
  have hr : Hid (nbR n x = (nbTo n x n.nodes.length, 0)) := by simp [Hid, nbR, hc]
  have hnl := netB_t hb
  rw [hc]
  rintro e w1 ⟨rfl, b1⟩
  have HB := hid (hW2.trans (b1.mono hW2.size))
  have HX := hid (hbx.below b1)
  obtain ⟨c0, c1⟩ := HX.out.two
  have h := h.below b1
  have z1 := b1.size
  clear hWb hW2 b1 hbx hc hvb hcell
  go_wp2_with fail
  refine (pipesAt_any _ _ n x _ h (by omega)).mono ?_
  rintro e w2 ⟨r, rfl, s2, b2⟩
  have HB2 := hid (HB.out.trans (b2.mono HB.out.size))
  have HX2 := hid (HX.out.below b2)
  have zb := HB.out.size
  have z2 := b2.size
  simp only [World.size_alloc] at z1
  have SP := hid ((show Slc _ w2 r (pipesOf n x) from s2).mono (Q := fun c => w.heap.size + 1 ≤ c ∧ c < w2.heap.size) (fun c _ h => ⟨by have := h.1; omega, h.2⟩))
  have hpl : (pipesOf n x).length ≤ n.pipes.length := selP_len _ _ _
  obtain ⟨_, ra, rc, hre, _⟩ := id SP.out
  subst hre
  clear b2 c0 c1 s2 HB h HX z1
  go_wp2_with fail
  go_loopw [21, 7] (fun i s wr => NbRel n x [.slice a0 n.nodes.length k0, .slice a1 n.pipes.length k1] w w2.heap.size (.slice ra (pipesOf n x).length rc) i s wr) (fun i _ _ => (pipesOf n x).length - (intOf i).toNat)
  case atStart => exact ⟨0, rfl, by omega, OwnI.nil _ _ _, HX2.out, SP.out, HB2.out, Nat.le_refl _⟩
  case round =>
    clear HB2 HX2 SP
    obtain ⟨j, rfl, hj, ho, bx, sp, hbel, hB1⟩ := hrel
    have hcl := endsTo_len n x j
    by_cases hjl : j < (pipesOf n x).length
    · have hS := hid (endsTo_succ n x j hjl)
      have hjI : (j : Int) < (pipesOf n x).length := by omega
      obtain ⟨i, hij, hip, hia⟩ := pipesOf_mem (List.getElem_mem hjl)
      obtain ⟨cb, co, rfl, _, hcbl, _, hcc⟩ := sp.at (by omega)
      have q0 := hcc j hjl
      rw [hij] at q0 hS
      rw [pAt_nat hip] at hS
      have hipI : (i : Int) < n.pipes.length := by omega
      obtain ⟨pb0, poff, rfl, hpb, hpc⟩ := (HP.out.below hbel).2.2.at' (by omega)
      have hpbw : pb0 < w.heap.size := by
        obtain ⟨q, qo, hq, hql, _⟩ := HP.out.2.2.at' (by omega)
        simp at hq
        omega
      obtain ⟨x0', x1, x2, x3, x4⟩ := cellsP (hpc i hip)
      obtain ⟨c0, c1⟩ := bx.two
      obtain ⟨E, hE⟩ : ∃ E, E = oth n.pipes[i] x := ⟨_, rfl⟩
      rw [← hE] at hS
      have HOE : Hid (∀ W : World, Calls Try.prog 95 #[.agg #[.int .i64 n.pipes[i].fr, .int .i64 n.pipes[i].to, .int .i64 n.pipes[i].k, .int .i64 n.pipes[i].vol, .int .i64 n.pipes[i].lim], .int .i64 x] W fun e w' => e = .returned (.int .i64 E) ∧ w' = W.alloc (.cells #[.int .i64 n.pipes[i].fr, .int .i64 n.pipes[i].to, .int .i64 n.pipes[i].k, .int .i64 n.pipes[i].vol, .int .i64 n.pipes[i].lim] 73)) := fun W => by
        have := otherEnd_alloc n.pipes[i] x W
        rw [← hE] at this
        exact this
      have HO := hid ho
      have HX := hid bx
      have SP := hid sp
      have HB := hid hbel
      clear ho sp hbel hcc hpc hij bx hE
      go_wp2_with (first | (go_at_call 95; refine (HOE.out _).mono ?_; rintro e w' ⟨rfl, rfl⟩) | (at_builtin; refine wpList_app1 rfl (.tmp 25) (.tmp 33) rfl w2.heap.size _ _ rfl ((HO.out.alloc _).alloc _) (wr.heap.size + 1) E rfl ?c1 ?c2 ?c3 ?_))
      case c1 => simp
      case c2 => omega
      case c3 => simp; omega
      intro v1 w5 hv1 hk1 hb1
      have hlo := HO.out.lt
      have kk : Kept (fun c => w2.heap.size ≤ c) wr w5 := (((Kept.refl (fun c => w2.heap.size ≤ c) wr).alloc _).alloc _).trans (hk1.mono (fun c _ h => (hlo c h).1))
      have zx := HX.out.1
      have HX5 := hid (HX.out.kept kk (by omega))
      have SP5 := hid (SP.out.kept kk (fun c _ h1 h2 => by omega))
      have HB5 := hid (HB.out.trans (kk.below HB.out.size (fun c h => by omega)))
      have HV := hid hv1
      have z5 := kk.size
      clear hv1 hk1 hb1 kk hlo
      go_wp2_with fail
      go_roundw
      case rel => exact ⟨j + 1, by go_num, by omega, by rw [hS.out]; exact HV.out, HX5.out, SP5.out, HB5.out, by omega⟩
      case measure => simp [intOf]; omega
    · obtain rfl : j = (pipesOf n x).length := by omega
      have HO := hid ho
      have HB := hid hbel
      have hne : Hid (endsTo n x (pipesOf n x).length = endsOf n x) := rfl
      clear ho bx sp hbel
      go_wp2_with fail
      refine (sort_any 2 _ _ _ _ HO.out (by omega)).mono ?_
      rintro e w3 ⟨rfl, os, k3⟩
      have hlo := HO.out.lt
      have HB3 := hid (HB.out.trans (k3.below HB.out.size (fun c h => by have := (hlo c h).1; omega)))
      have hF : Hid (Lib.compact (sortZ (endsTo n x (pipesOf n x).length)) = nbTo n x n.nodes.length) := by rw [hne.out]; exact nb_eq hb x
      have HS := hid os
      have z3 := k3.size
      clear os k3 hlo
      go_wp2_with fail
      refine (compact_any 2 _ _ _ _ HS.out (by rw [sortZ_len]; omega)).mono ?_
      rintro e w4 ⟨r, rfl, s4, k4⟩
      rw [hF.out] at s4
      have hlo := HS.out.lt
      have HB4 := hid (HB3.out.trans (k4.below HB3.out.size (fun c h => by have := (hlo c h).1; omega)))
      have S4 := hid s4
      obtain ⟨_, qa, qc, hqe, _⟩ := id s4
      subst hqe
      clear s4 k4 hlo
      go_wp2_with fail
      go_ret2
      rw [hr.out]
      exact ⟨_, rfl, S4.out.mono (fun c _ h => ⟨by have := h.1; omega, h.2⟩), HB4.out⟩

def N2Rel (n : Net) (x : Int) (l : List Value) (w : World) (lo hi : Nat) (pv : Value) (i s : Value) (wr : World) : Prop :=
  ∃ k : Nat, i = .int .i64 k ∧ k ≤ (pipesOf n x).length ∧ OwnI 2 (w.heap.size + 1) wr s (endsTo n x k) ∧ Box wr w.heap.size l ∧ Slc (fun c => lo ≤ c ∧ c < hi) wr pv (pipesOf n x) ∧ (∀ b, s.ownBlock = some b → b < lo ∨ hi ≤ b) ∧ Below w.heap.size w wr ∧ hi ≤ wr.heap.size
def NcRel (n : Net) (x : Int) (w : World) (l : List Value) (B : Nat) (ev : Value) (i s : Value) (wr : World) : Prop :=
  ∃ k : Nat, i = .int .i64 k ∧ k ≤ n.nodes.length ∧ OwnI 2 B wr s (nbTo n x k) ∧ Box wr w.heap.size l ∧ Slc (fun c => w.heap.size + 1 ≤ c ∧ c < B) wr ev (endsOf n x) ∧ Below w.heap.size w wr ∧ B ≤ wr.heap.size

set_option maxHeartbeats 1000000 in
set_option maxRecDepth 100000 in
theorem spec_NeighboursOf_any (nv pv : Value) (n : Net) (x : Int) (w : World) (h : NetAt w nv pv n) :
    Calls Try.prog 29 #[.agg #[nv, pv], .int .i64 x] w (OutI w (nbR n x)) := by
  obtain ⟨a0, k0, rfl⟩ := h.1.shape
  obtain ⟨a1, k1, rfl⟩ := h.2.2.shape
  have HP := hid h
  have hWb := below_new w (.cells #[.slice a0 n.nodes.length k0, .slice a1 n.pipes.length k1] 27)
  have hbx := Box.new w #[.slice a0 n.nodes.length k0, .slice a1 n.pipes.length k1] 27
  have h := h.below hWb
  go_enter Try.func29, Try.ntmps29
  go_wp2_with fail
  refine (l02NodeCode_any _ _ n x _ h).mono ?_
  by_cases hc : codeNs n [x] = 0
  case neg =>
    have hr : Hid (nbR n x = ([], codeNs n [x])) := by simp [Hid, nbR, hc]
    obtain ⟨c, hcc⟩ : ∃ c, codeNs n [x] = c := ⟨_, rfl⟩
    rw [hcc] at hr hc ⊢
    have hc' : (c != 0) = true := by simpa using hc
    rintro e w1 ⟨rfl, b1⟩
    have B := hid (hWb.trans (b1.mono hWb.size))
    clear hcc
    go_wp2_with fail
    go_ret2
    rw [hr.out]
    exact ⟨_, rfl, Slc.nil _ _, B.out⟩
  obtain ⟨hb, hx0, hx1⟩ := codeNs_one hc
  have hr : Hid (nbR n x = (nbTo n x n.nodes.length, 0)) := by simp [Hid, nbR, hc]
  have hnl := netB_t hb
  rw [hc]
  rintro e w1 ⟨rfl, b1⟩
  have HB := hid (hWb.trans (b1.mono hWb.size))
  have HX := hid (hbx.below b1)
  have z1 := b1.size
  simp only [World.size_alloc] at z1
  clear hWb b1 hbx hc h
  have HB1 := hid (HB.out.alloc HB.out.size (.cells #[] 2))
  have HX1 := hid (HX.out.below (below_new _ (.cells #[] 2)))
  have HO1 := hid (OwnI.made 2 (w.heap.size + 1) w1 (by omega))
  obtain ⟨c0, c1⟩ := HX1.out.two
  have hpa := hid (l02At_any _ _ n x _ (HP.out.below HB1.out) (by omega))
  go_wp2_with fail
  refine hpa.out.mono ?_
  rintro e w2 ⟨r, rfl, s2, b2⟩
  clear hpa
  have HB2 := hid (HB1.out.trans (b2.mono HB1.out.size))
  have HX2 := hid (HX1.out.below b2)
  have HO2 := hid (HO1.out.below b2)
  have z2 := b2.size
  simp only [World.size_alloc] at z2
  have SP := hid ((show Slc _ w2 r (pipesOf n x) from s2).mono (Q := fun c => w1.heap.size + 1 ≤ c ∧ c < w2.heap.size) (fun c _ h => ⟨by have := h.1; simp at this; omega, h.2⟩))
  have hpl : (pipesOf n x).length ≤ n.pipes.length := selP_len _ _ _
  obtain ⟨_, ra, rc, hre, _⟩ := id SP.out
  subst hre
  obtain ⟨LO, hLO⟩ : ∃ LO, LO = w1.heap.size + 1 := ⟨_, rfl⟩
  rw [← hLO] at SP
  have hol : ∀ b, (Value.slice (some ⟨w1.heap.size, 0, none⟩) 0 0).ownBlock = some b → b < LO ∨ w2.heap.size ≤ b := fun b hb => by simp [Value.ownBlock] at hb; omega
  have HOL := hid hol
  have zb := HB.out.size
  clear b2 c0 c1 s2 HB HX HB1 HX1 HO1 z1 hol
  go_wp2_with fail
  go_loopw [9, 7] (fun i s wr => N2Rel n x [.slice a0 n.nodes.length k0, .slice a1 n.pipes.length k1] w LO w2.heap.size (.slice ra (pipesOf n x).length rc) i s wr) (fun i _ _ => (pipesOf n x).length - (intOf i).toNat)
  case atStart => exact ⟨0, rfl, by omega, HO2.out, HX2.out, SP.out, HOL.out, HB2.out, Nat.le_refl _⟩
  case round =>
    clear HB2 HX2 SP HO2 HOL
    obtain ⟨j, rfl, hj, ho, bx, sp, hol, hbel, hB1⟩ := hrel
    have hcl := endsTo_len n x j
    have zx := bx.1
    by_cases hjl : j < (pipesOf n x).length
    · have hS := hid (endsTo_succ n x j hjl)
      have hjI : (j : Int) < (pipesOf n x).length := by omega
      obtain ⟨i, hij, hip, hia⟩ := pipesOf_mem (List.getElem_mem hjl)
      obtain ⟨cb, co, rfl, hcP, hcbl, _, hcc⟩ := sp.at (by omega)
      have q0 := hcc j hjl
      rw [hij] at q0 hS
      rw [pAt_nat hip] at hS
      have hipI : (i : Int) < n.pipes.length := by omega
      have hpp := netB_pipe hb (List.getElem_mem hip)
      obtain ⟨c0, c1⟩ := bx.two
      have hsum := oth_sum hia
      obtain ⟨E, hE⟩ : ∃ E, E = oth n.pipes[i] x := ⟨_, rfl⟩
      rw [← hE] at hS hsum
      have HLO : Hid (∀ W : World, Below w.heap.size w W → Calls Try.prog 98 #[.agg #[.slice a0 n.nodes.length k0, .slice a1 n.pipes.length k1], .int .i64 i, .int .i64 x] W fun e w' => e = .returned (.int .i64 E) ∧ Below W.heap.size W w') := fun W hW => by
        have := l02Other_any _ _ n i x W (HP.out.below hW) hip (by omega) (by omega) (by omega) (by omega) (by omega) (by omega)
        rw [hsum] at this
        exact this
      have HO := hid ho
      have HX := hid bx
      have SP := hid sp
      have HB := hid hbel
      have HOL := hid hol
      clear ho sp hbel hcc hij bx hE hsum hol
      have hD : Below wr.heap.size wr wr.drew := (Below.refl _ _).drew
      have HBD := hid (HB.out.trans (hD.mono HB.out.size))
      have kp3 : Hid (∀ W3, Below wr.heap.size wr W3 → ∀ W, Below W3.heap.size W3 W → W.cell? ⟨w.heap.size, 0, none⟩ = some (.slice a0 n.nodes.length k0) ∧ W.cell? ⟨w.heap.size, 1, none⟩ = some (.slice a1 n.pipes.length k1) ∧ W.cell? ⟨cb, co + j, none⟩ = some (.int .i64 i)) := fun W3 h3 W hW => by
        have hb := h3.trans (hW.mono h3.size)
        exact ⟨(hb.cell (p := ⟨w.heap.size, 0, none⟩) zx).trans c0, (hb.cell (p := ⟨w.heap.size, 1, none⟩) zx).trans c1, (hb.cell (p := ⟨cb, co + j, none⟩) hcbl).trans q0⟩
      have kp5 : Hid (∀ W3, Below wr.heap.size wr W3 → ∀ W5, Kept (fun b => u7.ownBlock = some b) (W3.alloc (.cells #[.int .i64 E] 2)) W5 → W5.cell? ⟨w.heap.size, 0, none⟩ = some (.slice a0 n.nodes.length k0) ∧ W5.cell? ⟨w.heap.size, 1, none⟩ = some (.slice a1 n.pipes.length k1) ∧ W5.cell? ⟨cb, co + j, none⟩ = some (.int .i64 i)) := fun W3 h3 W5 hk => by
        obtain ⟨e0, e1, e2⟩ := kp3.out W3 h3 _ (below_new W3 (.cells #[.int .i64 E] 2))
        exact ⟨hk.cell e0 (fun e => by have := (HO.out.lt _ e).1; simp only at this; omega), hk.cell e1 (fun e => by have := (HO.out.lt _ e).1; simp only at this; omega), hk.cell e2 (fun e => by have := HOL.out _ e; simp only at this; omega)⟩
      go_wp2_with fail
      go_region_held3 (fun W => W.cell? ⟨w.heap.size, 0, none⟩ = some (.slice a0 n.nodes.length k0) ∧ W.cell? ⟨w.heap.size, 1, none⟩ = some (.slice a1 n.pipes.length k1) ∧ W.cell? ⟨cb, co + j, none⟩ = some (.int .i64 i))
        (first | exact ⟨c0, c1, q0⟩ | exact HS3.out _ (Below.refl _ _) | exact HS3.out _ (below_new _ _) | exact HS5.out)
        (first
          | (go_at_call 98; refine (HLO.out _ HBD.out).mono ?_; rintro e w3 ⟨rfl, b3⟩; have b3' := hD.trans (b3.mono (Nat.le_refl _)); have z3 := b3'.size; have HO3 := hid (HO.out.below b3'); have HX3 := hid (HX.out.below b3'); have SP3 := hid (SP.out.below b3'); have HB3 := hid (HB.out.trans (b3'.mono HB.out.size)); have HS3 := hid (kp3.out w3 b3'))
          | (refine step_app1 rfl (.tmp 28) (.tmp 36) rfl (w.heap.size + 1) u7 _ rfl (HO3.out.alloc _) w3.heap.size E rfl ?_ ?_ ?_ ?_; (· simp); (· omega); (· simp; omega); intro v1 w5 hv1 hk1 hb1; have HS5 := hid (kp5.out w3 b3' w5 hk1)))
      have hlo := HO3.out.lt
      have kk : Kept (fun c => u7.ownBlock = some c ∨ w3.heap.size ≤ c) w3 w5 := (Kept.of_below (below_new w3 (.cells #[.int .i64 E] 2))).trans (hk1.mono (fun c _ h => Or.inl h))
      have HX5 := hid (HX3.out.kept kk (fun h => h.elim (fun h => by have := (hlo _ h).1; omega) (fun h => by omega)))
      have SP5 := hid (SP3.out.kept kk (fun c hc h1 h2 => h2.elim (fun h2 => by have := HOL.out c h2; omega) (fun h2 => by omega)))
      have HB5 := hid (HB3.out.trans (kk.below HB3.out.size (fun c h => h.elim (fun h => by have := (hlo _ h).1; omega) (fun h => by omega))))
      have HOL5 : Hid (∀ b, v1.ownBlock = some b → b < LO ∨ w2.heap.size ≤ b) := fun b hb => by
        rcases hb1 with h | h
        · exact HOL.out b (by rw [← h]; exact hb)
        · rw [h] at hb; simp at hb; omega
      have HV := hid hv1
      have z5 := kk.size
      clear hv1 hk1 hb1 kk hlo
      go_wp2_with fail
      go_roundw
      case rel => exact ⟨j + 1, by go_num, by omega, by rw [hS.out]; exact HV.out, HX5.out, SP5.out, HOL5.out, HB5.out, by omega⟩
      case measure => simp [intOf]; omega
    · obtain rfl : j = (pipesOf n x).length := by omega
      have hel : (endsOf n x).length ≤ n.pipes.length := by have := endsTo_len n x (pipesOf n x).length; unfold endsOf; omega
      have HE := hid ((show OwnI _ _ wr u7 (endsOf n x) from ho).slc (by omega))
      have HX := hid bx
      have HB := hid hbel
      obtain ⟨ea, ec, hee, _⟩ := (show OwnI _ _ wr u7 (endsOf n x) from ho).shape
      subst hee
      clear ho bx sp hbel hol
      obtain ⟨BB, hBB⟩ : ∃ BB, BB = wr.heap.size := ⟨_, rfl⟩
      have hBB2 : BB ≤ wr.heap.size := by omega
      rw [← hBB] at HE
      go_wp2_with fail
      go_loopw [11, 10] (fun i s wr2 => NcRel n x w [.slice a0 n.nodes.length k0, .slice a1 n.pipes.length k1] BB (.slice ea (endsOf n x).length ec) i s wr2) (fun i _ _ => n.nodes.length - (intOf i).toNat)
      case atStart => exact ⟨0, rfl, by omega, OwnI.made _ _ _ hBB2, HX.out.below (below_new _ _), HE.out.below (below_new _ _), HB.out.alloc HB.out.size _, by simp; omega⟩
      case round =>
        clear HE HX HB hBB2
        have hB0 : w.heap.size < BB := by omega
        clear hBB
        obtain ⟨j, rfl, hj2, ho, bx, sp, hbel, hB2⟩ := hrel
        have hcl2 := nbTo_len n x j
        have zx := bx.1
        by_cases hjl2 : j < n.nodes.length
        · have hS := hid (nbTo_succ n x j)
          have hfh : (endsOf n x).contains (j : Int) = hasE n x j := rfl
          have hjI : (j : Int) < n.nodes.length := by omega
          obtain ⟨c0, c1⟩ := bx.two
          have HO := hid ho
          have HX := hid bx
          have SP := hid sp
          have HB := hid hbel
          clear ho sp hbel bx
          go_wp2_with fail
          refine (l02Has_any _ _ _ _ _ SP.out).mono ?_
          rintro e w3 ⟨rfl, b3⟩
          rw [hfh]
          have z3 := b3.size
          have HO3 := hid (HO.out.below b3)
          have HX3 := hid (HX.out.below b3)
          have SP3 := hid (SP.out.below b3)
          have HB3 := hid (HB.out.trans (b3.mono HB.out.size))
          clear b3 c0 c1 HO HX SP HB
          clear hfh
          cases hf : hasE n x j
          · have hz : Hid (nbTo n x (j + 1) = nbTo n x j) := by have h2 := hS.out; rw [hf] at h2; exact (by simpa using h2 : nbTo n x (j + 1) = nbTo n x j)
            go_wp2_with fail
            go_roundw
            case rel => exact ⟨j + 1, by go_num, by omega, by rw [hz.out]; exact HO3.out, HX3.out, SP3.out, HB3.out, by omega⟩
            case measure => simp [intOf]; omega
          · have hz : Hid (nbTo n x (j + 1) = nbTo n x j ++ [(j : Int)]) := by have h2 := hS.out; rw [hf] at h2; exact (by simpa using h2 : nbTo n x (j + 1) = nbTo n x j ++ [(j : Int)])
            go_wp2_with (at_builtin; refine wpList_app1 rfl (.tmp 49) (.tmp 51) rfl BB _ _ rfl (HO3.out.alloc _) w3.heap.size (j : Int) rfl ?c1 ?c2 ?c3 ?_)
            case c1 => simp
            case c2 => omega
            case c3 => simp; omega
            intro v1 w5 hv1 hk1 hb1
            have hlo := HO3.out.lt
            have kk : Kept (fun c => BB ≤ c) w3 w5 := ((Kept.refl (fun c => BB ≤ c) w3).alloc (.cells #[.int .i64 j] 2)).trans (hk1.mono (fun c _ h => (hlo c h).1))
            have HX5 := hid (HX3.out.kept kk (by omega))
            have SP5 := hid (SP3.out.kept kk (fun c _ h1 h2 => by omega))
            have HB5 := hid (HB3.out.trans (kk.below HB3.out.size (fun c h => by omega)))
            have HV := hid hv1
            have z5 := kk.size
            clear hv1 hk1 hb1 kk hlo
            go_wp2_with fail
            go_roundw
            case rel => exact ⟨j + 1, by go_num, by omega, by rw [hz.out]; exact HV.out, HX5.out, SP5.out, HB5.out, by omega⟩
            case measure => simp [intOf]; omega
        · obtain rfl : j = n.nodes.length := by omega
          obtain ⟨c0, c1⟩ := bx.two
          have HO := hid ho
          have HB := hid hbel
          obtain ⟨qa, qc, hqe, _⟩ := ho.shape
          subst hqe
          clear ho bx sp hbel
          go_wp2_with fail
          go_ret2
          rw [hr.out]
          exact ⟨_, rfl, (HO.out.slc (by omega)).mono (fun c _ h => ⟨by have := h.1; omega, h.2⟩), HB.out⟩

end Go.Proofs.Ytdapdaadglaoiaa
