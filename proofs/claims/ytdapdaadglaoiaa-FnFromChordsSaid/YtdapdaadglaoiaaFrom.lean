/- What flows out of each node, plain: the walked lists and the sums; the cycle of a chord is a flow list and a circulation. No program. FromChords of both sides. -/
import Derived.Test.YtdapdaadglaoiaaChF
import Derived.Test.YtdapdaadglaoiaaCycOf
import Derived.Test.YtdapdaadglaoiaaBasis
import Derived.Test.YtdapdaadglaoiaaFlowA
import Derived.Test.YtdapdaadglaoiaaCut
import Derived.StillTailTactics
import Derived.Deep.RegionHeld3
namespace Go.Proofs.Ytdapdaadglaoiaa
open Go.RowKit

theorem outs_get {n : Net} (hb : netB n = true) (f : List Int) (k : Nat) (hk : k ≤ n.pipes.length) (x : Nat) (hx : x < n.nodes.length) :
    (outs n f k).getD x 0 = ((List.range k).map (fun i => f.getD i 0 * inc (pAt n i) x)).sum := by
  induction k with
  | zero =>
    simp only [outs, List.getD, List.getElem?_replicate]
    rw [if_pos hx]; rfl
  | succ k ih =>
    have hlt : k < n.pipes.length := by omega
    obtain ⟨f0, f1, t0, t1, hne⟩ := netB_pipe hb (List.getElem_mem hlt)
    obtain ⟨a, ha⟩ : ∃ a : Nat, n.pipes[k].fr = a := ⟨n.pipes[k].fr.toNat, by omega⟩
    obtain ⟨b, hbb⟩ : ∃ b : Nat, n.pipes[k].to = b := ⟨n.pipes[k].to.toNat, by omega⟩
    have hab : a ≠ b := by omega
    have hal : a < (outs n f k).length := by rw [outs_len]; omega
    have hbl : b < (outs n f k).length := by rw [outs_len]; omega
    have ih := ih (by omega)
    rw [outs_step hlt ha hbb hab rfl rfl rfl, List.range_succ, List.map_append, List.sum_append, ← ih]
    simp only [List.map_cons, List.map_nil, List.sum_cons, List.sum_nil, Int.add_zero]
    rw [pAt_nat hlt]
    unfold inc
    rw [ha, hbb]
    by_cases e1 : b = x
    · subst e1
      rw [gset_same (by simpa using hbl), if_neg (by omega), if_pos rfl]
      omega
    · rw [gset_ne e1]
      by_cases e2 : a = x
      · subst e2
        rw [gset_same hal, if_pos rfl, if_neg (by omega)]
        omega
      · rw [gset_ne e2, if_neg (by omega), if_neg (by omega)]
        omega
theorem cirB_mk {n : Net} {f : List Int} (hb : netB n = true) (hf : flowB n f = true) (h0 : ∀ x : Nat, x < n.nodes.length → outAt n f x = 0) : cirB n f = true := by
  unfold cirB
  rw [hb, hf, Bool.true_and, Bool.true_and]
  apply allB_mk
  intro i hi
  have hi' : i < n.nodes.length := by rw [outs_len] at hi; exact hi
  have h1 := outs_get hb f n.pipes.length (Nat.le_refl _) i hi'
  have h2 := h0 i hi'
  unfold outAt at h2
  rw [h2] at h1
  have h3 : (outs n f n.pipes.length)[i] = 0 := by rw [← h1]; simp [List.getD, hi]
  rw [h3]
  rfl
theorem flowB_cyI {n : Net} (hb : netB n = true) {c : Nat} (hc : c < n.pipes.length) (hf : (c : Int) ∉ forest n) : flowB n (cyI n c) = true := by
  have h1 := cyI_len hb hc hf
  have h4 := (cyS_spec hb hc hf).2.2.2
  rw [← cyc_eq hb hc hf] at h4
  unfold flowB
  rw [Bool.and_eq_true, decide_eq_true_eq]
  refine ⟨h1, allB_mk fun i hi => ?_⟩
  have h5 := h4 i
  have e : (cyI n c).getD i 0 = (cyI n c)[i] := by simp [List.getD, hi]
  rw [e] at h5
  exact inB_mk (by omega) (by omega)
theorem cfTo_all_len (n : Net) (f : List Int) : (cfTo n f (chords n).length).length = (chords n).length := by unfold cfTo; simp
theorem cfTo_get (n : Net) (f : List Int) {i : Nat} (h : i < (cfTo n f (chords n).length).length) (h' : i < (chords n).length) : (cfTo n f (chords n).length)[i] = f.getD ((chords n)[i]).toNat 0 := by
  simp [cfTo]
/-- What the law wants to know of a chord's cycle. -/
theorem cyc_law {n : Net} (hb : netB n = true) {c : Nat} (hc : c < n.pipes.length) (hf : (c : Int) ∉ forest n) :
    cfR n (cyI n c) = (cfTo n (cyI n c) (chords n).length, 0) ∧ cirB n (cyI n c) = true ∧ ∀ i (h : i < (cfTo n (cyI n c) (chords n).length).length) (h' : i < (chords n).length), (cfTo n (cyI n c) (chords n).length)[i] = if (chords n)[i] = (c : Int) then 1 else 0 := by
  have hF := flowB_cyI hb hc hf
  obtain ⟨h1, h2, h3⟩ := cyI_spec hb hc hf
  refine ⟨?_, cirB_mk hb hF h2, fun i h h' => ?_⟩
  · unfold cfR flCode
    rw [if_pos hb, if_pos hF, if_pos rfl]
  · rw [cfTo_get n _ h h']
    obtain ⟨d, e, h4, h5⟩ := chords_mem.1 (List.getElem_mem h')
    rw [e, Int.toNat_natCast, h3 d h4 h5]
    by_cases hd : d = c
    · subst hd; rw [if_pos rfl, if_pos rfl]
    · rw [if_neg hd, if_neg (by omega)]

end Go.Proofs.Ytdapdaadglaoiaa

namespace Go.Proofs.Ytdapdaadglaoiaa
open Go.RowKit

/-- The append of one number, at a step of a region that draws its order. -/
theorem step_app1' {ops : Array Oper} {o : Oper} {a : Act} {Q : Exit → Act → World → Prop} {w : World} {K : Act → World → Prop} {E : Prop} (hgd : o.guard = none) (s x : Operand)
    (ho : o.op = .call { callee := .builtin .append, args := #[s, x], argTypes := #[33, 33] })
    (B : Nat) (v : Value) (zs : List Int) (hs : a.eval s = v) (hown : OwnI 2 B w v zs) (blk : Nat) (n : Int) (hx : a.eval x = .slice (some ⟨blk, 0, none⟩) 1 1)
    (hc : w.cell? ⟨blk, 0, none⟩ = some (.int .i64 n)) (hlen : zs.length ≤ 1000000000000) (hB : B ≤ w.heap.size)
    (h : ∀ v' w', OwnI 2 B w' v' (zs ++ [n]) → Kept (fun b => v.ownBlock = some b) w w' → (v'.ownBlock = v.ownBlock ∨ v'.ownBlock = some w.heap.size) → K (a.put o.dst v') w') :
    if Region.wanted o (yielded ops a.tmps) = true then Oper.wp Try.prog o a w K Q else E := by
  have hw : Region.wanted o (yielded ops a.tmps) = true := by simp [Region.wanted, hgd]
  rw [if_pos hw]
  obtain ⟨i0, hi, hz0, hz1, hz2⟩ := info_parts info64
  obtain ⟨v', w', hr, h2, h3, h4⟩ := run_append_own2 (P := Try.prog) w B 33 o.type 2 i0 (.int .i64 0) 1 8 Try.underlying33 hi hz0 hz1 hz2 rfl (by decide) v zs.length (zs.map (Value.int .i64)) hown ⟨blk, 0, none⟩ 1 1 [.int .i64 n] rfl
    (fun j u hj => by
      cases j with
      | zero => simp at hj; subst hj; exact hc
      | succ j => simp at hj) (fun u hu => by simp at hu; subst hu; rfl) (by omega) (by omega) (by omega) hB
  unfold Oper.wp execOp
  simp only [ho, resolve, invoke, builtin, Sem.run_bind, Sem.run_pure, Result.andThen_ok, List.map_toArray, List.map_cons, List.map_nil, hs, hx, hr]
  refine h v' w' ?_ (grown_kept h3) h4
  unfold OwnI
  rw [List.length_append, List.map_append]; exact h2


def addTo (o c : List Int) (a : Int) (k : Nat) : List Int := (List.range k).map (fun i : Nat => o.getD i 0 + a * c.getD i 0)
theorem addTo_succ (o c : List Int) (a : Int) (k : Nat) : addTo o c a (k + 1) = addTo o c a k ++ [o.getD k 0 + a * c.getD k 0] := by simp [addTo, List.range_succ]
theorem addTo_len (o c : List Int) (a : Int) (k : Nat) : (addTo o c a k).length = k := by simp [addTo]
def AddRel (o c : List Int) (a : Int) (w : World) (B : Nat) (i s : Value) (wr : World) : Prop :=
  ∃ k : Nat, i = .int .i64 k ∧ k ≤ o.length ∧ OwnI 2 B wr s (addTo o c a k) ∧ Below w.heap.size w wr

set_option maxHeartbeats 1000000 in
set_option maxRecDepth 100000 in
theorem l05Add_any (v u : Value) (zs cs : List Int) (a : Int) (w : World) (h : Ints .i64 w v zs) (h' : Ints .i64 w u cs) (hl : zs.length = cs.length) (hm : zs.length ≤ 1000000)
    (hz : ∀ i, -10000000 ≤ zs.getD i 0 ∧ zs.getD i 0 ≤ 10000000) (hc : ∀ i, -1 ≤ cs.getD i 0 ∧ cs.getD i 0 ≤ 1) (ha0 : -30000 ≤ a) (ha1 : a ≤ 30000) :
    Calls Try.prog 139 #[v, u, .int .i64 a] w fun e w' => ∃ r, e = .returned r ∧ OwnI 2 w.heap.size w' r (addM zs cs a) ∧ Below w.heap.size w w' := by
  obtain ⟨_, a0, c0, rfl, _⟩ := id h
  obtain ⟨_, a1, c1, rfl, _⟩ := id h'
  have HZ := hid h
  have HC := hid h'
  have HL := hid hl
  clear h h' hl
  go_enter Try.func139, Try.ntmps139
  go_wp2_with fail
  go_loopw [8, 7] (fun i s wr => AddRel zs cs a w w.heap.size i s wr) (fun i _ _ => zs.length - (intOf i).toNat)
  case atStart => exact ⟨0, rfl, by omega, OwnI.made _ _ _ (Nat.le_refl _), below_new _ _⟩
  case round =>
    obtain ⟨k, rfl, hk, ho, hbel⟩ := hrel
    have hol := addTo_len zs cs a k
    by_cases hlt : k < zs.length
    · have hkc : k < cs.length := by rw [← HL.out]; exact hlt
      have hkI : (k : Int) < zs.length := by omega
      have hkcI : (k : Int) < cs.length := by omega
      obtain ⟨zb, zo, rfl, hzl, hzc⟩ := HZ.out.at (by omega)
      obtain ⟨cb, co, rfl, hcl, hcc⟩ := HC.out.at (by omega)
      have q0 := (hbel.cell (p := ⟨zb, zo + k, none⟩) hzl).trans (hzc k hlt)
      have q1 := (hbel.cell (p := ⟨cb, co + k, none⟩) hcl).trans (hcc k hkc)
      have hS := hid (addTo_succ zs cs a k)
      have e0 : zs.getD k 0 = zs[k] := by simp [List.getD, hlt]
      have e1 : cs.getD k 0 = cs[k] := by simp [List.getD, hkc]
      have b0 := hz k
      have b1 := hc k
      rw [e0] at b0 hS
      rw [e1] at b1 hS
      obtain ⟨Z, hZ⟩ : ∃ Z, zs[k] = Z := ⟨_, rfl⟩
      obtain ⟨C, hC⟩ : ∃ C, cs[k] = C := ⟨_, rfl⟩
      rw [hZ] at b0 hS q0
      rw [hC] at b1 hS q1
      have hprod : -30000 ≤ a * C ∧ a * C ≤ 30000 := by
        have : C = -1 ∨ C = 0 ∨ C = 1 := by omega
        rcases this with rfl | rfl | rfl <;> omega
      obtain ⟨M, hM⟩ : ∃ M, a * C = M := ⟨_, rfl⟩
      have s1 : IntKind.i64.wrap (a * C) = a * C := IntWalk.i64_in _ (by omega)
      have s2 : IntKind.i64.wrap (Z + a * C) = Z + a * C := IntWalk.i64_in _ (by omega)
      have hz2 : zb < wr.heap.size := Nat.lt_of_lt_of_le hzl hbel.size
      have hc2 : cb < wr.heap.size := Nat.lt_of_lt_of_le hcl hbel.size
      have hlo := ho.lt
      have HO := hid ho
      have HB := hid hbel
      have KP : Hid (∀ W, Below wr.heap.size wr W → W.cell? ⟨zb, zo + k, none⟩ = some (.int .i64 Z) ∧ W.cell? ⟨cb, co + k, none⟩ = some (.int .i64 C)) := fun W hW =>
        ⟨(hW.cell (p := ⟨zb, zo + k, none⟩) hz2).trans q0, (hW.cell (p := ⟨cb, co + k, none⟩) hc2).trans q1⟩
      have kq : ∀ (W W' : World), Kept (fun b => u7.ownBlock = some b) W W' → Below wr.heap.size wr W → (fun W => W.cell? ⟨zb, zo + k, none⟩ = some (.int .i64 Z) ∧ W.cell? ⟨cb, co + k, none⟩ = some (.int .i64 C)) W' := fun W W' hk hW => by
        obtain ⟨e0, e1⟩ := KP.out W hW
        exact ⟨hk.cell e0 (fun e => by have := (hlo _ e).1; simp only at this; omega), hk.cell e1 (fun e => by have := (hlo _ e).1; simp only at this; omega)⟩
      clear ho hbel hzc hcc hZ hC e0 e1 hM hprod
      go_wp2_with fail
      go_region_held3 (fun W => W.cell? ⟨zb, zo + k, none⟩ = some (.int .i64 Z) ∧ W.cell? ⟨cb, co + k, none⟩ = some (.int .i64 C))
        (first | exact KP.out _ (Below.refl _ _).drew | exact KP.out _ ((Below.refl _ _).drew.alloc (Nat.le_refl _) _) | exact KP.out _ (below_new _ _).drew | exact KQ.out)
        (first
          | (refine step_app1' rfl (.tmp 16) (.tmp 28) rfl w.heap.size u7 (addTo zs cs a k) rfl ?_ wr.heap.size (Z + a * C) rfl ?_ ?_ ?_ ?_; (· first | exact HO.out.below (below_new _ _).drew | exact HO.out.below ((Below.refl _ _).drew.alloc (Nat.le_refl _) _)); (· simp); (· omega); (· have := HB.out.size; simp; omega); intro v7 w7 h7 k7 b7; have KQ := hid (kq _ _ k7 (by first | exact (below_new _ _).drew | exact (Below.refl _ _).drew.alloc (Nat.le_refl _) _))))
      all_goals
        have bW := (show Below wr.heap.size wr _ from by first | exact (below_new wr (.cells #[.int .i64 (Z + a * C)] 2)).drew | exact (Below.refl wr.heap.size wr).drew.alloc (Nat.le_refl _) (.cells #[.int .i64 (Z + a * C)] 2))
        have HB7 := hid ((HB.out.trans (bW.mono HB.out.size)).trans (k7.below (B := w.heap.size) (Nat.le_trans HB.out.size bW.size) (fun b hb => (HO.out.lt b hb).1)))
        have HV := hid h7
        clear k7 b7 h7 KP KQ q0 q1 bW kq hlo
        go_wp2_with fail
        go_roundw
        case rel => exact ⟨k + 1, by go_num, by omega, by rw [hS.out]; exact HV.out, HB7.out⟩
        case measure => simp [intOf]; omega
    · obtain rfl : k = zs.length := by omega
      have HO := hid (show OwnI 2 w.heap.size wr u7 (addM zs cs a) from ho)
      have HB := hid hbel
      obtain ⟨pa, pc, hpe, _⟩ := HO.out.shape
      subst hpe
      clear ho hbel
      go_wp2_with fail
      go_ret
      exact ⟨_, rfl, HO.out, HB.out⟩

theorem fcIter_congr {n : Net} {am am' : List Int} (k : Nat) (h : ∀ j, j < k → am.getD j 0 = am'.getD j 0) : fcIter n am k = fcIter n am' k := by
  induction k with
  | zero => rfl
  | succ k ih => rw [fcIter, fcIter, ih (fun j hj => h j (by omega)), h k (by omega)]
theorem fc_bnd' {n : Net} (hb : netB n = true) {am : List Int} {k : Nat} (ha : ∀ j, j < k → -30000 ≤ am.getD j 0 ∧ am.getD j 0 ≤ 30000) (hk : k ≤ (chords n).length) (i : Nat) : -(30000 * (k : Int)) ≤ (fcIter n am k).getD i 0 ∧ (fcIter n am k).getD i 0 ≤ 30000 * k := by
  have e : ∀ j, ((List.range k).map (fun i => am.getD i 0)).getD j 0 = if j < k then am.getD j 0 else 0 := fun j => by
    by_cases hj : j < k
    · simp [List.getD, hj]
    · simp only [List.getD, if_neg hj]
      rw [List.getElem?_eq_none (by simp; omega)]; rfl
  rw [fcIter_congr (am' := (List.range k).map (fun i => am.getD i 0)) k (fun j hj => by rw [e, if_pos hj])]
  refine fc_bnd hb (fun j => ?_) k hk i
  rw [e]
  split
  · next h => exact ha j h
  · omega
def fcR (n : Net) (am : List Int) : List Int × Int :=
  if netB n = true then (if am.length = (chords n).length then (if allB (-30000) 30000 am = true then (if flowB n (fromCh n am) = true then (fromCh n am, 0) else ([], 2)) else ([], 2)) else ([], 5)) else ([], 1)
theorem fcR_len (n : Net) (am : List Int) : (fcR n am).1.length ≤ 2000000 := by
  unfold fcR
  split
  · next h =>
    split
    · split
      · split
        · have := netB_t h
          have := fcIter_len n am (chords n).length
          simp only [fromCh]; omega
        · simp
      · simp
    · simp
  · simp

theorem checkedFlows_any (v : Value) (f : List Int) (w : World) (h : Ints .i64 w v f) :
    Calls Try.prog 137 #[v] w fun e w' => e = .returned (.tuple (if allB (-30000) 30000 f = true then #[v, .int .i64 0] else #[.slice none 0 0, .int .i64 2])) ∧ w = w' := by
  obtain ⟨_, a0, c0, rfl, _⟩ := id h
  have H := hid h
  clear h
  cases hB : allB (-30000) 30000 f
  all_goals
    go_enter Try.func137, Try.ntmps137
    go_wp2_with (go_at_call 135; refine (allWithin_any _ f _ _ _ H.out).mono ?_; rintro e w' ⟨rfl, rfl⟩)
    go_ret2
    exact ⟨rfl, rfl⟩

def FsRel (n : Net) (am : List Int) (l : List Value) (w : World) (bv : Value) (B : Nat) (i s : Value) (wr : World) : Prop :=
  ∃ k : Nat, i = .int .i64 k ∧ k ≤ (chords n).length ∧ Slc (fun b => w.heap.size ≤ b ∧ b < wr.heap.size) wr s (fcIter n am k) ∧ MatR wr bv (csM n) ∧ Box wr w.heap.size l ∧ Below w.heap.size w wr ∧ B ≤ wr.heap.size ∧ ∀ j (hj : j < am.length), j < k → inB am[j] (-30000) 30000 = true

set_option maxHeartbeats 1000000 in
set_option maxRecDepth 100000 in
theorem spec_FromChords_any (nv pv v : Value) (n : Net) (am : List Int) (w : World) (h : NetAt w nv pv n) (hf : Ints .i64 w v am) :
    Calls Try.prog 58 #[.agg #[nv, pv], v] w (OutI w (fcR n am)) := by
  obtain ⟨a0, k0, rfl⟩ := h.1.shape
  obtain ⟨a1, k1, rfl⟩ := h.2.2.shape
  obtain ⟨_, af, cf, rfl, _⟩ := id hf
  have HP := hid h
  have HF := hid hf
  have hWb := below_new w (.cells #[.slice a0 n.nodes.length k0, .slice a1 n.pipes.length k1] 27)
  have hbx := Box.new w #[.slice a0 n.nodes.length k0, .slice a1 n.pipes.length k1] 27
  have h := h.below hWb
  clear hf
  obtain ⟨c0, c1⟩ := hbx.two
  go_enter Try.func58, Try.ntmps58
  go_wp2_with fail
  refine (spec_IsNetwork_any _ _ n _ h).mono ?_
  cases hb : netB n
  · have hr : Hid (fcR n am = ([], 1)) := by simp [Hid, fcR, hb]
    rintro e w1 ⟨rfl, b1⟩
    have HB := hid (hWb.trans (b1.mono hWb.size))
    clear b1 hWb hbx
    go_wp2_with fail
    go_ret2
    rw [hr.out]
    exact ⟨_, rfl, Slc.nil _ _, HB.out⟩
  have hnl := netB_t hb
  have hfl := chords_le n
  rintro e w1 ⟨rfl, b1⟩
  have HB := hid (hWb.trans (b1.mono hWb.size))
  have HX := hid (hbx.below b1)
  obtain ⟨d0, d1⟩ := HX.out.two
  have h := h.below b1
  clear b1 hWb hbx c0 c1
  go_wp2_with fail
  refine (l05Basis_any _ _ n _ h hb).mono ?_
  rintro e w2 ⟨r, rfl, ⟨vs, bs, hm⟩, b2⟩
  have zb := HB.out.size
  have z2 := b2.size
  have HB2 := hid (HB.out.trans (b2.mono HB.out.size))
  have HX2 := hid (HX.out.below b2)
  have HM := hid hm.reads
  obtain ⟨ra, rc, hre, _⟩ := id HM.out
  have hcl := csM_len n
  rw [hcl] at hre
  subst hre
  have HCL := hid hcl
  obtain ⟨x0, x1⟩ := HX2.out.two
  clear b2 hm d0 d1 HB HX h hcl
  by_cases hl : am.length = (chords n).length
  case neg =>
    have hr : Hid (fcR n am = ([], 5)) := by simp [Hid, fcR, hb, hl]
    have hbt : ((am.length : Int) != ((chords n).length : Int)) = true := by rw [bne_iff_ne]; omega
    clear hl
    go_wp2_with fail
    go_ret2
    rw [hr.out]
    exact ⟨_, rfl, Slc.nil _ _, HB2.out⟩
  have hbt : ((am.length : Int) != ((chords n).length : Int)) = false := by simp [hl]
  have HL := hid hl
  have hmk := run_make_row' (P := Try.prog) 33 2 (.int .i64 0) 8 Try.underlying33 info64 rfl .i64 .i64 n.pipes.length (by omega) (by omega)
  clear hl
  go_wp2_with fail
  clear hmk hbt x0 x1
  go_loopw [8, 7] (fun i s wr => FsRel n am [.slice a0 n.nodes.length k0, .slice a1 n.pipes.length k1] w (.slice ra (chords n).length rc) w2.heap.size i s wr) (fun i _ _ => am.length - (intOf i).toNat)
  case atStart =>
    refine ⟨0, rfl, by omega, ?_, HM.out.below (below_new _ _), HX2.out.below (below_new _ _), HB2.out.alloc HB2.out.size _, by simp, fun j _ h => by omega⟩
    have h5 := (IntBlk.made 2 w2 n.pipes.length).slc (P := fun b => w.heap.size ≤ b ∧ b < w2.heap.size + 1) (cap := n.pipes.length) ⟨HB2.out.size, by omega⟩ (by rw [List.length_replicate]; omega)
    rw [List.length_replicate] at h5
    simpa [fcIter] using h5
  case round =>
    clear HB2 HX2 HM
    obtain ⟨k, rfl, hk, hs, hm, bx, hbel, hB1, hin⟩ := hrel
    obtain ⟨_, sa, sc, hse, _⟩ := id hs
    have hsl := fcIter_len n am k
    rw [hsl] at hse
    subst hse
    obtain ⟨d0, d1⟩ := bx.two
    have hz := hbel.size
    have HS := hid hs
    have HSL := hid hsl
    have HX := hid bx
    have HB := hid hbel
    have HI := hid hin
    clear hs hsl bx hbel hin
    by_cases hlt : k < (chords n).length
    · have hka : k < am.length := by have := HL.out; omega
      have hkI : (k : Int) < am.length := by omega
      obtain ⟨ab, ao, rfl, hal, hac⟩ := HF.out.at (by omega)
      have q0 := (HB.out.cell (p := ⟨ab, ao + k, none⟩) hal).trans (hac k hka)
      clear hac
      obtain ⟨A, hA⟩ : ∃ A, am[k] = A := ⟨_, rfl⟩
      rw [hA] at q0
      cases hbd : inB A (-30000) 30000
      · have hr : Hid (fcR n am = ([], 2)) := by
          have h9 : allB (-30000) 30000 am = false := allB_no k hka (by rw [hA]; exact hbd)
          simp [Hid, fcR, hb, HL.out, h9]
        clear hA
        go_wp2_with (go_at_call 138; refine (l05Flow_any _ _).mono ?_; rintro e w' ⟨rfl, rfl⟩)
        go_ret2
        rw [hr.out]
        exact ⟨_, rfl, Slc.nil _ _, HB.out⟩
      · obtain ⟨rb, ro, rfl, hrl, hrc⟩ := (HCL.out ▸ hm : MatR wr (.slice ra (csM n).length rc) (csM n)).at (by have := HCL.out; omega)
        have hkc : k < (csM n).length := by have := HCL.out; omega
        obtain ⟨x, qx, ix⟩ := hrc k hkc
        obtain ⟨c, hcj, hcp, hcf⟩ := chord_at' hlt
        have hgd : (chords n).getD k 0 = c := by rw [← hcj]; simp [List.getD, hlt]
        have hrow : (csM n)[k] = cyS n c := by simp only [csM, List.getElem_map]; rw [hcj, cyc_eq hb hcp hcf]
        obtain ⟨hs1, _, _, hs4⟩ := cyS_spec hb hcp hcf
        rw [hrow] at ix
        obtain ⟨_, xa, xc, hx, _⟩ := id ix
        rw [hs1] at hx
        rw [hx] at qx ix
        have hstep : Hid (fcIter n am (k + 1) = addM (fcIter n am k) (cyS n c) A) := by
          rw [Hid, fcIter, hgd, ← hA]; simp [List.getD, hka]
        have hbnd := inB_t hbd
        have hin2 : Hid (∀ j (hj : j < am.length), j < k + 1 → inB am[j] (-30000) 30000 = true) := fun j hj h => by
          rcases (by omega : j < k ∨ j = k) with h1 | rfl
          · exact HI.out j hj h1
          · rw [hA]; exact hbd
        have hzb : Hid (∀ i, -10000000 ≤ (fcIter n am k).getD i 0 ∧ (fcIter n am k).getD i 0 ≤ 10000000) := fun i => by
          have h9 := fc_bnd' (am := am) hb (k := k) (fun j hj => by
            have h8 := inB_t (HI.out j (by omega) hj)
            have e8 : am.getD j 0 = am[j] := by simp [List.getD, (by omega : j < am.length)]
            rw [e8]; exact h8) hk i
          omega
        have HIX := hid ix
        have HMM := hid hm
        have HS1 := hid hs1
        have HS4 := hid hs4
        clear hrc hm ix hx hs1 hs4 hgd hcj hrow hA
        go_wp2_with (go_at_call 138; refine (l05Flow_any _ _).mono ?_; rintro e w' ⟨rfl, rfl⟩)
        go_still_tail 9, (by kernel_rfl)
        change wpList _ _ _ _ _ (World.drew _)
        go_wp2_with fail
        refine (l05Add_any _ _ (fcIter n am k) (cyS n c) A _ (HS.out.ints.below (Below.refl _ _).drew) (HIX.out.below (Below.refl _ _).drew) (HSL.out.trans HS1.out.symm) (by have := HSL.out; omega) hzb.out HS4.out hbnd.1 hbnd.2).mono ?_
        rintro e w3 ⟨r, rfl, o3, b3⟩
        have b3 := below_undrew b3
        rw [← hstep.out] at o3
        have z3 := b3.size
        have S3 := hid ((o3.slc (by rw [fcIter_len]; omega)).mono (Q := fun b => w.heap.size ≤ b ∧ b < w3.heap.size) (fun b _ h => ⟨by have h1 := h.1; simp only [World.size_drew] at h1; omega, h.2⟩))
        have HM3 := hid (HMM.out.below b3)
        have HX3 := hid (HX.out.below b3)
        have HB3 := hid (HB.out.trans (b3.mono HB.out.size))
        clear b3 o3 qx q0 d0 d1
        go_wp2_with fail
        go_roundw
        case rel => exact ⟨k + 1, by go_num, by omega, S3.out, HM3.out, HX3.out, HB3.out, by omega, hin2.out⟩
        case measure => simp [intOf]; omega
    · obtain rfl : k = (chords n).length := by omega
      have hal : allB (-30000) 30000 am = true := allB_mk fun i hi => HI.out i hi (by have := HL.out; omega)
      have hnlt : ¬ (((chords n).length : Int) < am.length) := by have := HL.out; omega
      have HAL := hid hal
      have HLL := HL
      clear hal
      go_wp2_with fail
      refine (l05List_any _ _ _ n (fromCh n am) _ (HP.out.below HB.out) HS.out.ints).mono ?_
      cases hfb : flowB n (fromCh n am)
      · have hr : Hid (fcR n am = ([], 2)) := by simp [Hid, fcR, hb, HLL.out, HAL.out, hfb]
        rintro e w4 ⟨rfl, b4⟩
        have HB4 := hid (HB.out.trans (b4.mono HB.out.size))
        clear b4 d0 d1
        go_wp2_with fail
        go_ret2
        rw [hr.out]
        exact ⟨_, rfl, Slc.nil _ _, HB4.out⟩
      · have hr : Hid (fcR n am = (fromCh n am, 0)) := by simp [Hid, fcR, hb, HLL.out, HAL.out, hfb]
        rintro e w4 ⟨rfl, b4⟩
        have z4 := b4.size
        have S4 := hid ((HS.out.below b4).mono (Q := fun b => w.heap.size ≤ b ∧ b < w4.heap.size) (fun b _ h => ⟨h.1, by have := h.2; omega⟩))
        have HB4 := hid (HB.out.trans (b4.mono HB.out.size))
        clear b4 d0 d1
        go_wp2_with fail
        go_ret2
        rw [hr.out]
        exact ⟨_, rfl, S4.out, HB4.out⟩

/-- Part way: the first j places have got their share. -/
def addP (o c : List Int) (a : Int) (j : Nat) : List Int := (List.range o.length).map (fun i : Nat => if i < j then o.getD i 0 + a * c.getD i 0 else o.getD i 0)
theorem addP_len (o c : List Int) (a : Int) (j : Nat) : (addP o c a j).length = o.length := by simp [addP]
theorem addP_zero (o c : List Int) (a : Int) : addP o c a 0 = o := by
  apply List.ext_getElem
  · simp [addP]
  · intro i h1 h2
    simp [addP, List.getD, h2]
theorem addP_all (o c : List Int) (a : Int) : addP o c a o.length = addM o c a := by
  unfold addP addM
  apply List.map_congr_left
  intro i hi
  rw [if_pos (List.mem_range.1 hi)]
theorem addP_succ (o c : List Int) (a : Int) {j : Nat} (_ : j < o.length) : (addP o c a j).set j (o.getD j 0 + a * c.getD j 0) = addP o c a (j + 1) := by
  apply List.ext_getElem
  · simp [addP]
  · intro i h1 h2
    simp only [addP, List.length_set, List.length_map, List.length_range] at h1
    rw [List.getElem_set]
    by_cases e : j = i
    · subst e
      simp [addP]
    · rw [if_neg e]
      simp only [addP, List.getElem_map, List.getElem_range]
      by_cases hl : i < j
      · rw [if_pos hl, if_pos (by omega)]
      · rw [if_neg hl, if_neg (by omega)]
theorem addP_at (o c : List Int) (a : Int) {j : Nat} (_ : j < (addP o c a j).length) : (addP o c a j)[j] = o.getD j 0 := by simp [addP]

def FiRel (n : Net) (am : List Int) (l : List Value) (w : World) (cv : Value) (B : Nat) (i : Value) (wr : World) : Prop :=
  ∃ k : Nat, i = .int .i64 k ∧ k ≤ (chords n).length ∧ IntBlk 2 wr B (fcIter n am k) ∧ Box wr w.heap.size l ∧ Slc (fun b => w.heap.size + 1 ≤ b ∧ b < B) wr cv (chords n) ∧ Below w.heap.size w wr
def FjRel (o c : List Int) (a : Int) (chs : List Int) (l : List Value) (w : World) (cv yv : Value) (B C : Nat) (i : Value) (wr : World) : Prop :=
  ∃ j : Nat, i = .int .i64 j ∧ j ≤ o.length ∧ IntBlk 2 wr B (addP o c a j) ∧ Box wr w.heap.size l ∧ Slc (fun b => w.heap.size + 1 ≤ b ∧ b < B) wr cv chs ∧ Below w.heap.size w wr ∧ Slc (fun b => C ≤ b) wr yv c

set_option maxHeartbeats 1000000 in
set_option maxRecDepth 100000 in
theorem impl_FromChords_any (nv pv v : Value) (n : Net) (am : List Int) (w : World) (h : NetAt w nv pv n) (hcap : CapOk nv) (hf : Ints .i64 w v am) :
    Calls Try.prog 57 #[.agg #[nv, pv], v] w (OutI w (fcR n am)) := by
  obtain ⟨a0, k0, rfl⟩ := h.1.shape
  obtain ⟨a1, k1, rfl⟩ := h.2.2.shape
  obtain ⟨_, af, cf, rfl, _⟩ := id hf
  have HP := hid h
  have HF := hid hf
  have hWb := below_new w (.cells #[.slice a0 n.nodes.length k0, .slice a1 n.pipes.length k1] 27)
  have hbx := Box.new w #[.slice a0 n.nodes.length k0, .slice a1 n.pipes.length k1] 27
  have h := h.below hWb
  clear hf
  obtain ⟨c0, c1⟩ := hbx.two
  go_enter Try.func57, Try.ntmps57
  go_wp2_with fail
  refine (impl_IsNetwork_any _ _ n _ h hcap).mono ?_
  cases hb : netB n
  · have hr : Hid (fcR n am = ([], 1)) := by simp [Hid, fcR, hb]
    rintro e w1 ⟨rfl, b1⟩
    have HB := hid (hWb.trans (b1.mono hWb.size))
    clear b1 hWb hbx
    go_wp2_with fail
    go_ret2
    rw [hr.out]
    exact ⟨_, rfl, Slc.nil _ _, HB.out⟩
  have hnl := netB_t hb
  have hfl := chords_le n
  rintro e w1 ⟨rfl, b1⟩
  have HB := hid (hWb.trans (b1.mono hWb.size))
  have HX := hid (hbx.below b1)
  obtain ⟨d0, d1⟩ := HX.out.two
  have h := h.below b1
  clear b1 hWb hbx c0 c1
  go_wp2_with fail
  refine (chordsOf_any _ _ n _ h hb).mono ?_
  rintro e w2 ⟨r, rfl, o2, b2⟩
  have zb := HB.out.size
  have z2 := b2.size
  have HBz := hid HX.out.1
  have HB2 := hid (HB.out.trans (b2.mono HB.out.size))
  have HX2 := hid (HX.out.below b2)
  have SF := hid ((o2.slc (by omega)).mono (Q := fun c => w.heap.size + 1 ≤ c ∧ c < w2.heap.size) (fun c _ h => ⟨by have := h.1; omega, h.2⟩))
  obtain ⟨ra, rc, rfl, _⟩ := o2.shape
  obtain ⟨x0, x1⟩ := HX2.out.two
  clear b2 o2 d0 d1 HB HX h
  by_cases hl : am.length = (chords n).length
  case neg =>
    have hr : Hid (fcR n am = ([], 5)) := by simp [Hid, fcR, hb, hl]
    have hbt : ((am.length : Int) != ((chords n).length : Int)) = true := by rw [bne_iff_ne]; omega
    clear hl
    go_wp2_with fail
    go_ret2
    rw [hr.out]
    exact ⟨_, rfl, Slc.nil _ _, HB2.out⟩
  have hbt : ((am.length : Int) != ((chords n).length : Int)) = false := by simp [hl]
  have HL := hid hl
  have FW := hid (HF.out.below HB2.out)
  have hmk := run_make_row' (P := Try.prog) 33 2 (.int .i64 0) 8 Try.underlying33 info64 rfl .i64 .i64 n.pipes.length (by omega) (by omega)
  clear hl
  cases hal : allB (-30000) 30000 am
  · have hr : Hid (fcR n am = ([], 2)) := by simp [Hid, fcR, hb, HL.out, hal]
    go_wp2_with (go_at_call 135; refine (allWithin_any _ am _ _ _ FW.out).mono ?_; rintro e w' ⟨rfl, rfl⟩)
    go_ret2
    rw [hr.out]
    exact ⟨_, rfl, Slc.nil _ _, HB2.out⟩
  have hab := hid (allB_t hal)
  have HAL := hid hal
  go_wp2_with (go_at_call 135; refine (allWithin_any _ am _ _ _ FW.out).mono ?_; rintro e w' ⟨rfl, rfl⟩)
  clear hmk hbt x0 x1 hal FW
  have HB2z := hid HB2.out.size
  have HB3z : Hid (w.heap.size + 1 ≤ w2.heap.size) := Nat.le_trans (HBz.out) z2
  go_loopw [31] (fun i wr => FiRel n am [.slice a0 n.nodes.length k0, .slice a1 n.pipes.length k1] w (.slice ra (chords n).length rc) w2.heap.size i wr) (fun i _ => (chords n).length - (intOf i).toNat)
  case atStart =>
    exact ⟨0, rfl, by omega, IntBlk.made 2 w2 n.pipes.length, HX2.out.below (below_new _ _), SF.out.below (below_new _ _), HB2.out.alloc HB2.out.size _⟩
  case round =>
    clear HB2 HX2 SF
    obtain ⟨k, rfl, hk, he, bx, sc, hbel⟩ := hrel
    have hol := fcIter_len n am k
    by_cases hlt : k < (chords n).length
    · obtain ⟨c, hcj, hcp, hcf⟩ := chord_at' hlt
      have hka : k < am.length := by have := HL.out; omega
      have hkI : (k : Int) < (chords n).length := by omega
      have hkaI : (k : Int) < am.length := by omega
      obtain ⟨ab, ao, rfl, hal, hac⟩ := HF.out.at (by omega)
      have q0 := (hbel.cell (p := ⟨ab, ao + k, none⟩) hal).trans (hac k hka)
      obtain ⟨cb, co, rfl, hcX, hcbl, _, hcc⟩ := sc.at (by omega)
      have q1 := hcc k hlt
      rw [hcj] at q1
      have hA := hab.out am[k] (List.getElem_mem hka)
      have hAe : am.getD k 0 = am[k] := by simp [List.getD, hka]
      obtain ⟨A, hAA⟩ : ∃ A, am[k] = A := ⟨_, rfl⟩
      rw [hAA] at q0 hA hAe
      have QA : Hid (w.cell? ⟨ab, ao + k, none⟩ = some (.int .i64 A)) := by rw [Hid, ← hAA]; exact hac k hka
      have hgd : (chords n).getD k 0 = c := by rw [← hcj]; simp [List.getD, hlt]
      obtain ⟨hs1, _, _, hs4⟩ := cyS_spec hb hcp hcf
      rw [← cyc_eq hb hcp hcf] at hs1 hs4
      have hstep : Hid (fcIter n am (k + 1) = addM (fcIter n am k) (cyI n c) A) := by
        rw [Hid, fcIter, hgd, hAe, cyc_eq hb hcp hcf]
      have hzb : Hid (∀ i, -10000000 ≤ (fcIter n am k).getD i 0 ∧ (fcIter n am k).getD i 0 ≤ 10000000) := fun i => by
        have h9 := fc_bnd' (am := am) hb (k := k) (fun j hj => by
          have h8 := hab.out am[j] (List.getElem_mem (by omega))
          have e8 : am.getD j 0 = am[j] := by simp [List.getD, (by omega : j < am.length)]
          rw [e8]; exact h8) hk i
        omega
      obtain ⟨d0, d1⟩ := bx.two
      have HN := hid (HP.out.below hbel)
      have HE := hid he
      have HX := hid bx
      have SC := hid sc
      have HB := hid hbel
      have HS1 := hid hs1
      have HS4 := hid hs4
      have HOL := hid hol
      clear he bx sc hbel hcc hac hcj hs1 hs4 hol hAA hAe hgd
      go_wp2_with fail
      refine (cycleOf_any _ _ n c _ HN.out hb hcp).mono ?_
      rintro e w3 ⟨r, rfl, hr3, b3⟩
      obtain ⟨_, xa, xc, hre, _⟩ := id hr3
      rw [HS1.out] at hre
      subst hre
      have z3 := b3.size
      have HR3 := hid (hr3.mono (Q := fun b => wr.heap.size ≤ b) (fun b _ h => h.1))
      have HE3 := hid (HE.out.below b3)
      have HX3 := hid (HX.out.below b3)
      have SC3 := hid (SC.out.below b3)
      have HB3 := hid (HB.out.trans (b3.mono HB.out.size))
      have hBl := HE.out.lt
      clear hr3 b3 d0 d1 q0 q1
      go_wp2_with fail
      go_loopw [40] (fun i wx => FjRel (fcIter n am k) (cyI n c) A (chords n) [.slice a0 n.nodes.length k0, .slice a1 n.pipes.length k1] w (.slice (some ⟨cb, co, none⟩) (chords n).length rc) (.slice xa n.pipes.length xc) w2.heap.size wr.heap.size i wx) (fun i _ => n.pipes.length - (intOf i).toNat)
      case atStart => exact ⟨0, rfl, by omega, by rw [addP_zero]; exact HE3.out, HX3.out, SC3.out, HB3.out, HR3.out⟩
      case round =>
        clear HE3 HX3 SC3 HB3 HR3 HE HX SC
        obtain ⟨j, rfl, hj, he, bx, sc, hbel, hy⟩ := hrel
        rw [HOL.out] at hj
        have hpl := addP_len (fcIter n am k) (cyI n c) A j
        rw [HOL.out] at hpl
        by_cases hjl : j < n.pipes.length
        · have hjc : j < (cyI n c).length := by have := HS1.out; omega
          have hjo : j < (fcIter n am k).length := by have := HOL.out; omega
          have hyn := hy
          rw [show (n.pipes.length) = (cyI n c).length from HS1.out.symm] at hyn
          obtain ⟨yb, yo, rfl, hyC, hybl, _, hyc⟩ := hyn.at (by omega)
          have q2 := hyc j hjc
          have q0 := (hbel.cell (p := ⟨ab, ao + k, none⟩) hal).trans QA.out
          have hjI : (j : Int) < n.pipes.length := by omega
          have hjp : j < (addP (fcIter n am k) (cyI n c) A j).length := by omega
          have g1 := he.cell j hjp
          rw [addP_at] at g1
          have hC := HS4.out j
          have hCe : (cyI n c).getD j 0 = (cyI n c)[j] := by simp [List.getD, hjc]
          have hO := hzb.out j
          have hsu := addP_succ (fcIter n am k) (cyI n c) A hjo
          obtain ⟨C, hCC⟩ : ∃ C, (cyI n c)[j] = C := ⟨_, rfl⟩
          obtain ⟨O, hOO⟩ : ∃ O, (fcIter n am k).getD j 0 = O := ⟨_, rfl⟩
          rw [hCe, hCC] at hC hsu
          rw [hOO] at hO hsu g1
          rw [hCC] at q2
          have hprod : -30000 ≤ A * C ∧ A * C ≤ 30000 := by
            have : C = -1 ∨ C = 0 ∨ C = 1 := by omega
            rcases this with rfl | rfl | rfl <;> omega
          have s1 : IntKind.i64.wrap (C * A) = A * C := by rw [Int.mul_comm]; exact IntWalk.i64_in _ (by omega)
          have s2 : IntKind.i64.wrap (O + A * C) = O + A * C := IntWalk.i64_in _ (by omega)
          have u1 := he.frozen j
          have HE := hid (he.set j (O + A * C))
          have HSU := hid hsu
          have hwl := he.lt
          have KK : Hid (Kept (fun b => b = w2.heap.size) wr (wr.setCell ⟨w2.heap.size, j, none⟩ (.int .i64 (O + A * C)))) := (Kept.refl (fun b => b = w2.heap.size) wr).setCell (p := ⟨w2.heap.size, j, none⟩) rfl _
          have HX := hid bx
          have SC := hid sc
          have HB := hid hbel
          have HY := hid hy
          have zz := HB2z.out
          clear he bx sc hbel hy hyn hyc hCC hOO hCe hsu hC hO hprod
          go_wp2_with fail
          go_region
          go_wp2_with fail
          go_roundw
          case rel =>
            have bb := (Below.refl (wr.setCell ⟨w2.heap.size, j, none⟩ (.int .i64 (O + A * C))).heap.size (wr.setCell ⟨w2.heap.size, j, none⟩ (.int .i64 (O + A * C)))).drew
            have k9 := KK.out
            refine ⟨j + 1, by go_num, by have := HOL.out; omega, ?_, (HX.out.kept k9 (by omega)).below bb, (SC.out.kept k9 (fun b _ h1 h2 => by have := h1.2; omega)).below bb, ?_, (HY.out.kept k9 (fun b _ h1 h2 => by omega)).below bb⟩
            · rw [← HSU.out]
              exact HE.out.below bb
            · exact HB.out.trans ((k9.below (B := w.heap.size) HB.out.size (fun b hb => by omega)).trans (bb.mono (by simp only [World.size_setCell]; exact HB.out.size)))
          case measure => simp [intOf]; omega
        · obtain rfl : j = n.pipes.length := by omega
          have HE := hid (show IntBlk 2 wr w2.heap.size (fcIter n am (k + 1)) from by
            rw [hstep.out, ← addP_all, HOL.out]; exact he)
          have HX := hid bx
          have SC := hid sc
          have HB := hid hbel
          clear he bx sc hbel hy
          go_wp2_with fail
          go_roundw
          case rel => exact ⟨k + 1, by go_num, by omega, HE.out, HX.out, SC.out, HB.out⟩
          case measure => simp [intOf]; omega
    · obtain rfl : k = (chords n).length := by omega
      have HB := hid hbel
      have HS := hid (show Slc (fun b => w.heap.size ≤ b ∧ b < wr.heap.size) wr (.slice (some ⟨w2.heap.size, 0, none⟩) n.pipes.length n.pipes.length) (fromCh n am) from by
        have h5 := he.slc (P := fun b => w.heap.size ≤ b ∧ b < wr.heap.size) (cap := n.pipes.length) ⟨by have := HB.out.size; omega, he.lt⟩ (by rw [hol]; omega)
        rw [hol] at h5
        exact h5)
      clear he bx sc hbel hol
      cases hfb : allB (-30000) 30000 (fromCh n am)
      · have hr : Hid (fcR n am = ([], 2)) := by simp [Hid, fcR, hb, HL.out, HAL.out, flowB, hfb]
        go_wp2_with (go_at_call 137; refine (checkedFlows_any _ (fromCh n am) _ HS.out.ints).mono ?_; rintro e w' ⟨rfl, rfl⟩)
        go_ret2
        rw [hr.out]
        exact ⟨_, rfl, Slc.nil _ _, HB.out⟩
      · have hr : Hid (fcR n am = (fromCh n am, 0)) := by
          have h9 : (fromCh n am).length = n.pipes.length := fcIter_len _ _ _
          simp [Hid, fcR, hb, HL.out, HAL.out, flowB, hfb, h9]
        go_wp2_with (go_at_call 137; refine (checkedFlows_any _ (fromCh n am) _ HS.out.ints).mono ?_; rintro e w' ⟨rfl, rfl⟩)
        go_ret2
        rw [hr.out]
        exact ⟨_, rfl, HS.out, HB.out⟩

end Go.Proofs.Ytdapdaadglaoiaa
