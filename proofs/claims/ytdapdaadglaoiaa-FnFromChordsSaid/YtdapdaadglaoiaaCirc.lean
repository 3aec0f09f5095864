/- outflows, l05Out: what flows out of each node more than into it. IsCirculation of both sides. -/
import Derived.Test.YtdapdaadglaoiaaFlowA
import Derived.Test.YtdapdaadglaoiaaCode
namespace Go.Proofs.Ytdapdaadglaoiaa
open Go.RowKit

def outStep (n : Net) (f : List Int) (k : Nat) (o : List Int) : List Int :=
  (o.set (n.pipes.getD k zP).fr.toNat (o.getD (n.pipes.getD k zP).fr.toNat 0 + f.getD k 0)).set (n.pipes.getD k zP).to.toNat ((o.set (n.pipes.getD k zP).fr.toNat (o.getD (n.pipes.getD k zP).fr.toNat 0 + f.getD k 0)).getD (n.pipes.getD k zP).to.toNat 0 - f.getD k 0)
def outs (n : Net) (f : List Int) : Nat → List Int
  | 0 => List.replicate n.nodes.length 0
  | k + 1 => outStep n f k (outs n f k)
theorem outs_len (n : Net) (f : List Int) (k : Nat) : (outs n f k).length = n.nodes.length := by
  induction k with
  | zero => simp [outs]
  | succ k ih => simp [outs, outStep, ih]
theorem gset_ne {l : List Int} {i j : Nat} {a d : Int} (h : i ≠ j) : (l.set i a).getD j d = l.getD j d := by simp [List.getD, List.getElem?_set_ne h]
theorem gset_same {l : List Int} {i : Nat} {a d : Int} (h : i < l.length) : (l.set i a).getD i d = a := by simp [List.getD, h]
theorem gset_any {l : List Int} {i j : Nat} {a : Int} {lo hi : Int} (h0 : lo ≤ l.getD j 0 ∧ l.getD j 0 ≤ hi) (h1 : lo ≤ a ∧ a ≤ hi) : lo ≤ (l.set i a).getD j 0 ∧ (l.set i a).getD j 0 ≤ hi := by
  by_cases e : i = j
  · subst e
    by_cases hl : i < l.length
    · rw [gset_same hl]; exact h1
    · rw [List.set_eq_of_length_le (by omega)]; exact h0
  · rw [gset_ne e]; exact h0
theorem outs_bnd {n : Net} {f : List Int} (hf : ∀ i, -30000 ≤ f.getD i 0 ∧ f.getD i 0 ≤ 30000) (k j : Nat) : -(60000 * (k : Int)) ≤ (outs n f k).getD j 0 ∧ (outs n f k).getD j 0 ≤ 60000 * k := by
  induction k generalizing j with
  | zero =>
    have : (outs n f 0).getD j 0 = 0 := by simp only [outs, List.getD, List.getElem?_replicate]; split <;> rfl
    rw [this]; omega
  | succ k ih =>
    have hk := hf k
    rw [outs, outStep]
    have hA : ∀ j, -(60000 * (k : Int) + 30000) ≤ ((outs n f k).set (n.pipes.getD k zP).fr.toNat ((outs n f k).getD (n.pipes.getD k zP).fr.toNat 0 + f.getD k 0)).getD j 0 ∧ ((outs n f k).set (n.pipes.getD k zP).fr.toNat ((outs n f k).getD (n.pipes.getD k zP).fr.toNat 0 + f.getD k 0)).getD j 0 ≤ 60000 * k + 30000 := fun j => by
      have h1 := ih j
      have h2 := ih (n.pipes.getD k zP).fr.toNat
      exact gset_any ⟨by omega, by omega⟩ ⟨by omega, by omega⟩
    have h1 := hA j
    have h2 := hA (n.pipes.getD k zP).to.toNat
    have := gset_any (l := (outs n f k).set (n.pipes.getD k zP).fr.toNat ((outs n f k).getD (n.pipes.getD k zP).fr.toNat 0 + f.getD k 0)) (i := (n.pipes.getD k zP).to.toNat) (j := j) (a := ((outs n f k).set (n.pipes.getD k zP).fr.toNat ((outs n f k).getD (n.pipes.getD k zP).fr.toNat 0 + f.getD k 0)).getD (n.pipes.getD k zP).to.toNat 0 - f.getD k 0) (lo := -(60000 * ((k : Int) + 1))) (hi := 60000 * ((k : Int) + 1)) ⟨by omega, by omega⟩ ⟨by omega, by omega⟩
    omega
/-- One step, said with names. -/
theorem outs_step {n : Net} {f : List Int} {k x y : Nat} {A B C : Int} (hk : k < n.pipes.length) (hx : n.pipes[k].fr = x) (hy : n.pipes[k].to = y) (hxy : x ≠ y) (hA : (outs n f k).getD x 0 = A) (hB : (outs n f k).getD y 0 = B) (hC : f.getD k 0 = C) :
    outs n f (k + 1) = ((outs n f k).set x (A + C)).set y (B - C) := by
  have hp : n.pipes.getD k zP = n.pipes[k] := by simp [List.getD, hk]
  rw [outs, outStep, hp, hx, hy, Int.toNat_natCast, Int.toNat_natCast, hA, hC, gset_ne hxy, hB]

def OfRel (n : Net) (f : List Int) (l : List Value) (w : World) (i : Value) (wr : World) : Prop :=
  ∃ k : Nat, i = .int .i64 k ∧ k ≤ n.pipes.length ∧ Box wr w.heap.size l ∧ IntBlk 2 wr (w.heap.size + 1) (outs n f k) ∧ Below w.heap.size w wr

set_option maxHeartbeats 2000000 in
set_option maxRecDepth 100000 in
theorem outflows_any (nv pv v : Value) (n : Net) (f : List Int) (w : World) (h : NetAt w nv pv n) (hb : netB n = true) (hf : Ints .i64 w v f) (hfl : f.length = n.pipes.length) (hfb : ∀ i, -30000 ≤ f.getD i 0 ∧ f.getD i 0 ≤ 30000) :
    Calls Try.prog 136 #[.agg #[nv, pv], v] w fun e w' => ∃ r, e = .returned r ∧ Slc (fun b => w.heap.size ≤ b ∧ b < w'.heap.size) w' r (outs n f n.pipes.length) ∧ Below w.heap.size w w' := by
  obtain ⟨a0, k0, rfl⟩ := h.1.shape
  obtain ⟨a1, k1, rfl⟩ := h.2.2.shape
  have hnl := netB_t hb
  have HP := hid h
  have HF := hid hf
  obtain ⟨_, af, cf, rfl, _⟩ := hf
  have HFL := hid hfl
  have hWb := below_new w (.cells #[.slice a0 n.nodes.length k0, .slice a1 n.pipes.length k1] 27)
  have hbx := Box.new w #[.slice a0 n.nodes.length k0, .slice a1 n.pipes.length k1] 27
  have hmk := run_make_row' (P := Try.prog) 33 2 (.int .i64 0) 8 Try.underlying33 info64 rfl .i64 .i64 n.nodes.length (by omega) (by omega)
  have HW := hid hWb
  have HX := hid hbx
  obtain ⟨c0, c1⟩ := hbx.two
  clear h hWb hbx hfl
  go_enter Try.func136, Try.ntmps136
  go_wp2_with fail
  clear hmk c0 c1
  go_loopw [15] (fun i wr => OfRel n f [.slice a0 n.nodes.length k0, .slice a1 n.pipes.length k1] w i wr) (fun i _ => n.pipes.length - (intOf i).toNat)
  case atStart =>
    refine ⟨0, rfl, by omega, HX.out.below (below_new _ _), ?_, HW.out.alloc HW.out.size _⟩
    have := IntBlk.made 2 (w.alloc (.cells #[.slice a0 n.nodes.length k0, .slice a1 n.pipes.length k1] 27)) n.nodes.length
    rw [World.size_alloc] at this
    exact this
  case round =>
    obtain ⟨k, rfl, hk, bx, he, hbel⟩ := hrel
    clear HX HW
    have hol := outs_len n f k
    by_cases hlt : k < n.pipes.length
    · obtain ⟨pb, po, rfl, hpl, hpc⟩ := (HP.out.below hbel).2.2.at' (by omega)
      obtain ⟨x0, x1, x2, x3, x4⟩ := cellsP (hpc k hlt)
      obtain ⟨fb, fo, rfl, hfl, hfc⟩ := HF.out.at (by have := HFL.out; omega)
      have hkf : k < f.length := by have := HFL.out; omega
      have q0 := (hbel.cell (p := ⟨fb, fo + k, none⟩) hfl).trans (hfc k hkf)
      have hflr : fb < wr.heap.size := Nat.lt_of_lt_of_le hfl hbel.size
      have hgf : f.getD k 0 = f[k] := by simp [List.getD, hkf]
      have hCb := hfb k
      obtain ⟨f0, f1, t0, t1, hne⟩ := netB_pipe hb (List.getElem_mem hlt)
      obtain ⟨x, hx⟩ : ∃ x : Nat, n.pipes[k].fr = x := ⟨n.pipes[k].fr.toNat, by omega⟩
      obtain ⟨y, hy⟩ : ∃ y : Nat, n.pipes[k].to = y := ⟨n.pipes[k].to.toNat, by omega⟩
      have hxy : x ≠ y := by omega
      have hxl : x < (outs n f k).length := by omega
      have hyl : y < (outs n f k).length := by omega
      obtain ⟨A, hA⟩ : ∃ A, (outs n f k).getD x 0 = A := ⟨_, rfl⟩
      obtain ⟨B, hB⟩ : ∃ B, (outs n f k).getD y 0 = B := ⟨_, rfl⟩
      obtain ⟨C, hC⟩ : ∃ C, f.getD k 0 = C := ⟨_, rfl⟩
      have bA := outs_bnd (n := n) hfb k x
      have bB := outs_bnd (n := n) hfb k y
      rw [hA] at bA
      rw [hB] at bB
      rw [hC] at hCb
      have HS := hid (outs_step hlt hx hy hxy hA hB hC)
      have g1 := he.cell x hxl
      rw [show (outs n f k)[x] = A by rw [← hA]; simp [List.getD, hxl]] at g1
      have g2 := he.cell y hyl
      rw [show (outs n f k)[y] = B by rw [← hB]; simp [List.getD, hyl]] at g2
      rw [← hgf, hC] at q0
      rw [hx] at x0
      rw [hy] at x1
      have u1 := he.frozen x
      have u2 := he.frozen y
      have HE := hid ((he.set x (A + C)).set y (B - C))
      have s1 : IntKind.i64.wrap (A + C) = A + C := IntWalk.i64_in _ (by omega)
      have s2 : IntKind.i64.wrap (B - C) = B - C := IntWalk.i64_in _ (by omega)
      have g2' : (wr.setCell ⟨w.heap.size + 1, x, none⟩ (.int .i64 (A + C))).cell? ⟨w.heap.size + 1, y, none⟩ = some (.int .i64 B) := (cell_set_ne hxy).trans g2
      have q0' : (wr.setCell ⟨w.heap.size + 1, x, none⟩ (.int .i64 (A + C))).cell? ⟨fb, fo + k, none⟩ = some (.int .i64 C) := (World.cell?_setCell_other wr ⟨w.heap.size + 1, x, none⟩ ⟨fb, fo + k, none⟩ _ (fun e => by have := congrArg Addr.block e; simp only at this; omega)).trans q0
      have hxI : (x : Int) < n.nodes.length := by omega
      have hyI : (y : Int) < n.nodes.length := by omega
      have hkI : (k : Int) < f.length := by omega
      have hwl := he.lt
      have HX := hid bx
      have HB := hid hbel
      obtain ⟨c0, c1⟩ := bx.two
      have KK : Hid (Kept (fun b => b = w.heap.size + 1) wr ((wr.setCell ⟨w.heap.size + 1, x, none⟩ (.int .i64 (A + C))).setCell ⟨w.heap.size + 1, y, none⟩ (.int .i64 (B - C)))) := ((Kept.refl (fun b => b = w.heap.size + 1) wr).setCell (p := ⟨w.heap.size + 1, x, none⟩) rfl _).setCell (p := ⟨w.heap.size + 1, y, none⟩) rfl _
      have hfk : f[k] = C := by rw [← hgf]; exact hC
      clear bx he hbel hA hB hC hx hy hpc hfc hgf
      go_wp2_with fail
      go_region
      go_wp2_with fail
      go_region
      go_wp2_with fail
      have hz := HB.out.size
      go_roundw
      case rel =>
        have bb := ((below_new ((wr.setCell ⟨w.heap.size + 1, x, none⟩ (.int .i64 (A + C))).setCell ⟨w.heap.size + 1, y, none⟩ (.int .i64 (B - C))) (.cells #[.int .i64 x, .int .i64 y, .int .i64 n.pipes[k].k, .int .i64 n.pipes[k].vol, .int .i64 n.pipes[k].lim] 73)).drew).drew
        refine ⟨k + 1, by go_num, by omega, (HX.out.kept KK.out (by omega)).below bb, ?_, HB.out.trans ((KK.out.below hz (fun b hb => by omega)).trans (bb.mono (by simp only [World.size_setCell]; omega)))⟩
        rw [HS.out]
        exact HE.out.kept (Kept.of_below (X := fun _ => False) bb) (fun e => e)
      case measure => simp [intOf]; omega
    · obtain rfl : k = n.pipes.length := by omega
      have HE := hid he
      have HB := hid hbel
      have hwl := he.lt
      clear bx he hbel
      go_wp2_with fail
      go_ret
      refine ⟨_, rfl, ?_, HB.out⟩
      have := HE.out.slc (P := fun b => w.heap.size ≤ b ∧ b < wr.heap.size) (cap := n.nodes.length) ⟨by omega, hwl⟩ (by omega)
      rw [hol] at this
      exact this

end Go.Proofs.Ytdapdaadglaoiaa

namespace Go.Proofs.Ytdapdaadglaoiaa
open Go.RowKit

def cirB (n : Net) (f : List Int) : Bool := netB n && (flowB n f && allB 0 0 (outs n f n.pipes.length))
theorem flowB_t {n : Net} {f : List Int} (h : flowB n f = true) : f.length = n.pipes.length ∧ ∀ i, -30000 ≤ f.getD i 0 ∧ f.getD i 0 ≤ 30000 := by
  simp only [flowB, Bool.and_eq_true, decide_eq_true_eq] at h
  refine ⟨h.1, fun i => ?_⟩
  by_cases hi : i < f.length
  · have := allB_t h.2 f[i] (List.getElem_mem hi)
    simpa [List.getD, hi] using this
  · have : f.getD i 0 = 0 := by simp only [List.getD]; rw [List.getElem?_eq_none (by omega)]; rfl
    rw [this]; omega

set_option maxHeartbeats 1000000 in
set_option maxRecDepth 100000 in
theorem impl_IsCirculation_any (nv pv v : Value) (n : Net) (f : List Int) (w : World) (h : NetAt w nv pv n) (hf : Ints .i64 w v f) (hcap : CapOk nv) :
    Calls Try.prog 55 #[.agg #[nv, pv], v] w fun e w' => e = .returned (.bool (cirB n f)) ∧ Below w.heap.size w w' := by
  obtain ⟨a0, k0, rfl⟩ := h.1.shape
  obtain ⟨a1, k1, rfl⟩ := h.2.2.shape
  have hWb := below_new w (.cells #[.slice a0 n.nodes.length k0, .slice a1 n.pipes.length k1] 27)
  have hbx := Box.new w #[.slice a0 n.nodes.length k0, .slice a1 n.pipes.length k1] 27
  have h := h.below hWb
  have hf := hf.below hWb
  obtain ⟨_, af, cf, rfl, _⟩ := id hf
  go_enter Try.func55, Try.ntmps55
  go_wp2_with fail
  refine (impl_IsNetwork_any _ _ n _ h hcap).mono ?_
  cases hb : netB n
  · have hr : Hid (cirB n f = false) := by simp [Hid, cirB, hb]
    rintro e w1 ⟨rfl, b1⟩
    have HB := hid (hWb.trans (b1.mono hWb.size))
    clear b1 hWb hbx
    go_wp2_with fail
    go_ret
    exact ⟨by rw [hr.out]; rfl, HB.out⟩
  rintro e w1 ⟨rfl, b1⟩
  have HB := hid (hWb.trans (b1.mono hWb.size))
  have bx := hbx.below b1
  have h := h.below b1
  have hf := hf.below b1
  obtain ⟨c0, c1⟩ := bx.two
  clear b1 hWb hbx
  go_wp2_with fail
  refine (isFlowList_any _ _ _ n f _ h hf).mono ?_
  cases hfl : flowB n f
  · have hr : Hid (cirB n f = false) := by simp [Hid, cirB, hfl]
    rintro e w2 ⟨rfl, b2⟩
    have HB2 := hid (HB.out.trans (b2.mono HB.out.size))
    clear b2 c0 c1
    go_wp2_with fail
    go_ret
    exact ⟨by rw [hr.out]; rfl, HB2.out⟩
  have hr : Hid (cirB n f = allB 0 0 (outs n f n.pipes.length)) := by simp [Hid, cirB, hfl, hb]
  obtain ⟨hfl1, hfl2⟩ := flowB_t hfl
  rintro e w2 ⟨rfl, b2⟩
  have HB2 := hid (HB.out.trans (b2.mono HB.out.size))
  have bx2 := bx.below b2
  have h2 := h.below b2
  have hf2 := hf.below b2
  clear c0 c1
  obtain ⟨c0, c1⟩ := bx2.two
  clear b2
  have HO := hid (outflows_any _ _ _ n f _ h2 hb hf2 hfl1 hfl2)
  clear hfl1 hfl2
  go_wp2_with fail
  refine HO.out.mono ?_
  rintro e w3 ⟨r, rfl, S3, b3⟩
  have HB3 := hid (HB2.out.trans (b3.mono HB2.out.size))
  obtain ⟨_, ra, rc, rfl, _⟩ := id S3
  clear b3 c0 c1
  go_wp2_with (go_at_call 135; refine (allWithin_any _ (outs n f n.pipes.length) _ _ _ S3.ints).mono ?_; rintro e w' ⟨rfl, rfl⟩)
  go_ret
  exact ⟨by rw [hr.out]; rfl, HB3.out⟩

end Go.Proofs.Ytdapdaadglaoiaa
