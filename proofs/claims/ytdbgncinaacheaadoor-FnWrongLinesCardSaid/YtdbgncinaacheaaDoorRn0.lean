/- Reading networks: what the rounds keep; l03Index of the reference. -/
import Derived.Test.YtdbgncinaacheaaDoorRnl
import Derived.Test.YtdbgncinaacheaaDoorDrW
namespace Go.Proofs.YtdbgncinaacheaaDoor
open Go.RowKit
open Go.Lib hiding intOf

/-- A block whose two cells may be written. -/
def Two (w : World) (b : Nat) (x y : Value) : Prop := w.cell? ⟨b, 0, none⟩ = some x ∧ w.cell? ⟨b, 1, none⟩ = some y ∧ w.frozen? ⟨b, 0, none⟩ = false ∧ w.frozen? ⟨b, 1, none⟩ = false
theorem Two.new (w : World) (x y : Value) (T : TypeId) : Two (w.alloc (.cells #[x, y] T)) w.heap.size x y := by
  have h := Blk.new w #[x, y] T
  exact ⟨h.cell 0 (by simp), h.cell 1 (by simp), h.frozen 0, h.frozen 1⟩
theorem Two.lt {w : World} {b : Nat} {x y : Value} (h : Two w b x y) : b < w.heap.size := World.block_lt_of_cell? (a := ⟨b, 0, none⟩) w h.1
theorem Two.kept {X : Nat → Prop} {w w' : World} {b : Nat} {x y : Value} (h : Two w b x y) (hk : Kept X w w') (hX : ¬ X b) : Two w' b x y := by
  have hb := hk.block b h.lt hX
  exact ⟨hk.cell h.1 hX, hk.cell h.2.1 hX, by rw [World.frozen?_of_block (w := w) (a := ⟨b, 0, none⟩) hb]; exact h.2.2.1, by rw [World.frozen?_of_block (w := w) (a := ⟨b, 1, none⟩) hb]; exact h.2.2.2⟩
theorem Two.below {w w' : World} {b : Nat} {x y : Value} {B : Nat} (h : Two w b x y) (hb : Below B w w') (hB : b < B) : Two w' b x y :=
  h.kept (X := fun k => B ≤ k) ⟨hb.os, hb.tape, hb.output, hb.size, fun k _ hx => hb.block k (by omega)⟩ (by omega)
theorem Two.set0 {w : World} {b : Nat} {x y : Value} (h : Two w b x y) (u : Value) : Two (w.setCell ⟨b, 0, none⟩ u) b u y :=
  ⟨cell_set_same h.1, by rw [cell_set_ne (by omega)]; exact h.2.1, by simpa using h.2.2.1, by simpa using h.2.2.2⟩
theorem Two.set1 {w : World} {b : Nat} {x y : Value} (h : Two w b x y) (u : Value) : Two (w.setCell ⟨b, 1, none⟩ u) b x u :=
  ⟨by rw [cell_set_ne (by omega)]; exact h.1, cell_set_same h.2.1, by simpa using h.2.2.1, by simpa using h.2.2.2⟩
theorem two_end {w wr : World} {b : Nat} {x y : Value} (h : Two wr b x y) (hB : Below w.heap.size w wr) (hb : w.heap.size ≤ b) (u v : Value) :
    ∃ W, ((wr.setCell ⟨b, 0, none⟩ u).setCell ⟨b, 1, none⟩ v) = W ∧ Two W b u v ∧ Below w.heap.size w W ∧ Kept (· = b) wr W :=
  ⟨_, rfl, (h.set0 u).set1 v, (hB.setCell (p := ⟨b, 0, none⟩) hb u).setCell (p := ⟨b, 1, none⟩) hb v, kept_two b u v⟩

def zNet' : Net := ⟨[], []⟩
theorem NetApart.zero' (B H : Nat) (w : World) : NetApart B H w (.slice none 0 0) (.slice none 0 0) zNet' :=
  ⟨fun _ => False, fun _ => False, fun _ h => h.elim, fun _ h => h.elim, fun _ h => h.elim, RowsOwn.nil _ _ _ _, fun x h => by simp [zNet'] at h, RowsOwn.nil _ _ _ _⟩
/-- What a reader of networks returns. -/
def OutR (w : World) (r : Option Net) (e : Ending) (w' : World) : Prop :=
  ∃ nv pv, e = .returned (.tuple #[.agg #[nv, pv], .bool r.isSome]) ∧ NetApart w.heap.size w'.heap.size w' nv pv (r.getD zNet') ∧ (CapOk nv ∧ CapOk pv) ∧ ((r.getD zNet').nodes.length ≤ 2000000 ∧ (r.getD zNet').pipes.length ≤ 2000000) ∧ Below w.heap.size w w'
theorem OutR.none {w w' : World} {r : Option Net} (hr : r = .none) (hB : Below w.heap.size w w') : OutR w r (.returned (.tuple #[.agg #[.slice .none 0 0, .slice .none 0 0], .bool false])) w' := by
  subst hr
  exact ⟨_, _, rfl, NetApart.zero' _ _ _, ⟨CapOk.mk (Nat.le_refl _), CapOk.mk (Nat.le_refl _)⟩, ⟨by simp [zNet'], by simp [zNet']⟩, hB⟩
theorem Drn.nil (B : Nat) (w : World) : Drn B w (.slice none 0 0) (.slice none 0 0) ⟨[], []⟩ := ⟨OwnR.nil _ _ _ _ _, OwnR.nil _ _ _ _ _, fun b hb => by simp [Value.ownBlock] at hb, fun x hx => by simp at hx⟩
theorem rdNet_no {s : Txt} {st : St} (k : Nat) (hk : k < (lnL s).length) (h : foldO stepI ([], []) ((lnL s).take k) = some st) (h2 : stepI st (lnL s)[k] = none) : rdNet s = none := by
  rw [rdNet, foldO_no k hk h h2]
theorem rdNetS_no {s : Txt} {st : St} (k : Nat) (hk : k < (lnL s).length) (h : foldO stepS ([], []) ((lnL s).take k) = some st) (h2 : stepS st (lnL s)[k] = none) : rdNetS s = none := by
  rw [rdNetS, foldO_no k hk h h2]

set_option maxHeartbeats 400000 in
theorem l03Index_any (v : Value) (ns : List Nd) (s : ByteArray) (w : World) (h : RowsAt encN 3 w v ns) :
    Calls Tryd.prog 85 #[v, .string s] w fun e w' => e = .returned (.int .i64 (nIdx ns s)) ∧ w = w' := by
  obtain ⟨a0, k0, rfl⟩ := h.shape
  have hl := h.1
  have h1 := hid h
  clear h
  go_enter Tryd.func85, Tryd.ntmps85
  go_wp2_with fail
  go_loopw [5] (fun v wr => NnRel ns s w v wr) (fun v _ => ns.length - (intOf v).toNat)
  case atStart => exact ⟨0, rfl, by omega, fun j hj h => by omega, rfl⟩
  case round =>
    obtain ⟨k, rfl, hk, hall, rfl⟩ := hrel
    have HA := hid hall
    clear hall
    by_cases hlt : k < ns.length
    · obtain ⟨b, off, rfl, hb2, hcc⟩ := h1.out.at' (by omega)
      obtain ⟨d0, d1, d2⟩ := cellsN (hcc k hlt)
      clear hcc
      cases hE : sEq ns[k].name s
      · have hE' : (ns[k].name.toList == s.toList) = false := hE
        go_wp2_with fail
        go_roundw
        case rel =>
          refine ⟨k + 1, by go_num, by omega, fun j hj hjk => ?_, rfl⟩
          rcases (by omega : j < k ∨ j = k) with h1 | rfl
          · exact HA.out j hj h1
          · exact hE
        case measure => simp [intOf]; omega
      · have hE' : (ns[k].name.toList == s.toList) = true := hE
        have hi := hid (nIdx_hit k hlt hE HA.out)
        go_wp2_with fail
        go_ret
        exact ⟨ret_int hi.out.symm, rfl⟩
    · have hi := hid (nIdx_miss (ns := ns) (s := s) (fun j hj => HA.out j hj (by omega)))
      obtain rfl : k = ns.length := by omega
      go_wp2_with fail
      go_ret
      exact ⟨ret_int hi.out.symm, rfl⟩

def RdRel (step : St → Txt → Option St) (L : List Txt) (w1 : World) (i : Value) (wr : World) : Prop :=
  ∃ (k : Nat) (ns : List Nd) (ps : List Pp) (nv pv : Value), i = .int .i64 k ∧ k ≤ L.length ∧ foldO step ([], []) (L.take k) = some (ns, ps) ∧ ns.length + ps.length ≤ k ∧
    Drn (w1.heap.size + 1) wr nv pv ⟨ns, ps⟩ ∧ Two wr w1.heap.size nv pv ∧ Below w1.heap.size w1 wr

set_option maxHeartbeats 1000000 in
set_option maxRecDepth 100000 in
theorem readNumbers_own (v : Value) (W : List Txt) (w : World) (h : RowsAt encS 1 w v (W.map tb)) (hW : ∀ l ∈ W, l.length ≤ 281474976710656) (hl : W.length ≤ 1000000) (hy : Lay w) :
    Calls Tryd.prog 47 #[v] w fun e w' => ∃ r, e = .returned (.tuple #[r, .bool (numsBy numI W).isSome]) ∧ Slc (fun b => w.heap.size ≤ b) w' r ((numsBy numI W).getD []) ∧ Below w.heap.size w w' := by
  have HR := hid h
  have HY := hid hy
  have HW := hid hW
  obtain ⟨a, cap, rfl⟩ := h.shape
  rw [List.length_map] at HR ⊢
  have hmk := run_make_row' (P := Tryd.prog) 67 2 (.int .i64 0) 8 Tryd.underlying67 info64 rfl .i64 .i64 W.length (by omega) (by omega)
  clear h hy hW
  go_enter Tryd.func47, Tryd.ntmps47
  go_wp2_with fail
  clear hmk
  go_loopw [14] (fun i wr => RnRel W w i wr) (fun i _ => W.length - (intOf i).toNat)
  case atStart => exact ⟨0, [], rfl, by omega, rfl, fun j _ h2 => by simp at h2, by simpa using IntBlk.made 2 w W.length, below_new _ _⟩
  case round =>
    obtain ⟨k, zs, rfl, hk, hzl, hall, hblk, hbel⟩ := hrel
    have HA := hid hall
    have HZ := hid hzl
    have HK := hid hblk
    have HB := hid hbel
    clear hall hblk hbel hzl
    by_cases hlt : k < W.length
    · obtain ⟨b, off, rfl, hb, hcc⟩ := (HR.out.below HB.out).strs (by simpa using (by omega : 0 < W.length))
      have c0 := hcc k (by simpa using hlt)
      rw [List.getElem_map] at c0
      have C := fun w1 hw1 => readNumber_any (tb W[k]) w1 (by rw [tb_size]; exact HW.out _ (List.getElem_mem hlt)) hw1
      simp only [tb_data] at C
      have HC := hid C
      clear hcc C
      cases hn : numI W[k] with
      | none =>
        have HN := hid (numsBy_no k hlt hn)
        have HC2 : Hid (∀ w1, Lay w1 → Calls Tryd.prog 87 #[.string (tb W[k])] w1 fun e w' => e = .returned (.tuple #[.int .i64 0, .bool false]) ∧ Below w1.heap.size w1 w') := fun w1 hw1 => by
          have := HC.out w1 hw1; rw [hn] at this; exact this
        clear HC hn
        go_wp2_with fail
        refine (HC2.out _ (HY.out.below HB.out)).mono ?_
        rintro e w1 ⟨rfl, b1⟩
        go_wp2_with fail
        go_ret2
        rw [HN.out]
        exact ⟨_, rfl, Slc.nil _ _, HB.out.trans (b1.mono HB.out.size)⟩
      | some x =>
        have HC2 : Hid (∀ w1, Lay w1 → Calls Tryd.prog 87 #[.string (tb W[k])] w1 fun e w' => e = .returned (.tuple #[.int .i64 x, .bool true]) ∧ Below w1.heap.size w1 w') := fun w1 hw1 => by
          have := HC.out w1 hw1; rw [hn] at this; exact this
        have HA2 : Hid (∀ j (h1 : j < W.length) (h2 : j < (zs ++ [x]).length), numI W[j] = some (zs ++ [x])[j]) := fun j h1 h2 => by
          by_cases hj : j < zs.length
          · rw [List.getElem_append_left hj]; exact HA.out j h1 hj
          · obtain rfl : j = zs.length := by simp at h2; omega
            have : zs.length = k := HZ.out
            subst this
            simpa using hn
        clear HC hn
        go_wp2_with fail
        refine (HC2.out _ (HY.out.below HB.out)).mono ?_
        rintro e w1 ⟨rfl, b1⟩
        have hblk1 := HK.out.kept (Kept.of_below (X := fun _ => False) b1) (fun e => e)
        have hf := hblk1.frozen k
        have hold := hblk1.cell k (by have := HZ.out; simp; omega)
        have HSET : Hid (IntBlk 2 (w1.setCell ⟨w.heap.size, k, none⟩ (.int .i64 x)) w.heap.size ((zs ++ [x]) ++ List.replicate (W.length - (k + 1)) 0)) := by
          have h1 := hblk1.set k x
          have h2 : W.length - k = (W.length - (k + 1)) + 1 := by omega
          have h3 : zs.length = k := HZ.out
          rw [h2] at h1
          subst h3
          rw [set_snoc] at h1; exact h1
        have HB2 := hid ((HB.out.trans (b1.mono HB.out.size)).setCell (p := ⟨w.heap.size, k, none⟩) (Nat.le_refl _) (.int .i64 x))
        clear hblk1 b1
        go_wp2_with fail
        go_roundw
        case rel => exact ⟨k + 1, zs ++ [x], by go_num, by omega, by have := HZ.out; simp; omega, HA2.out, HSET.out, HB2.out⟩
        case measure => simp [intOf]; omega
    · have e : k = W.length := by omega
      subst e
      have HN : Hid (numsBy numI W = some zs) := numsBy_mk HZ.out HA.out
      have HK2 : Hid (IntBlk 2 wr w.heap.size zs) := by have := HK.out; simp only [Nat.sub_self, List.replicate_zero, List.append_nil] at this; exact this
      have hsz := HK.out.lt
      go_wp2_with fail
      go_ret2
      rw [HN.out]
      refine ⟨_, rfl, ?_, HB.out⟩
      have := IntBlk.slc (cap := W.length) (P := fun b => w.heap.size ≤ b) HK2.out (Nat.le_refl _) (by have := HZ.out; omega)
      rw [show zs.length = W.length from HZ.out] at this
      exact this

theorem Drn.apart2 {B : Nat} {w : World} {nv pv : Value} {n : Net} (h : Drn B w nv pv n) (h1 : n.nodes.length ≤ 1000000000) (h2 : n.pipes.length ≤ 1000000000) : NetApart B w.heap.size w nv pv n ∧ CapOk nv ∧ CapOk pv := by
  obtain ⟨r1, q1⟩ := h.hn.rows lenN (by omega)
  obtain ⟨r2, q2⟩ := h.hp.rows lenP (by omega)
  exact ⟨⟨_, _, fun b hb => hb.2, fun b hb => hb.2, fun b hb hb' => h.ap b hb.1 hb'.1, r1, fun x hx => by have := h.ok x hx; omega, r2⟩, q1, q2⟩

end Go.Proofs.YtdbgncinaacheaaDoor
