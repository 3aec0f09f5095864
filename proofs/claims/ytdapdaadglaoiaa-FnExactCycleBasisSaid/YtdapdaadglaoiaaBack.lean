/- slices.Backward: the iterator's contract for a body that keeps the slice's block and its box. -/
import Derived.Test.YtdapdaadglaoiaaBase
import Derived.Test.YtdapdaadglaoiaaMem
import Derived.RangeFuncBox
import Derived.RangeFuncLeaves
import Derived.Shelf.Abstract
import Derived.WalkKit
import Derived.OwnWalkIn
import Derived.TacticsInMore
import Derived.LoopNIn
import Derived.LoopIn
namespace Go.Proofs.Ytdapdaadglaoiaa
open Go.RowKit Go.Shelf

attribute [local go_sem] Oper.semAt_some

/-- Blocks b and c lie as they lay. -/
def KeepB (b c : Nat) (W W' : World) : Prop := W'.heap[b]? = W.heap[b]? ∧ W'.heap[c]? = W.heap[c]?
theorem KeepB.refl (b c : Nat) (W : World) : KeepB b c W W := ⟨rfl, rfl⟩
theorem KeepB.trans {b c : Nat} {A B C : World} (h : KeepB b c A B) (k : KeepB b c B C) : KeepB b c A C := ⟨k.1.trans h.1, k.2.trans h.2⟩
theorem cell_of_heap {W W' : World} {p : Addr} (h : W'.heap[p.block]? = W.heap[p.block]?) : W'.cell? p = W.cell? p := by
  unfold World.cell?
  rw [h]
/-- What comes up, from behind. -/
def bk (zs : List Int) (k : Nat) : Nat × Int := (zs.length - 1 - k, zs.getD (zs.length - 1 - k) 0)
theorem bk_mem {zs : List Int} {k : Nat} (h : 0 < zs.length) : (bk zs k).2 ∈ zs := by
  have : zs.length - 1 - k < zs.length := by omega
  simp only [bk, List.getD, List.getElem?_eq_getElem this, Option.getD_some]
  exact List.getElem_mem this
theorem bk_all (zs : List Int) : (List.range zs.length).map (fun k => (bk zs k).2) = zs.reverse := by
  refine List.ext_getElem (by simp) (fun i h1 h2 => ?_)
  have h3 : i < zs.length := by simpa using h1
  have : zs.length - 1 - i < zs.length := by omega
  simp [bk, List.getD, this]

set_option maxRecDepth 100000 in
set_option maxHeartbeats 2000000 in
theorem back1_in (F : Fence) (n : Nat) (h7 : F.fn 196) (hro : F.round = none) (hn : 1 ≤ n) (l Bs b off cap : Nat) (zs : List Int) (hlen : zs.length ≤ 1000000) (J Jx : List Nat → World → Prop)
    (hY : ∀ pre x W, J pre W → pre.length < zs.length → YieldAt F (n - 1) Try.prog l #[.int .i64 ((bk zs x).1 : Nat), .int .i64 (bk zs x).2] W fun e W' =>
      (e = .returned (.bool true) ∧ J (pre ++ [x]) W' ∧ KeepB b Bs W W') ∨ (e = .returned (.bool false) ∧ Jx (pre ++ [x]) W'))
    (W : World) (hBs : W.cell? ⟨Bs, 0, none⟩ = some (.slice (some ⟨b, off, none⟩) zs.length cap)) (hc : ∀ j (hj : j < zs.length), W.cell? ⟨b, off + j, none⟩ = some (.int .i64 zs[j])) (h0 : J [] W) :
    CallsIn F n Try.prog 196 #[.func (.yield l) #[] #[], .pointer (some ⟨Bs, 0, none⟩)] W fun e W' => (∃ v, e = .returned v) ∧
      ((∃ ys, ys = List.range zs.length ∧ J ys W') ∨ (∃ pre, Jx pre W')) := by
  have HC := hid hc
  clear hc
  refine callsIn_of_wp Try.func196 rfl h7 ?_ hro
  simp only [Try.ntmps196, List.size_toArray, List.length_cons, List.length_nil, Nat.reduceAdd, Nat.reduceSub, Array.replicate_succ, Array.replicate_zero, List.push_toArray, List.append_toArray, List.nil_append, List.cons_append]
  gi_wp2
  gi_loopw [3] (fun i wr => ∃ k : Nat, k ≤ zs.length ∧ i = .int .i64 ((zs.length : Int) - 1 - k) ∧ J (List.range k) wr ∧ KeepB b Bs W wr)
    (fun i _ => (intOf i + 1).toNat)
  case atStart => exact ⟨0, Nat.zero_le _, by simp, h0, KeepB.refl _ _ _⟩
  case round =>
    obtain ⟨k, hk, rfl, hJs, hnx⟩ := hrel
    have hBx : wr.cell? ⟨Bs, 0, none⟩ = some (.slice (some ⟨b, off, none⟩) zs.length cap) := (cell_of_heap (p := ⟨Bs, 0, none⟩) hnx.2).trans hBs
    by_cases hlt : k < zs.length
    · obtain ⟨j, hj⟩ : ∃ j : Nat, zs.length - 1 - k = j := ⟨_, rfl⟩
      have hjl : j < zs.length := by omega
      have hji : (zs.length : Int) - 1 - k = j := by omega
      have hjI : (j : Int) < zs.length := by omega
      have hcx : wr.cell? ⟨b, off + j, none⟩ = some (.int .i64 zs[j]) := (cell_of_heap (p := ⟨b, off + j, none⟩) hnx.1).trans (HC.out j hjl)
      have hbk : Hid (bk zs k = (j, zs[j])) := by rw [Hid, bk, hj]; simp [List.getD, hjl]
      obtain ⟨fn, tmps, assign, body, hy, hR⟩ := hY _ k wr hJs (by rw [List.length_range]; exact hlt)
      rw [hbk.out] at hy
      dsimp only at hy
      rw [hji]
      have HK := hid hnx
      have HJ := hid hji
      have HJJ := hid hj
      clear hnx hji hj
      gi_wp2
      refine hR.mono ?_
      rintro e W3 (⟨rfl, hJ3, hk3⟩ | ⟨rfl, hJx3⟩)
      · gi_wp2
        go_roundw
        case rel => exact ⟨k + 1, by omega, by have := HJ.out; congr 1; omega, by rw [List.range_succ]; exact hJ3, HK.out.trans hk3⟩
        case measure => simp [intOf]
      · gi_wp2
        refine bodyPost_ret (results_none rfl _ _ _) rfl ?_
        exact ⟨⟨_, rfl⟩, .inr ⟨_, hJx3⟩⟩
    · obtain rfl : k = zs.length := by omega
      gi_wp2
      go_end0
      exact ⟨⟨_, rfl⟩, .inl ⟨_, rfl, hJs⟩⟩

set_option maxHeartbeats 1000000 in
/-- slices.Backward(s): the slice value is boxed; the function value captures the box. -/
theorem back_in (F : Fence) (n : Nat) (h5 : F.fn 188) (hro : F.round = none) (a : Option Addr) (len cap : Nat) (w : World) :
    CallsIn F n Try.prog 188 #[.slice a len cap] w fun e w' => e = .returned (.func (.func 196) #[] #[.pointer (some ⟨w.heap.size, 0, none⟩)]) ∧ w' = w.alloc (.cells #[.slice a len cap] 33) := by
  refine callsIn_of_wp Try.func188 rfl h5 ?_ hro
  simp only [Try.ntmps188, List.size_toArray, List.length_cons, List.length_nil, Nat.reduceAdd, Nat.reduceSub, Array.replicate_succ, Array.replicate_zero, List.push_toArray, List.append_toArray, List.nil_append, List.cons_append]
  gi_wp2
  go_ret
  exact ⟨rfl, rfl⟩

/-- What slices.Backward hands back, as an iterator that the caller's law takes. -/
theorem back_stops (F : Fence) (n : Nat) (h7 : F.fn 196) (hro : F.round = none) (hn : 1 ≤ n) (Bs b off cap : Nat) (zs : List Int) (hlen : zs.length ≤ 1000000) (w : World) (hBs : Bs < w.heap.size) (hb : b < w.heap.size)
    (hc : w.cell? ⟨Bs, 0, none⟩ = some (.slice (some ⟨b, off, none⟩) zs.length cap)) (hI : ∀ j (hj : j < zs.length), w.cell? ⟨b, off + j, none⟩ = some (.int .i64 zs[j])) :
    SeqStopsK F n Try.prog 196 #[.pointer (some ⟨Bs, 0, none⟩)] (fun x : Nat => #[Value.int .i64 ((bk zs x).1 : Nat), Value.int .i64 (bk zs x).2]) (KeepB b Bs) (fun ys => ys = List.range zs.length) (fun _ => True) zs.length w := fun l J Jx W hW _ _ hY h0 => by
  refine (back1_in F n h7 hro hn l Bs b off cap zs hlen J Jx hY W ((hW.cell (p := ⟨Bs, 0, none⟩) hBs).trans hc) (fun j hj => (hW.cell (p := ⟨b, off + j, none⟩) hb).trans (hI j hj)) h0).mono ?_
  rintro e W' ⟨he, ⟨ys, rfl, hj⟩ | ⟨pre, hj⟩⟩
  · exact ⟨he, .inl ⟨_, rfl, hj⟩⟩
  · exact ⟨he, .inr ⟨_, trivial, hj⟩⟩
theorem keepB_b {b c : Nat} {w : World} (hb : b < w.heap.size) (hc : c < w.heap.size) (W : World) (l : Nat) (o o' : Obj) (hl : w.heap.size ≤ l) (_ : W.heap[l]? = some o) (_ : o.isCells = false) (_ : o.isWalk = false) : KeepB b c W (W.putObj l o') :=
  ⟨World.putObj_heap_other (by omega), World.putObj_heap_other (by omega)⟩

end Go.Proofs.Ytdapdaadglaoiaa
