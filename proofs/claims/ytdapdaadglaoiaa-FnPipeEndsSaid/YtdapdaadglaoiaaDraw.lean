/- The drawing functions of chapter 1: they return, and what they return is in range. -/
import Derived.Test.YtdapdaadglaoiaaBase
import Derived.Test.YtdapdaadglaoiaaMem
import Derived.Deep.QuietTactic
import Derived.BigQuiet
import Derived.RegionTactic
namespace Go.Proofs.Ytdapdaadglaoiaa
open Go.RowKit

theorem l01Next_small (s : Nat) (n : Int) (w : World) (hn : n ≤ 1) :
    Calls Try.prog 92 #[.pointer (some ⟨s, 0, none⟩), .int .i64 n] w fun e w' => e = .returned (.int .i64 0) ∧ w = w' := by
  go_enter Try.func92, Try.ntmps92
  go_wp2
  go_ret
  exact ⟨rfl, rfl⟩

theorem src_two {T : TypeId} {w : World} {s : Nat} {a : Option Addr} {len cap : Nat} {at_ seed : Int} (hs : w.heap[s]? = some (.cells #[.slice a len cap, .int .i64 at_, .int .i64 seed] T (0, 0)))
    (hb : Bytes w a len s) (A S : Int) (hA0 : 0 ≤ A) (hA1 : A ≤ len) (hS0 : 0 ≤ S) (hS1 : S < 2147483647) (k m : Nat) :
    Src T ((((w.setCell ⟨s, 2, none⟩ (.int .i64 S)).drewN k).setCell ⟨s, 1, none⟩ (.int .i64 A)).drewN m) s ∧
    Kept (· = s) w ((((w.setCell ⟨s, 2, none⟩ (.int .i64 S)).drewN k).setCell ⟨s, 1, none⟩ (.int .i64 A)).drewN m) := by
  have hk : Kept (· = s) w ((((w.setCell ⟨s, 2, none⟩ (.int .i64 S)).drewN k).setCell ⟨s, 1, none⟩ (.int .i64 A)).drewN m) :=
    ((((Kept.refl (· = s) w).setCell (X := (· = s)) (p := ⟨s, 2, none⟩) rfl _).drewN k).setCell (X := (· = s)) (p := ⟨s, 1, none⟩) rfl _).drewN m
  refine ⟨⟨a, len, cap, A, S, ?_, hA0, hA1, hS0, hS1, hb.kept hk (fun k e => by omega)⟩, hk⟩
  exact heap_setCell_same (w := (w.setCell ⟨s, 2, none⟩ (.int .i64 S)).drewN k) (o := 1) (heap_setCell_same (o := 2) hs (.int .i64 S)) (.int .i64 A)
theorem src_one {T : TypeId} {w : World} {s : Nat} {a : Option Addr} {len cap : Nat} {at_ seed : Int} (hs : w.heap[s]? = some (.cells #[.slice a len cap, .int .i64 at_, .int .i64 seed] T (0, 0)))
    (hb : Bytes w a len s) (S : Int) (hA0 : 0 ≤ at_) (hA1 : at_ ≤ len) (hS0 : 0 ≤ S) (hS1 : S < 2147483647) (m : Nat) :
    Src T ((w.setCell ⟨s, 2, none⟩ (.int .i64 S)).drewN m) s ∧ Kept (· = s) w ((w.setCell ⟨s, 2, none⟩ (.int .i64 S)).drewN m) := by
  have hk : Kept (· = s) w ((w.setCell ⟨s, 2, none⟩ (.int .i64 S)).drewN m) := ((Kept.refl (· = s) w).setCell (X := (· = s)) (p := ⟨s, 2, none⟩) rfl _).drewN m
  refine ⟨⟨a, len, cap, at_, S, ?_, hA0, hA1, hS0, hS1, hb.kept hk (fun k e => by omega)⟩, hk⟩
  exact heap_setCell_same (o := 2) hs (.int .i64 S)

set_option maxHeartbeats 400000 in
theorem l01Next_any (s : Nat) (n : Int) (w : World) (hn : 1 < n) (hn2 : n ≤ 4000000000000000000) (h : Src 126 w s) :
    Calls Try.prog 92 #[.pointer (some ⟨s, 0, none⟩), .int .i64 n] w fun e w' =>
      ∃ r : Int, e = .returned (.int .i64 r) ∧ 0 ≤ r ∧ r < n ∧ Src 126 w' s ∧ Kept (· = s) w w' := by
  obtain ⟨a, len, cap, at_, seed, hs, h0, h1, h2, h3, hB⟩ := h
  obtain ⟨c0, c1, c2, hf⟩ := three_cells hs
  have hf1 := hf 1
  have hf2 := hf 2
  have hm := hB.1
  have HS := hid hs
  have HB := hid hB
  clear hs hf hB
  have hsm1 : 0 ≤ (seed * 48271 + 7) % 2147483647 := by omega
  have hsm2 : (seed * 48271 + 7) % 2147483647 < 2147483647 := by omega
  have hmod : ∀ y : Int, 0 ≤ y % n ∧ y % n < n := fun y => ⟨Int.emod_nonneg _ (by omega), Int.emod_lt_of_pos _ (by omega)⟩
  have HM := hid hmod
  clear hmod
  go_enter Try.func92, Try.ntmps92
  go_wp2
  by_cases hat : at_ < len
  · obtain ⟨b, off, rfl, hbs, hx⟩ := HB.out.2.resolve_left (by omega)
    obtain ⟨x, x0, x1, hx⟩ := hx at_.toNat (by omega)
    have hne : ¬ b = s := by omega
    have hne2 : ¬ s = b := by omega
    have hat1 : at_.toNat < len := by omega
    go_quiet (fail)
    go_wp2
    go_quiet (fail)
    go_wp2
    · go_quiet (fail)
      go_wp2
      go_ret
      exact ⟨_, rfl, (HM.out _).1, (HM.out _).2, src_two HS.out HB.out _ _ (by omega) (by omega) (by omega) (by omega) _ _⟩
    · go_ret
      exact ⟨_, rfl, (HM.out _).1, (HM.out _).2, src_two HS.out HB.out _ _ (by omega) (by omega) (by omega) (by omega) _ 0⟩
    · go_ret
      exact ⟨_, rfl, (HM.out _).1, (HM.out _).2, src_two HS.out HB.out _ _ (by omega) (by omega) (by omega) (by omega) _ 0⟩
  · go_quiet (fail)
    go_wp2
    go_ret
    exact ⟨_, rfl, (HM.out _).1, (HM.out _).2, src_one HS.out HB.out _ (by omega) (by omega) (by omega) (by omega) _⟩

def FromRel (T : TypeId) (a : Option Addr) (len cap : Nat) (w : World) (i : Value) (wr : World) : Prop :=
  ∃ k : Nat, ∃ seed : Int, i = .int .i64 k ∧ k ≤ 64 ∧ k ≤ len ∧ 0 ≤ seed ∧ seed < 2147483647 ∧ wr.heap[w.heap.size]? = some (.cells #[.slice a len cap, .int .i64 0, .int .i64 seed] T (0, 0)) ∧ Below w.heap.size w wr

set_option maxHeartbeats 400000 in
theorem l01From_any (a : Option Addr) (len cap : Nat) (w : World) (h : Bytes w a len w.heap.size) :
    Calls Try.prog 88 #[.slice a len cap] w fun e w' =>
      e = .returned (.pointer (some ⟨w.heap.size, 0, none⟩)) ∧ Src 126 w' w.heap.size ∧ Below w.heap.size w w' := by
  have hm := h.1
  have HB := hid h
  clear h
  go_enter Try.func88, Try.ntmps88
  go_wp2
  go_loopw [4] (fun i wr => FromRel 126 a len cap w i wr) (fun i _ => 64 - (intOf i).toNat)
  case atStart => exact ⟨0, 50311, rfl, by omega, by omega, by omega, by omega, heap_alloc_new _ _, (Below.refl _ _).alloc (Nat.le_refl _) _⟩
  case round =>
    obtain ⟨k, seed, rfl, h0, h1, h2, h3, hs, hbel⟩ := hrel
    by_cases hlt : k < len ∧ k < 64
    · obtain ⟨l1, l2⟩ := hlt
      obtain ⟨c0, c1, c2, hf⟩ := three_cells hs
      have hf2 := hf 2
      obtain ⟨b, off, rfl, hbs, hx⟩ := HB.out.2.resolve_left (by omega)
      obtain ⟨x, x0, x1, hx⟩ := hx k (by omega)
      have hx1 := (hbel.cell (p := ⟨b, off + k, none⟩) hbs).trans hx
      have HS := hid hs
      have HBel := hid hbel
      clear hs hf hx hbel
      go_wp2
      go_region
      go_wp2
      go_roundw
      case rel => exact ⟨k + 1, (seed * 41 + x) % 2147483647, by go_num, by omega, by omega, by omega, by omega, heap_setCell_same (w := wr) (o := 2) HS.out _, (HBel.out.setCell (p := ⟨w.heap.size, 2, none⟩) (Nat.le_refl _) _).drew⟩
      case measure => simp [intOf]; omega
    · have HS := hid hs
      have HBel := hid hbel
      have HK : Hid (Src 126 wr w.heap.size) :=
        ⟨a, len, cap, 0, seed, hs, by omega, by omega, h2, h3, HB.out.kept (Kept.of_below (X := fun _ => False) hbel) (fun k e => e.elim)⟩
      clear hs hbel
      go_wp2
      all_goals go_ret
      all_goals exact ⟨rfl, HK.out, HBel.out⟩


end Go.Proofs.Ytdapdaadglaoiaa
