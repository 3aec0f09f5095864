/- impl.nodeIndex: the index of the node with a name, or -1. -/
import Derived.Test.YtdbgncinaacheaaGreatDoorBase
import Derived.Test.YtdbgncinaacheaaGreatDoorNet
namespace Go.Proofs.YtdbgncinaacheaaGreatDoor
open Go.RowKit

/-- Two strings are equal. -/
def sEq (a b : ByteArray) : Bool := a.toList == b.toList
theorem sEq_iff {a b : ByteArray} : sEq a b = true ↔ a = b := by
  unfold sEq
  rw [ByteArray.toList_eq, ByteArray.toList_eq, beq_iff_eq]
  constructor
  · intro h
    cases a; cases b
    simp at h; rw [h]
  · intro h; rw [h]
theorem sEq_f {a b : ByteArray} : sEq a b = false ↔ a ≠ b := by
  rw [← Bool.not_eq_true, sEq_iff]

/-- The index of the first node with a name, or -1. -/
def nIdx (ns : List Nd) (s : ByteArray) : Int := match ns.findIdx? (fun x => sEq x.name s) with | some i => (i : Int) | none => -1
theorem nIdx_hit {ns : List Nd} {s : ByteArray} (k : Nat) (hk : k < ns.length) (h : sEq ns[k].name s = true) (hf : ∀ j (hj : j < ns.length), j < k → sEq ns[j].name s = false) : nIdx ns s = k := by
  have : ns.findIdx? (fun x => sEq x.name s) = some k := by
    rw [List.findIdx?_eq_some_iff_getElem]
    exact ⟨hk, h, fun j hj => by simp [hf j (by omega) hj]⟩
  simp [nIdx, this]
theorem nIdx_miss {ns : List Nd} {s : ByteArray} (hf : ∀ j (hj : j < ns.length), sEq ns[j].name s = false) : nIdx ns s = -1 := by
  have : ns.findIdx? (fun x => sEq x.name s) = none := by
    rw [List.findIdx?_eq_none_iff]
    intro x hx
    obtain ⟨i, hi, rfl⟩ := List.getElem_of_mem hx
    exact hf i hi
  simp [nIdx, this]
theorem nIdx_cases (ns : List Nd) (s : ByteArray) : (nIdx ns s = -1 ∧ ∀ j (hj : j < ns.length), sEq ns[j].name s = false) ∨ ∃ k, ∃ hk : k < ns.length, nIdx ns s = k ∧ sEq ns[k].name s = true ∧ ∀ j (hj : j < ns.length), j < k → sEq ns[j].name s = false := by
  cases h : ns.findIdx? (fun x => sEq x.name s) with
  | none =>
    left
    rw [List.findIdx?_eq_none_iff] at h
    exact ⟨by simp [nIdx, List.findIdx?_eq_none_iff.2 h], fun j hj => h _ (List.getElem_mem hj)⟩
  | some k =>
    right
    have h' := h
    rw [List.findIdx?_eq_some_iff_getElem] at h
    obtain ⟨hk, h1, h2⟩ := h
    exact ⟨k, hk, by simp [nIdx, h'], h1, fun j hj hjk => by simpa using h2 j hjk⟩

theorem nodeIndex1_any (x : Nd) (s : ByteArray) (bx : Nat) (w : World) (h : w.cell? ⟨bx, 0, none⟩ = some (.string s)) (hlt : bx < w.heap.size) :
    Calls Tryz.prog 54 #[.agg #[.string x.name, .int .i64 x.low, .int .i64 x.high], .pointer (some ⟨bx, 0, none⟩)] w fun e w' => e = .returned (.bool (sEq x.name s)) ∧ Below w.heap.size w w' := by
  go_enter Tryz.func54, Tryz.ntmps54
  go_wp2
  go_ret
  exact ⟨rfl, below_new _ _⟩

def IdxFRel (ns : List Nd) (s : ByteArray) (w : World) (i : Value) (wr : World) : Prop :=
  ∃ k : Nat, i = .int .i64 k ∧ k ≤ ns.length ∧ (∀ j (hj : j < ns.length), j < k → sEq ns[j].name s = false) ∧ Below w.heap.size w wr

set_option maxHeartbeats 400000 in
theorem indexFunc_any (v : Value) (ns : List Nd) (s : ByteArray) (bx : Nat) (w : World) (h : RowsAt encN 3 w v ns) (hbx : Box w bx [.string s]) :
    Calls Tryz.prog 53 #[v, .func (.func 54) #[] #[.pointer (some ⟨bx, 0, none⟩)]] w fun e w' => e = .returned (.int .i64 (nIdx ns s)) ∧ Below w.heap.size w w' := by
  have HR := hid h
  obtain ⟨_, a, cap, rfl, hc⟩ := h
  clear hc
  go_enter Tryz.func53, Tryz.ntmps53
  go_wp2
  go_loopw [8] (fun i wr => IdxFRel ns s w i wr) (fun i _ => ns.length - (intOf i).toNat)
  case atStart => exact ⟨0, rfl, by omega, fun j _ h => by omega, Below.refl _ _⟩
  case round =>
    obtain ⟨k, rfl, hk, hall, hbel⟩ := hrel
    have HA := hid hall
    clear hall
    by_cases hlt : k < ns.length
    · obtain ⟨b, off, rfl, hb, hcc⟩ := HR.out.at' (by omega)
      obtain ⟨c0, c1, c2⟩ := cellsN (hcc k hlt)
      have c0 := (hbel.cell (p := ⟨b, off + k * 3, none⟩) hb).trans c0
      have c1 := (hbel.cell (p := ⟨b, off + k * 3 + 1, none⟩) hb).trans c1
      have c2 := (hbel.cell (p := ⟨b, off + k * 3 + 2, none⟩) hb).trans c2
      have hbr := hbx.below hbel
      have HB := hid hbel
      clear hcc hbel HR
      go_wp2_with fail
      refine (nodeIndex1_any ns[k] s bx _ (hbr.2 0 (by simp)) hbr.1).mono ?_
      cases he : sEq ns[k].name s
      · have HE := hid he
        rintro e w1 ⟨rfl, b1⟩
        have HB1 := hid (HB.out.trans (b1.mono HB.out.size))
        clear b1 he
        go_wp2_with fail
        go_roundw
        case rel =>
          refine ⟨k + 1, by go_num, by omega, fun j hj hjk => ?_, HB1.out⟩
          rcases (by omega : j < k ∨ j = k) with h1 | rfl
          · exact HA.out j hj h1
          · exact HE.out
        case measure => simp [intOf]; omega
      · have HE := hid (nIdx_hit k hlt he HA.out)
        rintro e w1 ⟨rfl, b1⟩
        have HB1 := hid (HB.out.trans (b1.mono HB.out.size))
        clear b1 he
        go_wp2_with fail
        go_ret
        exact ⟨ret_int HE.out.symm, HB1.out⟩
    · have HE := hid (nIdx_miss (fun j hj => HA.out j hj (by omega)))
      have HB := hid hbel
      clear hbel
      go_wp2_with fail
      go_ret
      exact ⟨ret_int HE.out.symm, HB.out⟩

theorem nodeIndex_any (nv pv : Value) (ns : List Nd) (s : ByteArray) (w : World) (h : RowsAt encN 3 w nv ns) (hpv : ∃ a n c, pv = .slice a n c) :
    Calls Tryz.prog 41 #[.agg #[nv, pv], .string s] w fun e w' => e = .returned (.int .i64 (nIdx ns s)) ∧ Below w.heap.size w w' := by
  obtain ⟨a1, n1, k1, rfl⟩ := hpv
  obtain ⟨a0, k0, rfl⟩ := h.shape
  have hWb := ((Below.refl w.heap.size w).alloc (Nat.le_refl _) (.cells #[.slice a0 ns.length k0, .slice a1 n1 k1] 34)).alloc (by simp) (.cells #[.string s] 9)
  have h := h.below hWb
  have hbx := Box.new (w.alloc (.cells #[.slice a0 ns.length k0, .slice a1 n1 k1] 34)) #[.string s] 9
  rw [World.size_alloc] at hbx
  have hmf : ∀ (fn : Fn) (first cap : Array Value) (w : World), (Instr.makeFunc fn first cap).run Tryz.prog w = .ok (.func fn first cap) w := fun _ _ _ _ => rfl
  go_enter Tryz.func41, Tryz.ntmps41
  go_wp2_with fail
  refine (indexFunc_any _ ns s _ _ h hbx).mono ?_
  rintro e w1 ⟨rfl, b1⟩
  have hz : -1 ≤ nIdx ns s := by rcases nIdx_cases ns s with ⟨h, _⟩ | ⟨k, _, h, _⟩ <;> omega
  have HB := hid (hWb.trans (b1.mono (by simp; omega)))
  clear hWb b1
  go_wp2_with fail
  go_ret
  exact ⟨rfl, HB.out⟩

end Go.Proofs.YtdbgncinaacheaaGreatDoor
