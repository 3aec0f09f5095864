/- TurnPipe and RenameNode of both sides. A drawn region's condition may be made stronger on the way. -/
import Derived.Test.YtdbgncinaacheaaGreatDoorDrW
import Derived.Test.YtdbgncinaacheaaGreatDoorPipesAt
import Derived.Test.YtdbgncinaacheaaGreatDoorBase
import Derived.Deep.RegionHeld3
namespace Go.Proofs.YtdbgncinaacheaaGreatDoor
open Go.RowKit

/-- What a function says that returns a network of its own and a code. -/
def OutN (w : World) (p : Net × Int) (e : Ending) (w' : World) : Prop :=
  ∃ nv pv, e = .returned (.tuple #[.agg #[nv, pv], .int .i64 p.2]) ∧ NetApart w.heap.size w'.heap.size w' nv pv p.1 ∧ (CapOk nv ∧ CapOk pv) ∧ Below w.heap.size w w'
def zNet : Net := ⟨[], []⟩
theorem NetApart.zero (B H : Nat) (w : World) : NetApart B H w (.slice none 0 0) (.slice none 0 0) zNet :=
  ⟨fun _ => False, fun _ => False, fun _ h => h.elim, fun _ h => h.elim, fun _ h => h.elim, RowsOwn.nil _ _ _ _, fun x h => by simp [zNet] at h, RowsOwn.nil _ _ _ _⟩
def turnP (p : Pp) : Pp := ⟨p.to, p.fr, p.k, p.vol, p.lim⟩
def turnN (n : Net) (k : Nat) : Net := ⟨n.nodes, n.pipes.set k (turnP (n.pipes.getD k zP))⟩
def tpR (n : Net) (x : Int) : Net × Int := if codeOf n n.pipes.length x = 0 then (turnN n x.toNat, 0) else (zNet, codeOf n n.pipes.length x)
theorem tpR_len (n : Net) (x : Int) (h1 : n.nodes.length ≤ 2000000) (h2 : n.pipes.length ≤ 2000000) : (tpR n x).1.nodes.length ≤ 2000000 ∧ (tpR n x).1.pipes.length ≤ 2000000 := by
  unfold tpR
  split
  · exact ⟨h1, by simpa [turnN] using h2⟩
  · simp [zNet]
theorem codeOf_zero {n : Net} {m : Nat} {x : Int} (h : codeOf n m x = 0) : netB n = true ∧ 0 ≤ x ∧ x < m := by
  unfold codeOf at h
  split at h
  · next hb =>
    split at h
    · next hx => have := inB_t hx; exact ⟨hb, by omega, by omega⟩
    · cases h
  · cases h
theorem RowsOwn.setP2 {X : Nat → Prop} {w : World} {b off n cap : Nat} {xs : List Pp} (h : RowsOwn encP 5 X w (.slice (some ⟨b, off, none⟩) n cap) xs) (i : Nat) (hi : i < xs.length) :
    RowsOwn encP 5 X ((w.setCell ⟨b, off + i * 5, none⟩ (.int .i64 xs[i].to)).setCell ⟨b, off + i * 5 + 1, none⟩ (.int .i64 xs[i].fr)) (.slice (some ⟨b, off, none⟩) n cap) (xs.set i (turnP xs[i])) := by
  obtain ⟨b', off', ha, hl, hx, hfr, hcc⟩ := h.at' (by omega)
  simp only [Option.some.injEq, Addr.mk.injEq, and_true] at ha
  obtain ⟨rfl, rfl⟩ := ha
  obtain ⟨c0, c1, c2, c3, c4⟩ := cellsP (hcc i hi)
  refine h.set_of (fun _ => rfl) i hi _ (cellsP_mk ?_ ?_ ?_ ?_ ?_) (fun o ho => ?_) (fun o => by simp) (by simp)
  · rw [cell_set_ne (by omega), cell_set_same c0]; rfl
  · rw [cell_set_same (by rw [cell_set_ne (by omega)]; exact c1)]; rfl
  · rw [cell_set_ne (by omega), cell_set_ne (by omega)]; exact c2
  · rw [cell_set_ne (by omega), cell_set_ne (by omega)]; exact c3
  · rw [cell_set_ne (by omega), cell_set_ne (by omega)]; exact c4
  · rw [cell_set_ne (by omega), cell_set_ne (by omega)]
theorem RowsOwn.setName {X : Nat → Prop} {w : World} {b off n cap : Nat} {xs : List Nd} (h : RowsOwn encN 3 X w (.slice (some ⟨b, off, none⟩) n cap) xs) (i : Nat) (hi : i < xs.length) (s : ByteArray) :
    RowsOwn encN 3 X (w.setCell ⟨b, off + i * 3, none⟩ (.string s)) (.slice (some ⟨b, off, none⟩) n cap) (xs.set i ⟨s, xs[i].low, xs[i].high⟩) := by
  obtain ⟨b', off', ha, hl, hx, hfr, hcc⟩ := h.at' (by omega)
  simp only [Option.some.injEq, Addr.mk.injEq, and_true] at ha
  obtain ⟨rfl, rfl⟩ := ha
  obtain ⟨c0, c1, c2⟩ := cellsN (hcc i hi)
  refine h.set_of (fun _ => rfl) i hi _ (cellsN_mk ?_ ?_ ?_) (fun o ho => ?_) (fun o => by simp) (by simp)
  · rw [cell_set_same c0]
  · rw [cell_set_ne (by omega)]; exact c1
  · rw [cell_set_ne (by omega)]; exact c2
  · rw [cell_set_ne (by omega)]

theorem cell_ne_block {w : World} {b b' : Nat} (h : b ≠ b') (o o' : Nat) (u : Value) : (w.setCell ⟨b, o, none⟩ u).cell? ⟨b', o', none⟩ = w.cell? ⟨b', o', none⟩ := cell_off2 (Or.inl h)
theorem box_two_set {w : World} {r : Nat} {x y x' y' : Value} (h0 : w.cell? ⟨r, 0, none⟩ = some x') (h1 : w.cell? ⟨r, 1, none⟩ = some y') : Box ((w.setCell ⟨r, 0, none⟩ x).setCell ⟨r, 1, none⟩ y) r [x, y] := by
  refine ⟨by simpa using World.block_lt_of_cell? (a := ⟨r, 0, none⟩) w h0, fun j hj => ?_⟩
  have hj' : j < 2 := by simpa using hj
  rcases (by omega : j = 0 ∨ j = 1) with rfl | rfl
  · exact (cell_off2 (Or.inr (by decide))).trans (World.cell?_setCell_same _ _ _ h0)
  · exact World.cell?_setCell_same _ _ _ ((cell_off2 (Or.inr (by decide))).trans h1)
/-- Two new blocks of two cells, in all later worlds. -/
theorem two_boxes {w W0 W : World} {x y x' y' : Value} {T T' : TypeId} (hW0 : W0 = (w.alloc (.cells #[x, y] T)).alloc (.cells #[x', y'] T')) (hW : Below W0.heap.size W0 W) :
    W.cell? ⟨w.heap.size, 0, none⟩ = some x ∧ W.cell? ⟨w.heap.size, 1, none⟩ = some y ∧ W.cell? ⟨w.heap.size + 1, 0, none⟩ = some x' ∧ W.cell? ⟨w.heap.size + 1, 1, none⟩ = some y' ∧ W.frozen? ⟨w.heap.size + 1, 0, none⟩ = false ∧ W.frozen? ⟨w.heap.size + 1, 1, none⟩ = false := by
  have hsz : W0.heap.size = w.heap.size + 1 + 1 := by rw [hW0]; simp
  rw [hsz] at hW
  have h1 : Below (w.heap.size + 1) (w.alloc (.cells #[x, y] T)) W := by
    have hn := below_new (w.alloc (.cells #[x, y] T)) (.cells #[x', y'] T')
    rw [World.size_alloc] at hn
    rw [hW0] at hW
    exact hn.trans (hW.mono (by omega))
  have e1 := box2_below h1
  rw [hW0] at hW
  rw [← World.size_alloc w (.cells #[x, y] T)] at hW
  have e2 := box2_below hW
  rw [World.size_alloc] at e2
  exact ⟨e1.1, e1.2.1, e2.1, e2.2.1, e2.2.2 0, e2.2.2 1⟩

end Go.Proofs.YtdbgncinaacheaaGreatDoor

namespace Go.Proofs.YtdbgncinaacheaaGreatDoor
open Go.RowKit

theorem wpAnyH_strong {P : Program} {md : Region.Mode} {ops : Array Oper} {Q : Exit → Act → World → Prop} {S S' : World → Prop} (hS : ∀ w, S' w → S w) :
    ∀ {fuel : Nat} {listed : Array Bool} {a : Act} {w : World}, wpAnyH P md ops Q S' fuel listed a w → wpAnyH P md ops Q S fuel listed a w
  | 0, _, _, _, h => h
  | _ + 1, _, _, _, h => ⟨h.1, fun i hi => wpOp_mono (fun _ w' h' => ⟨hS w' h'.1, wpAnyH_strong hS h'.2⟩) (h.2 i hi)⟩

end Go.Proofs.YtdbgncinaacheaaGreatDoor
