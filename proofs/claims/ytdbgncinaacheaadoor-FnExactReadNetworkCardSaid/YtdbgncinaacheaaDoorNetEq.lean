/- Helpers of the exact laws on networks: eqNetwork of equal networks says true. -/
import Derived.Test.YtdbgncinaacheaaDoorMark
import Derived.Deep.RegionWith
import Derived.BigQuiet
namespace Go.Proofs.YtdbgncinaacheaaDoor
open Go.RowKit

theorem eqNode_t (x : Nd) (w : World) :
    Calls Tryd.prog 41 #[.agg #[.string x.name, .int .i64 x.low, .int .i64 x.high], .agg #[.string x.name, .int .i64 x.low, .int .i64 x.high]] w fun e w' => e = .returned (.bool true) ∧ Below w.heap.size w w' := by
  go_enter Tryd.func41, Tryd.ntmps41
  go_wp2
  go_ret
  exact ⟨rfl, ((Below.refl _ _).alloc (Nat.le_refl _) _).alloc (by simp) _⟩

theorem eqPipe_t (x : Pp) (w : World) :
    Calls Tryd.prog 91 #[.agg #[.int .i64 x.fr, .int .i64 x.to, .int .i64 x.k, .int .i64 x.vol, .int .i64 x.lim], .agg #[.int .i64 x.fr, .int .i64 x.to, .int .i64 x.k, .int .i64 x.vol, .int .i64 x.lim]] w fun e w' => e = .returned (.bool true) ∧ Below w.heap.size w w' := by
  go_enter Tryd.func91, Tryd.ntmps91
  go_wp2
  go_ret
  exact ⟨rfl, ((Below.refl _ _).alloc (Nat.le_refl _) _).alloc (by simp) _⟩

def EqSRel (n : Nat) (w : World) (i : Value) (wr : World) : Prop := ∃ k : Nat, i = .int .i64 k ∧ k ≤ n ∧ Below w.heap.size w wr


set_option maxHeartbeats 400000 in
theorem eqNodeS_t (v u : Value) (xs : List Nd) (w : World) (h : RowsAt encN 3 w v xs) (h' : RowsAt encN 3 w u xs) :
    Calls Tryd.prog 50 #[v, u] w fun e w' => e = .returned (.bool true) ∧ Below w.heap.size w w' := by
  have HR := hid h
  have HR' := hid h'
  obtain ⟨_, a, cap, rfl, hc⟩ := h
  obtain ⟨_, a', cap', rfl, hc'⟩ := h'
  clear hc hc'
  go_enter Tryd.func50, Tryd.ntmps50
  go_wp2
  go_loopw [5] (fun i wr => EqSRel xs.length w i wr) (fun i _ => xs.length - (intOf i).toNat)
  case atStart => exact ⟨0, rfl, by omega, Below.refl _ _⟩
  case round =>
    obtain ⟨k, rfl, hk, hbel⟩ := hrel
    by_cases hlt : k < xs.length
    · obtain ⟨b, off, rfl, hb, hcc⟩ := HR.out.at' (by omega)
      obtain ⟨b', off', rfl, hb', hcc'⟩ := HR'.out.at' (by omega)
      obtain ⟨c0, c1, c2⟩ := cellsN (hcc k hlt)
      have c0 := (hbel.cell (p := ⟨b, off + k * 3, none⟩) hb).trans c0
      have c1 := (hbel.cell (p := ⟨b, off + k * 3 + 1, none⟩) hb).trans c1
      have c2 := (hbel.cell (p := ⟨b, off + k * 3 + 2, none⟩) hb).trans c2
      obtain ⟨d0, d1, d2⟩ := cellsN (hcc' k hlt)
      have d0 := (hbel.cell (p := ⟨b', off' + k * 3, none⟩) hb').trans d0
      have d1 := (hbel.cell (p := ⟨b', off' + k * 3 + 1, none⟩) hb').trans d1
      have d2 := (hbel.cell (p := ⟨b', off' + k * 3 + 2, none⟩) hb').trans d2
      have hlti : (k : Int) < xs.length := by omega
      have HB := hid hbel
      clear hcc hcc' hbel HR HR'
      go_wp2_with fail
      go_region_with ((go_at_call 41; refine (eqNode_t xs[k] _).mono ?_; rintro e w1 ⟨rfl, b1⟩))
      all_goals
        have HB1 := hid (HB.out.trans ((below_undrew b1).mono HB.out.size))
        clear b1
        go_wp2_with fail
        go_roundw
        case rel => exact ⟨k + 1, by go_num, by omega, HB1.out⟩
        case measure => simp [intOf]; omega
    · have HB := hid hbel
      clear hbel
      go_wp2_with fail
      go_ret
      exact ⟨rfl, HB.out⟩

set_option maxHeartbeats 400000 in
theorem eqPipeS_t (v u : Value) (xs : List Pp) (w : World) (h : RowsAt encP 5 w v xs) (h' : RowsAt encP 5 w u xs) :
    Calls Tryd.prog 51 #[v, u] w fun e w' => e = .returned (.bool true) ∧ Below w.heap.size w w' := by
  have HR := hid h
  have HR' := hid h'
  obtain ⟨_, a, cap, rfl, hc⟩ := h
  obtain ⟨_, a', cap', rfl, hc'⟩ := h'
  clear hc hc'
  go_enter Tryd.func51, Tryd.ntmps51
  go_wp2
  go_loopw [5] (fun i wr => EqSRel xs.length w i wr) (fun i _ => xs.length - (intOf i).toNat)
  case atStart => exact ⟨0, rfl, by omega, Below.refl _ _⟩
  case round =>
    obtain ⟨k, rfl, hk, hbel⟩ := hrel
    by_cases hlt : k < xs.length
    · obtain ⟨b, off, rfl, hb, hcc⟩ := HR.out.at' (by omega)
      obtain ⟨b', off', rfl, hb', hcc'⟩ := HR'.out.at' (by omega)
      obtain ⟨c0, c1, c2, c3, c4⟩ := cellsP (hcc k hlt)
      have c0 := (hbel.cell (p := ⟨b, off + k * 5, none⟩) hb).trans c0
      have c1 := (hbel.cell (p := ⟨b, off + k * 5 + 1, none⟩) hb).trans c1
      have c2 := (hbel.cell (p := ⟨b, off + k * 5 + 2, none⟩) hb).trans c2
      have c3 := (hbel.cell (p := ⟨b, off + k * 5 + 3, none⟩) hb).trans c3
      have c4 := (hbel.cell (p := ⟨b, off + k * 5 + 4, none⟩) hb).trans c4
      obtain ⟨d0, d1, d2, d3, d4⟩ := cellsP (hcc' k hlt)
      have d0 := (hbel.cell (p := ⟨b', off' + k * 5, none⟩) hb').trans d0
      have d1 := (hbel.cell (p := ⟨b', off' + k * 5 + 1, none⟩) hb').trans d1
      have d2 := (hbel.cell (p := ⟨b', off' + k * 5 + 2, none⟩) hb').trans d2
      have d3 := (hbel.cell (p := ⟨b', off' + k * 5 + 3, none⟩) hb').trans d3
      have d4 := (hbel.cell (p := ⟨b', off' + k * 5 + 4, none⟩) hb').trans d4
      have hlti : (k : Int) < xs.length := by omega
      have HB := hid hbel
      clear hcc hcc' hbel HR HR'
      go_wp2_with fail
      go_region_with ((go_at_call 91; refine (eqPipe_t xs[k] _).mono ?_; rintro e w1 ⟨rfl, b1⟩))
      all_goals
        have HB1 := hid (HB.out.trans ((below_undrew b1).mono HB.out.size))
        clear b1
        go_wp2_with fail
        go_roundw
        case rel => exact ⟨k + 1, by go_num, by omega, HB1.out⟩
        case measure => simp [intOf]; omega
    · have HB := hid hbel
      clear hbel
      go_wp2_with fail
      go_ret
      exact ⟨rfl, HB.out⟩

theorem eqNetwork_t (nv pv nv' pv' : Value) (n : Net) (w : World) (h : NetAt w nv pv n) (h' : NetAt w nv' pv' n) :
    Calls Tryd.prog 16 #[.agg #[nv, pv], .agg #[nv', pv']] w fun e w' => e = .returned (.bool true) ∧ Below w.heap.size w w' := by
  have hWb := ((Below.refl w.heap.size w).alloc (Nat.le_refl _) (.cells #[nv, pv] 25)).alloc (by simp) (.cells #[nv', pv'] 25)
  have h := h.below hWb
  have h' := h'.below hWb
  obtain ⟨a1, k1, e1⟩ := h.1.shape
  obtain ⟨a2, k2, e2⟩ := h.2.2.shape
  obtain ⟨a3, k3, e3⟩ := h'.1.shape
  obtain ⟨a4, k4, e4⟩ := h'.2.2.shape
  subst e1 e2 e3 e4
  go_enter Tryd.func16, Tryd.ntmps16
  go_wp2_with fail
  refine (eqNodeS_t _ _ n.nodes _ h.1 h'.1).mono ?_
  rintro e w1 ⟨rfl, b1⟩
  have hp := h.2.2.below b1
  have hp' := h'.2.2.below b1
  have hs1 := b1.size
  obtain ⟨hc, hf⟩ := bcell b1
  simp only [World.size_alloc] at hc hs1
  have HB := hid (hWb.trans (b1.mono (by simp; omega)))
  clear hf b1 h h' hWb
  go_wp2_with fail
  refine (eqPipeS_t _ _ n.pipes _ hp hp').mono ?_
  rintro e w2 ⟨rfl, b2⟩
  go_wp2_with fail
  go_ret
  exact ⟨rfl, HB.out.trans (b2.mono HB.out.size)⟩

end Go.Proofs.YtdbgncinaacheaaDoor
