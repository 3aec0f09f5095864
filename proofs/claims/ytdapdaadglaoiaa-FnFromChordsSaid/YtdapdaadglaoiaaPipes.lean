/- pipesAt, l02At: the pipes at a node. -/
import Derived.Test.YtdapdaadglaoiaaCode
import Derived.Test.YtdapdaadglaoiaaOwn
namespace Go.Proofs.Ytdapdaadglaoiaa
open Go.RowKit

/-- The indices below k of the pipes with f. -/
def selP (f : Pp → Bool) (ps : List Pp) (k : Nat) : List Int := ((List.range k).filter (fun i => f (ps.getD i zP))).map (fun i : Nat => (i : Int))
theorem selP_succ (f : Pp → Bool) (ps : List Pp) (k : Nat) (h : k < ps.length) : selP f ps (k + 1) = selP f ps k ++ (if f ps[k] = true then [(k : Int)] else []) := by
  have e : ps.getD k zP = ps[k] := by simp [List.getD, h]
  unfold selP
  rw [List.range_succ, List.filter_append, List.map_append]
  congr 1
  by_cases hf : f ps[k] = true
  · rw [if_pos hf, List.filter_cons, e, if_pos hf]; rfl
  · rw [if_neg hf, List.filter_cons, e, if_neg hf]; rfl
theorem selP_len (f : Pp → Bool) (ps : List Pp) (k : Nat) : (selP f ps k).length ≤ k := by
  unfold selP
  rw [List.length_map]
  exact Nat.le_trans (List.length_filter_le _ _) (by simp)
def atF (v : Int) (p : Pp) : Bool := p.fr == v || p.to == v
def PaRel (f : Pp → Bool) (ps : List Pp) (w : World) (i s : Value) (wr : World) : Prop :=
  ∃ k : Nat, i = .int .i64 k ∧ k ≤ ps.length ∧ OwnI 2 w.heap.size wr s (selP f ps k) ∧ Below w.heap.size w wr

def PsRel (f : Pp → Bool) (ps : List Pp) (w : World) (l : List Value) (i s : Value) (wr : World) : Prop :=
  ∃ k : Nat, i = .int .i64 k ∧ k ≤ ps.length ∧ OwnI 2 w.heap.size wr s (selP f ps k) ∧ Below w.heap.size w wr ∧ Box wr w.heap.size l ∧ ¬ s.ownBlock = some w.heap.size

set_option maxHeartbeats 1000000 in
theorem pipesAt_any (nv pv : Value) (n : Net) (v : Int) (w : World) (h : NetAt w nv pv n) (hp40 : n.pipes.length ≤ 1000) :
    Calls Try.prog 105 #[.agg #[nv, pv], .int .i64 v] w fun e w' => ∃ r, e = .returned r ∧ Slc (fun b => w.heap.size ≤ b ∧ b < w'.heap.size) w' r (selP (atF v) n.pipes n.pipes.length) ∧ Below w.heap.size w w' := by
  obtain ⟨a0, k0, rfl⟩ := h.1.shape
  obtain ⟨a1, k1, rfl⟩ := h.2.2.shape
  have HP := hid h.2.2
  have hWb := hid (below_new w (.cells #[.slice a0 n.nodes.length k0, .slice a1 n.pipes.length k1] 27))
  clear h
  go_enter Try.func105, Try.ntmps105
  go_wp2_with fail
  go_loopw [11, 5] (fun i s wr => PaRel (atF v) n.pipes w i s wr) (fun i _ _ => n.pipes.length - (intOf i).toNat)
  case atStart => exact ⟨0, rfl, by omega, OwnI.nil _ _ _, hWb.out⟩
  case round =>
    obtain ⟨k, rfl, hk, hown, hbel⟩ := hrel
    have HO := hid hown
    have hsz := hbel.size
    have HB := hid hbel
    by_cases hlt : k < n.pipes.length
    · have hsucc := selP_succ (atF v) n.pipes k hlt
      have hlen := selP_len (atF v) n.pipes k
      obtain ⟨b, off, rfl, hb, hcc⟩ := (HP.out.below hbel).at' (by omega)
      obtain ⟨c0, c1, c2, c3, c4⟩ := cellsP (hcc k hlt)
      clear hcc hown hbel
      cases hf : atF v n.pipes[k]
      · have hS : Hid (selP (atF v) n.pipes (k + 1) = selP (atF v) n.pipes k) := by rw [hf] at hsucc; simpa [Hid] using hsucc
        have hf' : (n.pipes[k].fr == v) = false ∧ (n.pipes[k].to == v) = false := by simpa [atF] using hf
        obtain ⟨f1, f2⟩ := hf'
        clear hsucc hf
        go_wp2_with fail
        go_roundw
        case rel => exact ⟨k + 1, by go_num, by omega, by rw [hS.out]; exact HO.out.alloc _, HB.out.alloc hsz _⟩
        case measure => simp [intOf]; omega
      · have hS : Hid (selP (atF v) n.pipes (k + 1) = selP (atF v) n.pipes k ++ [(k : Int)]) := by rw [hf] at hsucc; simpa [Hid] using hsucc
        have hf' : (n.pipes[k].fr == v) = true ∨ ((n.pipes[k].fr == v) = false ∧ (n.pipes[k].to == v) = true) := by
          cases h1 : (n.pipes[k].fr == v)
          · right; refine ⟨rfl, ?_⟩; simpa [atF, h1] using hf
          · left; rfl
        clear hsucc hf
        rcases hf' with f1 | ⟨f1, f2⟩
        all_goals
          go_wp2_with (at_builtin; refine wpList_app1 rfl (.tmp 26) (.tmp 28) rfl w.heap.size u5 _ rfl ((HO.out.alloc _).alloc _) (wr.heap.size + 1) (k : Int) rfl ?c1 ?c2 ?c3 ?_)
          case c1 => simp
          case c2 => omega
          case c3 => simp; omega
          intro v1 w1 hv1 hk1 hb1
          have HV1 := hid hv1
          have HB1 := hid (((HB.out.alloc hsz _).alloc (by simp; omega) _).trans (hk1.below (by simp; omega) (fun b h => (HO.out.lt b h).1)))
          clear hv1 hk1 hb1
          go_wp2_with fail
          go_roundw
          case rel => exact ⟨k + 1, by go_num, by omega, by rw [hS.out]; exact HV1.out, HB1.out⟩
          case measure => simp [intOf]; omega
    · obtain rfl : k = n.pipes.length := by omega
      have hlen := selP_len (atF v) n.pipes n.pipes.length
      clear hown hbel
      go_wp2_with fail
      go_ret
      exact ⟨_, rfl, HO.out.slc (by omega), HB.out⟩

set_option maxHeartbeats 1000000 in
theorem l02At_any (nv pv : Value) (n : Net) (v : Int) (w : World) (h : NetAt w nv pv n) (hp40 : n.pipes.length ≤ 1000) :
    Calls Try.prog 110 #[.agg #[nv, pv], .int .i64 v] w fun e w' => ∃ r, e = .returned r ∧ Slc (fun b => w.heap.size ≤ b ∧ b < w'.heap.size) w' r (selP (atF v) n.pipes n.pipes.length) ∧ Below w.heap.size w w' := by
  obtain ⟨a0, k0, rfl⟩ := h.1.shape
  obtain ⟨a1, k1, rfl⟩ := h.2.2.shape
  have HP := hid h.2.2
  have hWb := hid (below_new w (.cells #[.slice a0 n.nodes.length k0, .slice a1 n.pipes.length k1] 27))
  have hbx := hid (Box.new w #[.slice a0 n.nodes.length k0, .slice a1 n.pipes.length k1] 27)
  clear h
  go_enter Try.func110, Try.ntmps110
  go_wp2_with fail
  go_loopw [6, 5] (fun i s wr => PsRel (atF v) n.pipes w [.slice a0 n.nodes.length k0, .slice a1 n.pipes.length k1] i s wr) (fun i _ _ => n.pipes.length - (intOf i).toNat)
  case atStart =>
    refine ⟨0, rfl, by omega, ?_, hWb.out.alloc hWb.out.size _, hbx.out.below (below_new _ _), ?_⟩
    · have := OwnI.made 2 w.heap.size (w.alloc (.cells #[.slice a0 n.nodes.length k0, .slice a1 n.pipes.length k1] 27)) (by simp)
      rw [World.size_alloc] at this
      exact this
    · intro e
      simp [Value.ownBlock] at e
  case round =>
    obtain ⟨k, rfl, hk, hown, hbel, hbox, hnb⟩ := hrel
    obtain ⟨x0, x1⟩ := hbox.two
    have hx := hbox.1
    have HO := hid hown
    have hsz := hbel.size
    have HB := hid hbel
    have HX := hid hbox
    have HN := hid hnb
    by_cases hlt : k < n.pipes.length
    · have hsucc := selP_succ (atF v) n.pipes k hlt
      have hlen := selP_len (atF v) n.pipes k
      obtain ⟨b, off, rfl, hb, hcc⟩ := (HP.out.below hbel).at' (by omega)
      obtain ⟨c0, c1, c2, c3, c4⟩ := cellsP (hcc k hlt)
      clear hcc hown hbel hbox hnb
      cases hf : atF v n.pipes[k]
      · have hS : Hid (selP (atF v) n.pipes (k + 1) = selP (atF v) n.pipes k) := by rw [hf] at hsucc; simpa [Hid] using hsucc
        have hf' : (n.pipes[k].fr == v) = false ∧ (n.pipes[k].to == v) = false := by simpa [atF] using hf
        obtain ⟨f1, f2⟩ := hf'
        clear hsucc hf
        go_wp2_with fail
        go_roundw
        case rel => exact ⟨k + 1, by go_num, by omega, by rw [hS.out]; exact HO.out, HB.out, HX.out, HN.out⟩
        case measure => simp [intOf]; omega
      · have hS : Hid (selP (atF v) n.pipes (k + 1) = selP (atF v) n.pipes k ++ [(k : Int)]) := by rw [hf] at hsucc; simpa [Hid] using hsucc
        have hf' : (n.pipes[k].fr == v) = true ∨ ((n.pipes[k].fr == v) = false ∧ (n.pipes[k].to == v) = true) := by
          cases h1 : (n.pipes[k].fr == v)
          · right; refine ⟨rfl, ?_⟩; simpa [atF, h1] using hf
          · left; rfl
        clear hsucc hf
        rcases hf' with f1 | ⟨f1, f2⟩
        all_goals
          go_wp2_with (at_builtin; refine wpList_app1 rfl (.tmp 33) (.tmp 35) rfl w.heap.size u5 _ rfl (HO.out.alloc _) wr.heap.size (k : Int) rfl ?c1 ?c2 ?c3 ?_)
          case c1 => simp
          case c2 => omega
          case c3 => simp; omega
          intro v1 w1 hv1 hk1 hb1
          have HV1 := hid hv1
          have HB1 := hid ((HB.out.alloc hsz _).trans (hk1.below (by simp; omega) (fun b h => (HO.out.lt b h).1)))
          have HX1 := hid ((HX.out.below (below_new _ _)).kept hk1 HN.out)
          have HN1 : Hid (¬ v1.ownBlock = some w.heap.size) := by
            rcases hb1 with h1 | h1
            · rw [h1]; exact HN.out
            · intro e
              rw [h1] at e
              simp only [Option.some.injEq] at e
              omega
          clear hv1 hk1 hb1
          go_wp2_with fail
          go_roundw
          case rel => exact ⟨k + 1, by go_num, by omega, by rw [hS.out]; exact HV1.out, HB1.out, HX1.out, HN1.out⟩
          case measure => simp [intOf]; omega
    · obtain rfl : k = n.pipes.length := by omega
      have hlen := selP_len (atF v) n.pipes n.pipes.length
      clear hown hbel hbox hnb
      go_wp2_with fail
      go_ret
      exact ⟨_, rfl, HO.out.slc (by omega), HB.out⟩

end Go.Proofs.Ytdapdaadglaoiaa
