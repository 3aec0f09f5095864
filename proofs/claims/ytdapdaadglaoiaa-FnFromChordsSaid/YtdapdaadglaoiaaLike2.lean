/- Turning a pipe twice; a network without a pipe (plain). likeInts, hasInt. -/
import Derived.Test.YtdapdaadglaoiaaCut
import Derived.Test.YtdapdaadglaoiaaBridge
import Derived.Test.YtdapdaadglaoiaaPipesAt
import Derived.Test.YtdapdaadglaoiaaHas
import Derived.Test.YtdapdaadglaoiaaEx
namespace Go.Proofs.Ytdapdaadglaoiaa
open Go.RowKit

theorem OutN.eq {f : Nat} {args : Array Value} {w : World} {p : Net × Int} {T : Net} {c : Int} (h : Calls Try.prog f args w (OutN w p)) (E : p = (T, c)) :
    Calls Try.prog f args w fun e w' => ∃ nv pv, e = .returned (.tuple #[.agg #[nv, pv], .int .i64 c]) ∧ NetApart w.heap.size w'.heap.size w' nv pv T ∧ (CapOk nv ∧ CapOk pv) ∧ Below w.heap.size w w' := by
  subst E; exact h
theorem OutI.eq {f : Nat} {args : Array Value} {w : World} {p : List Int × Int} {T : List Int} {c : Int} (h : Calls Try.prog f args w (OutI w p)) (E : p = (T, c)) :
    Calls Try.prog f args w fun e w' => ∃ r, e = .returned (.tuple #[r, .int .i64 c]) ∧ Slc (fun b => w.heap.size ≤ b ∧ b < w'.heap.size) w' r T ∧ Below w.heap.size w w' := by
  subst E; exact h
theorem pipeB_turn (m : Nat) (p : Pp) : pipeB m (turnP p) = pipeB m p := by
  have h : (p.to == p.fr) = (p.fr == p.to) := by
    rw [Bool.eq_iff_iff, beq_iff_eq, beq_iff_eq]; exact ⟨Eq.symm, Eq.symm⟩
  unfold pipeB turnP
  rw [h, Bool.and_comm (inB p.to 0 _)]
theorem netB_turn {n : Net} (hb : netB n = true) (k : Nat) (hk : k < n.pipes.length) : netB (turnN n k) = true := by
  obtain ⟨h1, h2, h3, h4, h5⟩ := netB_t hb
  refine netB_mk h1 h2 (by simpa [turnN] using h3) h4 ?_
  refine pipesB_mk (fun i hi => ?_)
  have hi' : i < n.pipes.length := by simpa [turnN] using hi
  simp only [turnN, List.getElem_set]
  split
  · rw [pipeB_turn]
    have : n.pipes.getD k zP = n.pipes[k] := by simp [List.getD, hk]
    rw [this]; exact pipesB_at h5 k hk
  · exact pipesB_at h5 i hi'
theorem turn_turn {n : Net} {x : Int} (h : codeOf n n.pipes.length x = 0) : tpR n x = (turnN n x.toNat, 0) ∧ tpR (turnN n x.toNat) x = (n, 0) ∧ wpR n x = (dropNet n x.toNat, 0) ∧ (dropNet n x.toNat).pipes.length + 1 = n.pipes.length := by
  obtain ⟨hb, h0, h1⟩ := codeOf_zero h
  have hk : x.toNat < n.pipes.length := by omega
  have hl : (turnN n x.toNat).pipes.length = n.pipes.length := by simp [turnN]
  have hc : codeOf (turnN n x.toNat) (turnN n x.toNat).pipes.length x = 0 := by
    unfold codeOf at h ⊢
    rw [hb] at h
    rw [netB_turn hb _ hk, hl]
    exact h
  refine ⟨by rw [tpR, if_pos h], ?_, by rw [wpR, if_pos h], ?_⟩
  · rw [tpR, if_pos hc]
    have : turnN (turnN n x.toNat) x.toNat = n := by
      cases n with
      | mk ns ps =>
        have hk' : x.toNat < ps.length := hk
        simp only [turnN, List.getD, List.getElem?_eq_getElem hk', Option.getD_some, turnP, List.getElem?_set_self hk', List.set_set]
        congr 1
        exact List.set_getElem_self hk'
    rw [this]
  · simp only [dropNet, List.length_append, List.length_take, List.length_drop]; omega

end Go.Proofs.Ytdapdaadglaoiaa

namespace Go.Proofs.Ytdapdaadglaoiaa
open Go.RowKit

set_option maxHeartbeats 400000 in
theorem likeInts_any (v u : Value) (zs ys : List Int) (w : World) (h : Ints .i64 w v zs) (h' : Ints .i64 w u ys) :
    Calls Try.prog 30 #[v, u] w fun e w' => e = .returned (.bool (decide (zs = ys))) ∧ ∃ n, w' = w.drewN n := by
  obtain ⟨hm, a, cap, rfl, hc⟩ := h
  obtain ⟨hm', a', cap', rfl, hc'⟩ := h'
  have HC := hid hc
  have HC' := hid hc'
  clear hc hc'
  by_cases hl : zs.length = ys.length
  case neg =>
    have hd : Hid (decide (zs = ys) = false) := by
      apply decide_eq_false; intro e; exact hl (by rw [e])
    have hb : ((zs.length : Int) != (ys.length : Int)) = true := by rw [bne_iff_ne]; omega
    go_enter Try.func30, Try.ntmps30
    go_wp2
    go_ret
    exact ⟨ret_bool hd.out.symm, 0, rfl⟩
  have hb : ((zs.length : Int) != (ys.length : Int)) = false := by simp [hl]
  have HL := hid hl
  clear hl
  go_enter Try.func30, Try.ntmps30
  go_wp2
  go_loopw [5] (fun i wr => EqRel zs ys w i wr) (fun i _ => zs.length - (intOf i).toNat)
  case atStart => exact ⟨0, 0, rfl, by omega, rfl, rfl⟩
  case round =>
    obtain ⟨k, m, rfl, hk, ht, rfl⟩ := hrel
    have HT := hid ht
    clear ht
    by_cases hlt : k < zs.length
    · have hlt2 : k < ys.length := by have := HL.out; omega
      obtain ⟨b, off, rfl, hcc⟩ := HC.out.resolve_left (by intro e; simp [e] at hlt)
      obtain ⟨b', off', rfl, hcc'⟩ := HC'.out.resolve_left (by intro e; simp [e] at hlt2)
      clear HC HC'
      have hcell := hcc k hlt
      have hcell' := hcc' k hlt2
      clear hcc hcc'
      have hlti : (k : Int) < ys.length := by omega
      have hlti2 : (k : Int) < zs.length := by omega
      go_wp2
      go_quiet (fail)
      by_cases he : zs[k] = ys[k]
      · have HE := hid he
        have hb2 : (zs[k] != ys[k]) = false := by simp [he]
        clear he
        go_wp2
        go_roundw
        case rel => exact ⟨k + 1, _, by go_num, by omega, take_succ_eq hlt hlt2 HT.out HE.out, rfl⟩
        case measure => simp [intOf]; omega
      · have hb2 : (zs[k] != ys[k]) = true := by simp [he]
        have hd : Hid (decide (zs = ys) = false) := by
          apply decide_eq_false; intro e; apply he; subst e; rfl
        clear he
        go_wp2
        go_ret
        exact ⟨ret_bool hd.out.symm, _, by rw [World.drewN_drewN]⟩
    · have hd : Hid (decide (zs = ys) = true) := by
        apply decide_eq_true
        have h1 := HT.out
        have h2 := HL.out
        rw [List.take_of_length_le (by omega), List.take_of_length_le (by omega)] at h1
        exact h1
      go_wp2
      go_ret
      exact ⟨ret_bool hd.out.symm, m, rfl⟩


theorem likeInts_b (v u : Value) (zs ys : List Int) (w : World) (h : Ints .i64 w v zs) (h' : Ints .i64 w u ys) :
    Calls Try.prog 30 #[v, u] w fun e w' => e = .returned (.bool (decide (zs = ys))) ∧ Below w.heap.size w w' :=
  (likeInts_any v u zs ys w h h').mono fun e w' ⟨he, n, hn⟩ => ⟨he, by rw [hn]; exact ⟨rfl, rfl, rfl, Nat.le_refl _, fun _ _ => rfl⟩⟩
theorem likeInts_t (v u : Value) (zs : List Int) (w : World) (h : Ints .i64 w v zs) (h' : Ints .i64 w u zs) :
    Calls Try.prog 30 #[v, u] w fun e w' => e = .returned (.bool true) ∧ Below w.heap.size w w' :=
  (likeInts_b v u zs zs w h h').mono fun e w' ⟨he, hb⟩ => ⟨by rw [he]; simp, hb⟩


set_option maxHeartbeats 1000000 in
set_option maxRecDepth 100000 in
theorem hasInt_any (P : Nat → Prop) (v : Value) (zs : List Int) (x : Int) (w : World) (h : Slc P w v zs) :
    Calls Try.prog 27 #[v, .int .i64 x] w fun e w' => e = .returned (.bool (zs.contains x)) ∧ Below w.heap.size w w' := by
  have hm := h.1
  obtain ⟨_, a, cap, rfl, h⟩ := h
  have HS := hid h
  clear h
  go_enter Try.func27, Try.ntmps27
  go_wp2_with fail
  go_loopw [5] (fun i wr => ∃ k : Nat, i = .int .i64 k ∧ k ≤ zs.length ∧ (zs.take k).contains x = false ∧ Below w.heap.size w wr) (fun i _ => zs.length - (intOf i).toNat)
  case atStart => exact ⟨0, rfl, by omega, by simp, Below.refl _ _⟩
  case round =>
    obtain ⟨k, rfl, hk, hno, hb⟩ := hrel
    by_cases hlt : k < zs.length
    · rcases HS.out with h0 | ⟨b, off, rfl, _, _, hc⟩
      · rw [h0] at hlt; simp at hlt
      have hbl : b < w.heap.size := by
        have := hc k hlt
        rcases Nat.lt_or_ge b w.heap.size with h1 | h1
        · exact h1
        · simp [World.cell?, Array.getElem?_eq_none h1] at this
      have q0 := (hb.cell (p := ⟨b, off + k, none⟩) hbl).trans (hc k hlt)
      have HB := hid hb
      have hkI : (k : Int) < zs.length := by omega
      by_cases he : zs[k] = x
      · have hr : Hid (zs.contains x = true) := by
          rw [Hid, List.contains_iff_mem, ← he]; exact List.getElem_mem _
        rw [he] at q0
        clear hb hc he
        go_wp2_with fail
        go_ret
        rw [hr.out]
        exact ⟨rfl, HB.out⟩
      · have hr : Hid ((zs.take (k + 1)).contains x = false) := by
          rw [Hid, List.take_succ_eq_append_getElem hlt]
          simp only [List.contains_append, hno, Bool.false_or]
          have hx : (x == zs[k]) = false := by simp; exact fun h => he h.symm
          simp [List.contains, List.elem, hx]
        have hne : (zs[k] == x) = false := by simp [he]
        clear hb hc
        go_wp2_with fail
        go_roundw
        case rel => exact ⟨k + 1, by go_num, by omega, hr.out, HB.out⟩
        case measure => simp [intOf]; omega
    · obtain rfl : k = zs.length := by omega
      rw [List.take_length] at hno
      have hr : Hid (zs.contains x = false) := hno
      have HB := hid hb
      clear hb hno
      go_wp2_with fail
      go_ret
      rw [hr.out]
      exact ⟨rfl, HB.out⟩




end Go.Proofs.Ytdapdaadglaoiaa
