/- 'FnExactIsTree' is proved: the law returns true for every input. The frame follows the kit's proof-skeleton. -/
import Derived.Test.YtogkmhedohmocaaRows
import Derived.WalkKit
import Derived.ProofKit
import Derived.OpenShut
import Derived.ShutString
import Derived.ChangeOld
import Derived.Below
import Derived.Test.YtogkmhedohmocaaOpen
import Derived.Test.YtogkmhedohmocaaConn
import Derived.Test.YtogkmhedohmocaaNetEq
namespace Go.Proofs.Ytogkmhedohmocaa.fnExactIsTree
open Go.ChangeShapes Go.WideShapes Go.ChangeAt Go.RowKit
open Go.ChangeMaps (open_string shut_string)
open Go.Joins
set_option linter.unusedVariables false

theorem own : ownKnob Try.prog.godebug = none := by kernel_rfl
theorem laidOut : laidOutB Try.prog = true := by kernel_rfl

set_option maxRecDepth 100000 in
theorem open_net {H : Type} {enc : TypeId × Value → H} {W : World} {base : Nat} {v : Value} {d : DataW H} {p : List MemPlace} (hv : Value.okWide Try.prog W .any base 25 v) (h : DataW.Trod enc Try.prog W 0 (fun _ => true) true 25 v d p) :
    ∃ nv pv n, v = .agg #[nv, pv] ∧ NetAt W nv pv n := by
  obtain ⟨v0, v1, y0, y1, m, rfl, _, _, h0, h1⟩ := open_agg2 Try.underlying25 (by kernel_rfl) (by kernel_rfl) hv h
  obtain ⟨ns, hn, hq⟩ := open_rows encN 3 (by decide) (fun _ => rfl) (fun x => x.name.size ≤ 9223372036854775807) Try.underlying22 (by kernel_rfl) (node_cells Try.underlying92 rfl rfl rfl (by kernel_rfl) (by kernel_rfl) (by kernel_rfl) Try.underlying9 Try.underlying2 Try.underlying2) h0
  obtain ⟨ps, hp, _⟩ := open_rows encP 5 (by decide) (fun _ => rfl) (fun _ => True) Try.underlying23 (by kernel_rfl) (pipe_cells Try.underlying98 rfl rfl rfl rfl rfl (by kernel_rfl) (by kernel_rfl) (by kernel_rfl) (by kernel_rfl) (by kernel_rfl) Try.underlying2 Try.underlying2 Try.underlying2 Try.underlying2 Try.underlying2) h1
  exact ⟨v0, v1, ⟨ns, ps⟩, rfl, hn, hq, hp⟩


set_option maxHeartbeats 1000000 in
theorem walk (nv0 pv0 : Value) (n0 : Net) (w : World) (w0 : NetAt w nv0 pv0 n0) :
    Calls Try.prog 4 #[.agg #[nv0, pv0]] w fun e w' => e = .returned (.bool true) ∧ Below w.heap.size w w' := by
  by_cases h : (netSz n0 : Int) ≤ 1048576
  · have hr : Hid (szL 1048576 (netSz n0) = 1048576 - netSz n0) := if_pos h
    have hneg : ¬ (1048576 - (netSz n0 : Int) < 0) := by omega
    have hl1 : n0.nodes.length ≤ 2000000 := by unfold netSz at h; omega
    have hl2 : n0.pipes.length ≤ 2000000 := by unfold netSz at h; omega
    have NA := w0.below (below_new w (.cells #[nv0, pv0] 25))
    go_enter Try.func4, Try.ntmps4
    go_wp2_with fail
    refine (szNetwork_any nv0 pv0 n0 1048576 _ NA (by omega) (by omega)).mono ?_
    rw [hr.out]
    rintro e w1 ⟨rfl, b1⟩
    have B := (below_new w _).trans (b1.mono (by simp))
    have bx := (Box.new w _ _).below b1
    have NA := NA.below b1
    obtain ⟨c0, c1⟩ := bx.two
    go_wp2_with fail
    refine (toNetwork_any nv0 pv0 n0 _ NA hl1 hl2).mono ?_
    rintro e w2 ⟨nv1, pv1, rfl, o1, q1, b2⟩
    clear c0 c1
    have B := B.trans (b2.mono B.size)
    have bx := bx.below b2
    have NA := NA.below b2
    go_wp2_with fail
    refine (spec_IsTree_any nv1 pv1 n0 _ o1.at).mono ?_
    rintro e w3 ⟨rfl, b3⟩
    have B := B.trans (b3.mono B.size)
    have bx := bx.below b3
    have NA := NA.below b3
    clear o1 q1
    obtain ⟨c0, c1⟩ := bx.two
    go_wp2_with fail
    refine (toNetwork_any nv0 pv0 n0 _ NA hl1 hl2).mono ?_
    rintro e w4 ⟨nv2, pv2, rfl, o2, q2, b4⟩
    clear c0 c1
    obtain ⟨aa2, kk2, rfl⟩ := o2.at.1.shape
    obtain ⟨aa3, kk3, rfl⟩ := o2.at.2.2.shape
    have b4' := (b4.alloc b4.size (.cells #[.slice aa2 n0.nodes.length kk2, .slice aa3 n0.pipes.length kk3] 31))
    have B := B.trans (b4'.mono B.size)
    have bx := bx.below b4'
    have NA := NA.below b4'
    have by5 := Box.new w4 #[.slice aa2 n0.nodes.length kk2, .slice aa3 n0.pipes.length kk3] 31
    have NX := o2.at.below (below_new w4 (.cells #[.slice aa2 n0.nodes.length kk2, .slice aa3 n0.pipes.length kk3] 31))
    clear b4 b4' o2
    go_wp2_with fail
    refine (impl_IsTree_any _ _ n0 _ NX q2.1).mono ?_
    rintro e w5 ⟨rfl, b5⟩
    have B := B.trans (b5.mono B.size)
    have bx := bx.below b5
    have by5 := by5.below b5
    have NA := NA.below b5
    have NX := NX.below b5
    clear b5
    obtain ⟨c0, c1⟩ := bx.two
    obtain ⟨d0, d1⟩ := by5.two
    cases hb : itB n0
    all_goals
      go_wp2_with fail
      go_region_with (first
        | (go_at_call 16; refine (toNetwork_any nv0 pv0 n0 _ (NA.below (Below.refl _ _).drew) hl1 hl2).mono ?_; rintro e w6 ⟨nv6, pv6, rfl, o6, q6, b6⟩; have NX6 := NX.below (below_undrew b6); obtain ⟨d6, d7⟩ := (by5.below (below_undrew b6)).two; have NX := NX6; have B6 := B.trans ((below_undrew b6).mono B.size); clear c0 c1 d0 d1 q6)
        | (go_at_call 18; refine (eqNetwork_t _ _ nv6 pv6 n0 _ NX6 o6.at).mono ?_; rintro e w7 ⟨rfl, b7⟩))
      all_goals
        go_wp2_with fail
        go_ret
        exact ⟨rfl, B6.trans (b7.mono B6.size)⟩
  · have hr : Hid (szL 1048576 (netSz n0) = -1) := if_neg h
    have NA := w0.below (below_new w (.cells #[nv0, pv0] 25))
    go_enter Try.func4, Try.ntmps4
    go_wp2_with fail
    refine (szNetwork_any nv0 pv0 n0 1048576 _ NA (by omega) (by omega)).mono ?_
    rw [hr.out]
    rintro e w1 ⟨rfl, b1⟩
    have B := (below_new w _).trans (b1.mono (by simp))
    go_wp2_with fail
    go_ret
    exact ⟨rfl, B⟩

set_option maxRecDepth 100000 in
theorem lifted (os : Os) (started : os.Started) (H : Type) (enc : TypeId × Value → H) :
    ReturnsInHanded {} Try.checked os 4 .any (Rows.fnExactIsTreeSpec.pre6 enc Try.prog Try.f4 Rows.fnExactIsTreeRow.domain false) (Rows.fnExactIsTreeSpec.post enc Try.prog Try.f4 false true false false) := by
  refine returnsInHanded_of_change (C := Try.checked) own started (by kernel_rfl) Try.func4
    (ChangeSpec.witness6 (enc := enc) (C := Try.checked) false ⟨#[], #[.agg #[.slice none 0 0, .slice none 0 0]], []⟩ 8 (by kernel_rfl) (by kernel_rfl) (by kernel_rfl) (by kernel_rfl)) ?_
  intro W base args ds gs before hval0 hW hcnd _
  have hval : ∀ (j : Nat) t v, Try.f4.params[j]? = some t → args[j]? = some v → Value.okWide Try.prog W .any base t v := hval0
  have hW' := hW
  obtain ⟨p, q, hA0, hV, rfl, hfz, hnd⟩ := hW
  have hA : DataW.TrodAll enc Try.prog W 0 (fun _ => true) true Try.f4.params.toList args.toList ds p := hA0
  rw [Try.params4] at hA hval
  obtain ⟨v0, vs0, d0, ds0, p0, q0, hargs, rfl, rfl, h0, r0⟩ := trodAll_cons hA
  obtain ⟨rfl, rfl, rfl⟩ := trodAll_nil r0
  obtain rfl : args = #[v0] := by cases args; simp_all
  obtain ⟨rfl, rfl⟩ := trodVars_none hV
  have k0 := h0
  have lt0 : ∀ x ∈ p0, x.block < W.heap.size := by obtain ⟨m, hm⟩ := k0; exact DataW.trod_lt m _ _ _ hm
  obtain ⟨nv0, pv0, n0, rfl, w0⟩ := open_net (hval 0 25 v0 rfl rfl) h0
  clear hA0 hval0
  refine (walk nv0 pv0 n0 W w0).mono fun e W' ⟨he, bel⟩ => ?_
  subst he
  exact ⟨_, rfl, _, _, _, [], _, [], hW', trodAll_mk1 (shut_bool Try.underlying4 _), (trodAll_cons_mk (Below.trod laidOut (by kernel_rfl) (of_decide_eq_true (by kernel_rfl)) k0 bel lt0) trodAll_mk0), rfl, bel.frame _, fun h => by cases h⟩

theorem over : Rows.fnExactIsTreeRow.holds Try.pinned (OpenSpec.ofChange Rows.fnExactIsTreeSpec) :=
  OpenClaim.holds_of_wide 4 Try.f4 rfl rfl rfl rfl rfl rfl rfl ⟨rfl, rfl, rfl, rfl, rfl⟩ rfl rfl rfl rfl rfl (by kernel_rfl) Try.func4 (by kernel_rfl)
    (of_decide_eq_true (by kernel_rfl)) (by unfold Func.isWrapper; first | (rw [if_pos (by decide +kernel)]; kernel_rfl) | (rw [if_neg (by decide +kernel)]; exact ⟨rfl, rfl⟩))
    (fun os started H enc _ => lifted os started H enc)

theorem proved : Rows.FnExactIsTreeSaid := over
#print axioms proved
end Go.Proofs.Ytogkmhedohmocaa.fnExactIsTree
