/- 'FnExactNetworkText' is proved: the law returns true for every input, where the listed variables of the library read as the library lays them. The frame follows the kit's proof-skeleton. -/
import Derived.Test.YtdbgncinaacheaaDoorRows
import Derived.WalkKit
import Derived.ProofKit
import Derived.OpenShut
import Derived.ShutString
import Derived.ChangeOld
import Derived.Below
import Derived.Test.YtdbgncinaacheaaDoorTied3
import Derived.Test.YtdbgncinaacheaaDoorTie
import Derived.Test.YtdbgncinaacheaaDoorCards
import Derived.SevenTiedAt
import Derived.Test.YtdbgncinaacheaaDoorOpen
import Derived.Test.YtdbgncinaacheaaDoorNtx
import Derived.Test.YtdbgncinaacheaaDoorNetEq
namespace Go.Proofs.YtdbgncinaacheaaDoor.fnExactNetworkText
open Go.ChangeShapes Go.WideShapes Go.ChangeAt Go.RowKit
open Go.ChangeMaps (open_string shut_string)
open Go.Joins
set_option linter.unusedVariables false

theorem own : ownKnob Tryd.prog.godebug = none := by kernel_rfl
theorem laidOut : laidOutB Tryd.prog = true := by kernel_rfl

set_option maxRecDepth 100000 in
theorem open_net {H : Type} {enc : TypeId × Value → H} {W : World} {base : Nat} {v : Value} {d : DataW H} {p : List MemPlace} (hv : Value.okWide Tryd.prog W .any base 48 v) (h : DataW.Trod enc Tryd.prog W 0 (fun _ => true) true 48 v d p) :
    ∃ nv pv n, v = .agg #[nv, pv] ∧ NetAt W nv pv n := by
  obtain ⟨v0, v1, y0, y1, m, rfl, _, _, h0, h1⟩ := open_agg2 Tryd.underlying48 (by kernel_rfl) (by kernel_rfl) hv h
  obtain ⟨ns, hn, hq⟩ := open_rows encN 3 (by decide) (fun _ => rfl) (fun x => x.name.size ≤ 9223372036854775807) Tryd.underlying45 (by kernel_rfl) (node_cells Tryd.underlying34 rfl rfl rfl (by kernel_rfl) (by kernel_rfl) (by kernel_rfl) Tryd.underlying9 Tryd.underlying2 Tryd.underlying2) h0
  obtain ⟨ps, hp, _⟩ := open_rows encP 5 (by decide) (fun _ => rfl) (fun _ => True) Tryd.underlying46 (by kernel_rfl) (pipe_cells Tryd.underlying119 rfl rfl rfl rfl rfl (by kernel_rfl) (by kernel_rfl) (by kernel_rfl) (by kernel_rfl) (by kernel_rfl) Tryd.underlying2 Tryd.underlying2 Tryd.underlying2 Tryd.underlying2 Tryd.underlying2) h1
  exact ⟨v0, v1, ⟨ns, ps⟩, rfl, hn, hq, hp⟩


set_option maxHeartbeats 1000000 in
theorem walk (nv0 pv0 : Value) (n0 : Net) (w : World) (w0 : NetAt w nv0 pv0 n0) (ht : Tab w) :
    Calls Tryd.prog 8 #[.agg #[nv0, pv0]] w fun e w' => e = .returned (.bool true) ∧ Below w.heap.size w w' := by
  have HT := hid ht
  by_cases h : (netSz n0 : Int) ≤ 1048576
  · have hr : Hid (szL 1048576 (netSz n0) = 1048576 - netSz n0) := if_pos h
    have hneg : ¬ (1048576 - (netSz n0 : Int) < 0) := by omega
    have hl1 : n0.nodes.length ≤ 2000000 := by unfold netSz at h; omega
    have hl2 : n0.pipes.length ≤ 2000000 := by unfold netSz at h; omega
    have NA := w0.below (below_new w (.cells #[nv0, pv0] 48))
    go_enter Tryd.func8, Tryd.ntmps8
    go_wp2_with fail
    refine (szNetwork_any nv0 pv0 n0 1048576 _ NA (by omega) (by omega)).mono ?_
    rw [hr.out]
    rintro e w1 ⟨rfl, b1⟩
    have B := (below_new w _).trans (b1.mono (by simp))
    have bx := (Box.new w _ _).below b1
    have NA := NA.below b1
    obtain ⟨c0, c1⟩ := bx.two
    go_wp2_with fail
    refine (toNetwork_any nv0 pv0 n0 _ NA hl1 hl2).mono ?_
    rintro e w2 ⟨nv1, pv1, rfl, o1, q1, b2⟩
    clear c0 c1
    have B := B.trans (b2.mono B.size)
    have bx := bx.below b2
    have NA := NA.below b2
    go_wp2_with fail
    refine (spec_NetworkText_any nv1 pv1 n0 _ o1.at).mono ?_
    rintro e w3 ⟨rfl, b3⟩
    have B := B.trans (b3.mono B.size)
    have bx := bx.below b3
    have NA := NA.below b3
    clear o1 q1
    obtain ⟨c0, c1⟩ := bx.two
    go_wp2_with fail
    refine (toNetwork_any nv0 pv0 n0 _ NA hl1 hl2).mono ?_
    rintro e w4 ⟨nv2, pv2, rfl, o2, q2, b4⟩
    clear c0 c1
    obtain ⟨aa2, kk2, rfl⟩ := o2.at.1.shape
    obtain ⟨aa3, kk3, rfl⟩ := o2.at.2.2.shape
    have b4' := (b4.alloc b4.size (.cells #[.slice aa2 n0.nodes.length kk2, .slice aa3 n0.pipes.length kk3] 25))
    have B := B.trans (b4'.mono B.size)
    have bx := bx.below b4'
    have NA := NA.below b4'
    have by5 := Box.new w4 #[.slice aa2 n0.nodes.length kk2, .slice aa3 n0.pipes.length kk3] 25
    have NX := o2.at.below (below_new w4 (.cells #[.slice aa2 n0.nodes.length kk2, .slice aa3 n0.pipes.length kk3] 25))
    clear b4 b4' o2
    go_wp2_with fail
    refine (impl_NetworkText_any _ _ n0 _ NX q2.1 (HT.out.below B)).mono ?_
    rintro e w5 ⟨rfl, b5⟩
    have B := B.trans (b5.mono B.size)
    have bx := bx.below b5
    have by5 := by5.below b5
    have NA := NA.below b5
    have NX := NX.below b5
    clear b5
    obtain ⟨c0, c1⟩ := bx.two
    obtain ⟨d0, d1⟩ := by5.two
    go_wp2_with fail
    go_region_with (first
      | (go_at_call 31; refine (toNetwork_any nv0 pv0 n0 _ (NA.below (Below.refl _ _).drew) hl1 hl2).mono ?_; rintro e w6 ⟨nv6, pv6, rfl, o6, q6, b6⟩; have NX6 := NX.below (below_undrew b6); obtain ⟨d6, d7⟩ := (by5.below (below_undrew b6)).two; have NX := NX6; have B6 := B.trans ((below_undrew b6).mono B.size); clear c0 c1 d0 d1 q6)
      | (go_at_call 16; refine (eqNetwork_t _ _ nv6 pv6 n0 _ NX6 o6.at).mono ?_; rintro e w7 ⟨rfl, b7⟩))
    all_goals
      go_wp2_with fail
      go_ret
      exact ⟨rfl, B6.trans (b7.mono B6.size)⟩
  · have hr : Hid (szL 1048576 (netSz n0) = -1) := if_neg h
    have NA := w0.below (below_new w (.cells #[nv0, pv0] 48))
    go_enter Tryd.func8, Tryd.ntmps8
    go_wp2_with fail
    refine (szNetwork_any nv0 pv0 n0 1048576 _ NA (by omega) (by omega)).mono ?_
    rw [hr.out]
    rintro e w1 ⟨rfl, b1⟩
    have B := (below_new w _).trans (b1.mono (by simp))
    go_wp2_with fail
    go_ret
    exact ⟨rfl, B⟩

set_option maxRecDepth 100000 in
theorem lifted (os : Os) (started : os.Started) (H : Type) (enc : TypeId × Value → H) :
    ReturnsInHanded {} Tryd.checked os 8 .any (fun w args => (Rows.fnExactNetworkTextSpec.pre enc Tryd.prog Tryd.f8 [] false w args ∧ laidMetH Tryd.prog laidT w) ∧ sizedMet enc Tryd.prog Tryd.f8 (OpenSpec.ofChange Rows.fnExactNetworkTextSpec) false w args) (Rows.fnExactNetworkTextSpec.post enc Tryd.prog Tryd.f8 false true false false) := by
  refine returns_and_shaped (C := Tryd.checked) (X := fun w _ => laidMetH Tryd.prog laidT w) (fun _ _ _ hh h => h.of_heap hh) own started (by kernel_rfl) Tryd.func8
    (ChangeSpec.witness_shaped (enc := enc) (C := Tryd.checked) (os := os) (X := fun w _ => laidMetH Tryd.prog laidT w) false (World.doorLaid Tryd.prog 400 os) #[.agg #[.slice none 0 0, .slice none 0 0]] 8 rfl (World.shaped_of_RefB (by kernel_rfl) (by kernel_rfl)) (by kernel_rfl) (by kernel_rfl) (by kernel_rfl) (door_met os _)) ?_
  intro W base args ds gs before hval0 hW hL hsh
  have hval : ∀ (j : Nat) t v, Tryd.f8.params[j]? = some t → args[j]? = some v → Value.okWide Tryd.prog W .any base t v := hval0
  have hW' := hW
  obtain ⟨p, q, hA0, hV, rfl, hfz, hnd⟩ := hW
  have hA : DataW.TrodAll enc Tryd.prog W 0 (fun _ => true) true Tryd.f8.params.toList args.toList ds p := hA0
  rw [Tryd.params8] at hA hval
  obtain ⟨v0, vs0, d0, ds0, p0, q0, hargs, rfl, rfl, h0, r0⟩ := trodAll_cons hA
  obtain ⟨rfl, rfl, rfl⟩ := trodAll_nil r0
  obtain rfl : args = #[v0] := by cases args; simp_all
  obtain ⟨rfl, rfl⟩ := trodVars_none hV
  have k0 := h0
  have lt0 : ∀ x ∈ p0, x.block < W.heap.size := by obtain ⟨m, hm⟩ := k0; exact DataW.trod_lt m _ _ _ hm
  obtain ⟨nv0, pv0, n0, rfl, w0⟩ := open_net (hval 0 48 v0 rfl rfl) h0
  clear hA0 hval0
  refine (walk nv0 pv0 n0 W w0 (tab_of_laid hL)).mono fun e W' ⟨he, bel⟩ => ?_
  subst he
  exact ⟨_, rfl, _, _, _, [], _, [], hW', trodAll_mk1 (shut_bool Tryd.underlying4 _), (trodAll_cons_mk (Below.trod laidOut (by kernel_rfl) (of_decide_eq_true (by kernel_rfl)) k0 bel lt0) trodAll_mk0), rfl, bel.frame _, fun h => by cases h⟩

theorem row : Rows.FnExactNetworkTextSaid :=
  OpenClaim.holds_of_wide 8 Tryd.f8 rfl rfl rfl rfl rfl rfl rfl ⟨rfl, rfl, rfl, rfl, rfl⟩ rfl rfl rfl rfl rfl (by kernel_rfl) Tryd.func8 (by kernel_rfl)
    (of_decide_eq_true (by kernel_rfl)) (by unfold Func.isWrapper; first | (rw [if_pos (by decide +kernel)]; kernel_rfl) | (rw [if_neg (by decide +kernel)]; exact ⟨rfl, rfl⟩))
    (fun os started H enc _ => lifted os started H enc)

theorem proved : Rows.FnExactNetworkTextCardSaid :=
  Claim7.holds_tied_plain_at .later [] [.data, .data, .data] true (true, "1258e6a8963d9642433132aed7ff89507273dc909a22a34a2029c36c120267fa") true
    row (fun _ h => by cases h) (by kernel_rfl) (fun _ h => by cases h) fnExactNetworkText_row_tie rfl ⟨rfl, rfl⟩ (by kernel_rfl) rfl
    (fun f fn hf hfn => by
      obtain rfl : f = 8 := Option.some.inj ((show Tryd.prog.funcNamed "loop.example/g00852/laws.FnExactNetworkText" = some 8 by kernel_rfl).symm.trans hf) |>.symm
      obtain rfl : fn = Tryd.f8 := (Option.some.inj (Tryd.func8.symm.trans hfn)).symm
      exact ⟨by kernel_rfl, fun j t ht => by
        rw [Tryd.params8] at ht
        have hm : t ∈ [48] := by simpa using Array.mem_of_getElem? ht
        have hall : ([48].all fun u => !Tryd.prog.wantsStandIn u) = true := by kernel_rfl
        exact (show Tryd.prog.wantsStandIn t = false by simpa using List.all_eq_true.1 hall t hm)⟩)
    (by kernel_rfl)
end Go.Proofs.YtdbgncinaacheaaDoor.fnExactNetworkText
