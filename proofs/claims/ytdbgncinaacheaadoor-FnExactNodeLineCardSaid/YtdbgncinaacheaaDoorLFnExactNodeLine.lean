/- 'FnExactNodeLine' is proved: the law returns true for every input, where the listed variables of the library read as the library lays them. The frame follows the kit's proof-skeleton. -/
import Derived.Test.YtdbgncinaacheaaDoorRows
import Derived.WalkKit
import Derived.ProofKit
import Derived.OpenShut
import Derived.ShutString
import Derived.ChangeOld
import Derived.Below
import Derived.Test.YtdbgncinaacheaaDoorTied3
import Derived.Test.YtdbgncinaacheaaDoorTie
import Derived.Test.YtdbgncinaacheaaDoorCards
import Derived.SevenTiedAt
import Derived.Test.YtdbgncinaacheaaDoorOpen
import Derived.Test.YtdbgncinaacheaaDoorLine
import Derived.Test.YtdbgncinaacheaaDoorMark
import Derived.Test.YtdbgncinaacheaaDoorOpen
namespace Go.Proofs.YtdbgncinaacheaaDoor.fnExactNodeLine
open Go.ChangeShapes Go.WideShapes Go.ChangeAt Go.RowKit
open Go.ChangeMaps (open_string shut_string)
open Go.Joins
set_option linter.unusedVariables false

theorem own : ownKnob Tryd.prog.godebug = none := by kernel_rfl
theorem laidOut : laidOutB Tryd.prog = true := by kernel_rfl

set_option maxRecDepth 100000 in
theorem open_node {H : Type} {enc : TypeId × Value → H} {W : World} {base : Nat} {v : Value} {d : DataW H} {p : List MemPlace} (hv : Value.okWide Tryd.prog W .any base 34 v) (h : DataW.Trod enc Tryd.prog W 0 (fun _ => true) true 34 v d p) :
    ∃ x : Nd, v = .agg #[.string x.name, .int .i64 x.low, .int .i64 x.high] ∧ x.name.size ≤ 9223372036854775807 := by
  obtain ⟨v0, v1, v2, y0, y1, y2, m, rfl, _, _, h0, h1, h2⟩ := open_agg3 Tryd.underlying34 (by kernel_rfl) (by kernel_rfl) hv h
  obtain ⟨s, e0, _, hs⟩ := DataW.trod_string Tryd.underlying9 h0
  obtain ⟨l, e1, _, _⟩ := DataW.trod_int Tryd.underlying2 h1
  obtain ⟨hh, e2, _, _⟩ := DataW.trod_int Tryd.underlying2 h2
  simp at e0 e1 e2
  subst e0 e1 e2
  exact ⟨⟨s, l, hh⟩, rfl, by unfold maxLen at hs; omega⟩


set_option maxHeartbeats 1000000 in
theorem walk (x0 : Nd) (w : World) (w0 : x0.name.size ≤ 9223372036854775807) (ht : Tab w) :
    Calls Tryd.prog 5 #[.agg #[.string x0.name, .int .i64 x0.low, .int .i64 x0.high]] w fun e w' => e = .returned (.bool true) ∧ Below w.heap.size w w' := by
  have HT := hid ht
  by_cases h : (x0.name.size : Int) ≤ 1048576
  · have hr : Hid (szL 1048576 x0.name.size = 1048576 - x0.name.size) := if_pos h
    go_enter Tryd.func5, Tryd.ntmps5
    go_wp2_with fail
    refine (szNode_any x0 1048576 _ w0 (by omega) (by omega)).mono ?_
    rw [hr.out]
    rintro e w1 ⟨rfl, b1⟩
    have B := (below_new w _).trans (b1.mono (by simp))
    have bx := (Box.new w _ _).below b1
    obtain ⟨c0, c1, c2⟩ := bx.three
    go_wp2_with fail
    refine (toNode_any x0 _).mono ?_
    rintro e w2 ⟨rfl, b2⟩
    clear c0 c1 c2
    have B := B.trans (b2.mono B.size)
    have bx := bx.below b2
    go_wp2_with fail
    refine (spec_NodeLine_any x0 _ w0).mono ?_
    rintro e w3 ⟨rfl, b3⟩
    have B := B.trans (b3.mono B.size)
    have bx := bx.below b3
    obtain ⟨c0, c1, c2⟩ := bx.three
    go_wp2_with fail
    refine (toNode_any x0 _).mono ?_
    rintro e w4 ⟨rfl, b4⟩
    clear c0 c1 c2
    have B := B.trans (b4.mono B.size)
    have bx := bx.below b4
    go_wp2_with fail
    refine (impl_NodeLine_any x0 _ w0 (HT.out.below B)).mono ?_
    rintro e w5 ⟨rfl, b5⟩
    have B := B.trans (b5.mono B.size)
    have bx := bx.below b5
    go_wp2_with fail
    go_ret
    exact ⟨rfl, B⟩
  · have hr : Hid (szL 1048576 x0.name.size = -1) := if_neg h
    go_enter Tryd.func5, Tryd.ntmps5
    go_wp2_with fail
    refine (szNode_any x0 1048576 _ w0 (by omega) (by omega)).mono ?_
    rw [hr.out]
    rintro e w1 ⟨rfl, b1⟩
    have B := (below_new w _).trans (b1.mono (by simp))
    have bx := (Box.new w _ _).below b1
    go_wp2_with fail
    go_ret
    exact ⟨rfl, B⟩

set_option maxRecDepth 100000 in
theorem lifted (os : Os) (started : os.Started) (H : Type) (enc : TypeId × Value → H) :
    ReturnsInHanded {} Tryd.checked os 5 .any (fun w args => (Rows.fnExactNodeLineSpec.pre enc Tryd.prog Tryd.f5 [] false w args ∧ laidMetH Tryd.prog laidT w) ∧ sizedMet enc Tryd.prog Tryd.f5 (OpenSpec.ofChange Rows.fnExactNodeLineSpec) false w args) (Rows.fnExactNodeLineSpec.post enc Tryd.prog Tryd.f5 false true false false) := by
  refine returns_and_shaped (C := Tryd.checked) (X := fun w _ => laidMetH Tryd.prog laidT w) (fun _ _ _ hh h => h.of_heap hh) own started (by kernel_rfl) Tryd.func5
    (ChangeSpec.witness_shaped (enc := enc) (C := Tryd.checked) (os := os) (X := fun w _ => laidMetH Tryd.prog laidT w) false (World.doorLaid Tryd.prog 400 os) #[.agg #[.string ByteArray.empty, .int .i64 0, .int .i64 0]] 8 rfl (World.shaped_of_RefB (by kernel_rfl) (by kernel_rfl)) (by kernel_rfl) (by kernel_rfl) (by kernel_rfl) (door_met os _)) ?_
  intro W base args ds gs before hval0 hW hL hsh
  have hval : ∀ (j : Nat) t v, Tryd.f5.params[j]? = some t → args[j]? = some v → Value.okWide Tryd.prog W .any base t v := hval0
  have hW' := hW
  obtain ⟨p, q, hA0, hV, rfl, hfz, hnd⟩ := hW
  have hA : DataW.TrodAll enc Tryd.prog W 0 (fun _ => true) true Tryd.f5.params.toList args.toList ds p := hA0
  rw [Tryd.params5] at hA hval
  obtain ⟨v0, vs0, d0, ds0, p0, q0, hargs, rfl, rfl, h0, r0⟩ := trodAll_cons hA
  obtain ⟨rfl, rfl, rfl⟩ := trodAll_nil r0
  obtain rfl : args = #[v0] := by cases args; simp_all
  obtain ⟨rfl, rfl⟩ := trodVars_none hV
  have k0 := h0
  have lt0 : ∀ x ∈ p0, x.block < W.heap.size := by obtain ⟨m, hm⟩ := k0; exact DataW.trod_lt m _ _ _ hm
  obtain ⟨x0, rfl, w0⟩ := open_node (hval 0 34 v0 rfl rfl) h0
  clear hA0 hval0
  refine (walk x0 W w0 (tab_of_laid hL)).mono fun e W' ⟨he, bel⟩ => ?_
  subst he
  exact ⟨_, rfl, _, _, _, [], _, [], hW', trodAll_mk1 (shut_bool Tryd.underlying4 _), (trodAll_cons_mk (Below.trod laidOut (by kernel_rfl) (of_decide_eq_true (by kernel_rfl)) k0 bel lt0) trodAll_mk0), rfl, bel.frame _, fun h => by cases h⟩

theorem cThree : ((Rows.fnExactNodeLineRow.lifted == Tryd.prog.liftsFinal) && (Tryd.prog.make == some Rows.fnExactNodeLineRow.make) && Tryd.prog.mayEnter) = true := by kernel_rfl
theorem cAll : ((Rows.fnExactNodeLineRow.lifted == Tryd.prog.liftsFinal) = true ∧ (Tryd.prog.make == some Rows.fnExactNodeLineRow.make) = true) ∧ Tryd.prog.mayEnter = true := by
  have h := cThree
  simp only [Bool.and_eq_true] at h
  exact h
set_option maxHeartbeats 100000000 in
theorem closed : joinedFacts Tryd.prog 5 Tryd.f5 Rows.fnExactNodeLineSpec Rows.fnExactNodeLineRow = true := by
  unfold joinedFacts
  simp only [Bool.and_eq_true]
  repeat' apply And.intro
  all_goals first | with_reducible exact cAll.1.1 | with_reducible exact cAll.1.2 | with_reducible exact cAll.2 | (as_aux_lemma => kernel_rfl)

theorem row : Rows.FnExactNodeLineSaid :=
  OpenClaim.holds_of_wide 5 Tryd.f5 rfl rfl rfl rfl rfl rfl rfl ⟨rfl, rfl, rfl, rfl, rfl⟩ rfl rfl rfl rfl rfl (by kernel_rfl) Tryd.func5 closed
    (of_decide_eq_true (by kernel_rfl)) (by unfold Func.isWrapper; first | (rw [if_pos (by decide +kernel)]; kernel_rfl) | (rw [if_neg (by decide +kernel)]; exact ⟨rfl, rfl⟩))
    (fun os started H enc _ => lifted os started H enc)

theorem proved : Rows.FnExactNodeLineCardSaid :=
  Claim7.holds_tied_plain_at .later [] [.data, .data, .data] true (true, "1258e6a8963d9642433132aed7ff89507273dc909a22a34a2029c36c120267fa") true
    row (fun _ h => by cases h) (by kernel_rfl) (fun _ h => by cases h) fnExactNodeLine_row_tie rfl ⟨rfl, rfl⟩ (by kernel_rfl) rfl
    (fun f fn hf hfn => by
      obtain rfl : f = 5 := Option.some.inj ((show Tryd.prog.funcNamed "loop.example/g00852/laws.FnExactNodeLine" = some 5 by kernel_rfl).symm.trans hf) |>.symm
      obtain rfl : fn = Tryd.f5 := (Option.some.inj (Tryd.func5.symm.trans hfn)).symm
      exact ⟨by kernel_rfl, fun j t ht => by
        rw [Tryd.params5] at ht
        have hm : t ∈ [34] := by simpa using Array.mem_of_getElem? ht
        have hall : ([34].all fun u => !Tryd.prog.wantsStandIn u) = true := by kernel_rfl
        exact (show Tryd.prog.wantsStandIn t = false by simpa using List.all_eq_true.1 hall t hm)⟩)
    (by kernel_rfl)
end Go.Proofs.YtdbgncinaacheaaDoor.fnExactNodeLine
