/- 'FnExactIsNode' is proved: the law returns true for every input. The frame follows the kit's proof-skeleton. -/
import Derived.Test.YtiabkhgpeneoiaaRows
import Derived.WalkKit
import Derived.ProofKit
import Derived.OpenShut
import Derived.ShutString
import Derived.ChangeOld
import Derived.Below
import Derived.Test.YtiabkhgpeneoiaaOpen
import Derived.Test.YtiabkhgpeneoiaaIsNode
import Derived.Test.YtiabkhgpeneoiaaNodeEx
namespace Go.Proofs.Ytiabkhgpeneoiaa.fnExactIsNode
open Go.ChangeShapes Go.WideShapes Go.ChangeAt Go.RowKit
open Go.ChangeMaps (open_string shut_string)
open Go.Joins
set_option linter.unusedVariables false

theorem own : ownKnob Try.prog.godebug = none := by kernel_rfl
theorem laidOut : laidOutB Try.prog = true := by kernel_rfl

set_option maxRecDepth 100000 in
theorem open_node {H : Type} {enc : TypeId × Value → H} {W : World} {base : Nat} {v : Value} {d : DataW H} {p : List MemPlace} (hv : Value.okWide Try.prog W .any base 23 v) (h : DataW.Trod enc Try.prog W 0 (fun _ => true) true 23 v d p) :
    ∃ x : Nd, v = .agg #[.string x.name, .int .i64 x.low, .int .i64 x.high] ∧ x.name.size ≤ 9223372036854775807 := by
  obtain ⟨v0, v1, v2, y0, y1, y2, m, rfl, _, _, h0, h1, h2⟩ := open_agg3 Try.underlying23 (by kernel_rfl) (by kernel_rfl) hv h
  obtain ⟨s, e0, _, hs⟩ := DataW.trod_string Try.underlying9 h0
  obtain ⟨l, e1, _, _⟩ := DataW.trod_int Try.underlying2 h1
  obtain ⟨hh, e2, _, _⟩ := DataW.trod_int Try.underlying2 h2
  simp at e0 e1 e2
  subst e0 e1 e2
  exact ⟨⟨s, l, hh⟩, rfl, by unfold maxLen at hs; omega⟩


theorem walk (x0 : Nd) (w : World) (w0 : x0.name.size ≤ 9223372036854775807) :
    Calls Try.prog 3 #[.agg #[.string x0.name, .int .i64 x0.low, .int .i64 x0.high]] w fun e w' => e = .returned (.bool true) ∧ Below w.heap.size w w' := by
  by_cases h : (x0.name.size : Int) ≤ 1048576
  · have hr : Hid (szL 1048576 x0.name.size = 1048576 - x0.name.size) := if_pos h
    go_enter Try.func3, Try.ntmps3
    go_wp2_with fail
    refine (szNode_any x0 1048576 _ w0 (by omega) (by omega)).mono ?_
    rw [hr.out]
    rintro e w1 ⟨rfl, b1⟩
    have B := (below_new w _).trans (b1.mono (by simp))
    have bx := (Box.new w _ _).below b1
    obtain ⟨c0, c1, c2⟩ := bx.three
    go_wp2_with fail
    refine (toNode_any x0 _).mono ?_
    rintro e w2 ⟨rfl, b2⟩
    clear c0 c1 c2
    have B := B.trans (b2.mono B.size)
    have bx := bx.below b2
    go_wp2_with fail
    refine (spec_IsNode_any x0 _ w0).mono ?_
    rintro e w3 ⟨rfl, b3⟩
    have B := B.trans (b3.mono B.size)
    have bx := bx.below b3
    obtain ⟨c0, c1, c2⟩ := bx.three
    go_wp2_with fail
    refine (toNode_any x0 _).mono ?_
    rintro e w4 ⟨rfl, b4⟩
    clear c0 c1 c2
    have B := B.trans (b4.mono B.size)
    have bx := bx.below b4
    go_wp2_with fail
    refine (impl_IsNode_any x0 _ w0).mono ?_
    rintro e w5 ⟨rfl, b5⟩
    have B := B.trans (b5.mono B.size)
    have bx := bx.below b5
    go_wp2_with fail
    go_ret
    exact ⟨rfl, B⟩
  · have hr : Hid (szL 1048576 x0.name.size = -1) := if_neg h
    go_enter Try.func3, Try.ntmps3
    go_wp2_with fail
    refine (szNode_any x0 1048576 _ w0 (by omega) (by omega)).mono ?_
    rw [hr.out]
    rintro e w1 ⟨rfl, b1⟩
    have B := (below_new w _).trans (b1.mono (by simp))
    have bx := (Box.new w _ _).below b1
    go_wp2_with fail
    go_ret
    exact ⟨rfl, B⟩

set_option maxRecDepth 100000 in
theorem lifted (os : Os) (started : os.Started) (H : Type) (enc : TypeId × Value → H) :
    ReturnsInHanded {} Try.checked os 3 .any (Rows.fnExactIsNodeSpec.pre6 enc Try.prog Try.f3 Rows.fnExactIsNodeRow.domain false) (Rows.fnExactIsNodeSpec.post enc Try.prog Try.f3 false true false false) := by
  refine returnsInHanded_of_change (C := Try.checked) own started (by kernel_rfl) Try.func3
    (ChangeSpec.witness6 (enc := enc) (C := Try.checked) false ⟨#[], #[.agg #[.string ByteArray.empty, .int .i64 0, .int .i64 0]], []⟩ 8 (by kernel_rfl) (by kernel_rfl) (by kernel_rfl) (by kernel_rfl)) ?_
  intro W base args ds gs before hval0 hW hcnd _
  have hval : ∀ (j : Nat) t v, Try.f3.params[j]? = some t → args[j]? = some v → Value.okWide Try.prog W .any base t v := hval0
  have hW' := hW
  obtain ⟨p, q, hA0, hV, rfl, hfz, hnd⟩ := hW
  have hA : DataW.TrodAll enc Try.prog W 0 (fun _ => true) true Try.f3.params.toList args.toList ds p := hA0
  rw [Try.params3] at hA hval
  obtain ⟨v0, vs0, d0, ds0, p0, q0, hargs, rfl, rfl, h0, r0⟩ := trodAll_cons hA
  obtain ⟨rfl, rfl, rfl⟩ := trodAll_nil r0
  obtain rfl : args = #[v0] := by cases args; simp_all
  obtain ⟨rfl, rfl⟩ := trodVars_none hV
  have k0 := h0
  have lt0 : ∀ x ∈ p0, x.block < W.heap.size := by obtain ⟨m, hm⟩ := k0; exact DataW.trod_lt m _ _ _ hm
  obtain ⟨x0, rfl, w0⟩ := open_node (hval 0 23 v0 rfl rfl) h0
  clear hA0 hval0
  refine (walk x0 W w0).mono fun e W' ⟨he, bel⟩ => ?_
  subst he
  exact ⟨_, rfl, _, _, _, [], _, [], hW', trodAll_mk1 (shut_bool Try.underlying4 _), (trodAll_cons_mk (Below.trod laidOut (by kernel_rfl) (of_decide_eq_true (by kernel_rfl)) k0 bel lt0) trodAll_mk0), rfl, bel.frame _, fun h => by cases h⟩

theorem over : Rows.fnExactIsNodeRow.holds Try.pinned (OpenSpec.ofChange Rows.fnExactIsNodeSpec) :=
  OpenClaim.holds_of_wide 3 Try.f3 rfl rfl rfl rfl rfl rfl rfl ⟨rfl, rfl, rfl, rfl, rfl⟩ rfl rfl rfl rfl rfl (by kernel_rfl) Try.func3 (by kernel_rfl)
    (of_decide_eq_true (by kernel_rfl)) (by unfold Func.isWrapper; first | (rw [if_pos (by decide +kernel)]; kernel_rfl) | (rw [if_neg (by decide +kernel)]; exact ⟨rfl, rfl⟩))
    (fun os started H enc _ => lifted os started H enc)

theorem proved : Rows.FnExactIsNodeSaid := over
#print axioms proved
end Go.Proofs.Ytiabkhgpeneoiaa.fnExactIsNode
