/- 'FnExactCycleBasis' is proved: the law returns true for every input. The frame follows the kit's proof-skeleton. -/
import Derived.Test.YtdapdaadglaoiaaRows
import Derived.WalkKit
import Derived.ProofKit
import Derived.OpenShut
import Derived.ShutString
import Derived.ChangeOld
import Derived.Below
import Derived.Test.YtdapdaadglaoiaaOpen
import Derived.Test.YtdapdaadglaoiaaBasis
import Derived.Test.YtdapdaadglaoiaaNetEq
import Derived.Test.YtdapdaadglaoiaaMark
namespace Go.Proofs.Ytdapdaadglaoiaa.fnExactCycleBasis
open Go.ChangeShapes Go.WideShapes Go.ChangeAt Go.RowKit
open Go.ChangeMaps (open_string shut_string)
open Go.Joins
set_option linter.unusedVariables false

theorem own : ownKnob Try.prog.godebug = none := by kernel_rfl
theorem laidOut : laidOutB Try.prog = true := by kernel_rfl

set_option maxRecDepth 100000 in
theorem open_net {H : Type} {enc : TypeId × Value → H} {W : World} {base : Nat} {v : Value} {d : DataW H} {p : List MemPlace} (hv : Value.okWide Try.prog W .any base 44 v) (h : DataW.Trod enc Try.prog W 0 (fun _ => true) true 44 v d p) :
    ∃ nv pv n, v = .agg #[nv, pv] ∧ NetAt W nv pv n := by
  obtain ⟨v0, v1, y0, y1, m, rfl, _, _, h0, h1⟩ := open_agg2 Try.underlying44 (by kernel_rfl) (by kernel_rfl) hv h
  obtain ⟨ns, hn, hq⟩ := open_rows encN 3 (by decide) (fun _ => rfl) (fun x => x.name.size ≤ 9223372036854775807) Try.underlying41 (by kernel_rfl) (node_cells Try.underlying132 rfl rfl rfl (by kernel_rfl) (by kernel_rfl) (by kernel_rfl) Try.underlying9 Try.underlying2 Try.underlying2) h0
  obtain ⟨ps, hp, _⟩ := open_rows encP 5 (by decide) (fun _ => rfl) (fun _ => True) Try.underlying42 (by kernel_rfl) (pipe_cells Try.underlying135 rfl rfl rfl rfl rfl (by kernel_rfl) (by kernel_rfl) (by kernel_rfl) (by kernel_rfl) (by kernel_rfl) Try.underlying2 Try.underlying2 Try.underlying2 Try.underlying2 Try.underlying2) h1
  exact ⟨v0, v1, ⟨ns, ps⟩, rfl, hn, hq, hp⟩

theorem cbR_len (n : Net) : (cbR n).1.length ≤ 1000 ∧ tlen (cbR n).1 ≤ 100000 := by
  unfold cbR
  split
  · next hb =>
    have hl := netB_t hb
    have h1 := chords_le n
    have h2 := csM_len n
    refine ⟨by simp only; omega, ?_⟩
    have key : ∀ xss : List (List Int), (∀ r ∈ xss, r.length = n.pipes.length) → tlen xss = xss.length * n.pipes.length := by
      intro xss
      induction xss with
      | nil => intro _; simp [tlen]
      | cons x t ih =>
        intro hx
        have e1 := ih (fun r hr => hx r (List.mem_cons_of_mem _ hr))
        have e2 := hx x (by simp)
        have e3 : tlen (x :: t) = x.length + tlen t := by simp [tlen]
        rw [e3, e1, e2, List.length_cons, Nat.add_mul]; omega
    have h3 := key (csM n) (fun r hr => csM_row hb hr)
    simp only
    rw [h3]
    have h4 : (csM n).length * n.pipes.length ≤ 40 * 40 := Nat.mul_le_mul (by omega) (by omega)
    omega
  · simp [tlen]

set_option maxHeartbeats 1000000 in
theorem walk (nv0 pv0 : Value) (n0 : Net) (w : World) (w0 : NetAt w nv0 pv0 n0) :
    Calls Try.prog 12 #[.agg #[nv0, pv0]] w fun e w' => e = .returned (.bool true) ∧ Below w.heap.size w w' := by
  by_cases h : (netSz n0 : Int) ≤ 1048576
  · have hr : Hid (szL 1048576 (netSz n0) = 1048576 - netSz n0) := if_pos h
    have hneg : ¬ (1048576 - (netSz n0 : Int) < 0) := by omega
    have hl1 : n0.nodes.length ≤ 2000000 := by unfold netSz at h; omega
    have hl2 : n0.pipes.length ≤ 2000000 := by unfold netSz at h; omega
    obtain ⟨P, hP⟩ : ∃ P, P = cbR n0 := ⟨_, rfl⟩
    have HP := hid hP
    have hlen : P.1.length ≤ 1000 ∧ tlen P.1 ≤ 100000 := by subst hP; exact cbR_len n0
    obtain ⟨hlen, htl⟩ := hlen
    clear hP
    have NA := w0.below (below_new w (.cells #[nv0, pv0] 44))
    go_enter Try.func12, Try.ntmps12
    go_wp2_with fail
    refine (szNetwork_any nv0 pv0 n0 1048576 _ NA (by omega) (by omega)).mono ?_
    rw [hr.out]
    rintro e w1 ⟨rfl, b1⟩
    have B := (below_new w _).trans (b1.mono (by simp))
    have bx := (Box.new w _ _).below b1
    clear NA
    obtain ⟨c0, c1⟩ := bx.two
    go_wp2_with fail
    refine (toNetwork_any nv0 pv0 n0 _ (w0.below B) hl1 hl2).mono ?_
    rintro e w2 ⟨nv1, pv1, rfl, o1, q1, b2⟩
    clear c0 c1
    have B := B.trans (b2.mono B.size)
    have bx := bx.below b2
    go_wp2_with fail
    refine (spec_CycleBasis_any nv1 pv1 n0 _ o1.at).mono ?_
    rw [← HP.out]
    rintro e w3 ⟨rw0, rfl, ⟨vs0, bs0, W0⟩, b3⟩
    have hvW := W0.row.lt
    have hrW := W0.rg
    have B := B.trans (b3.mono B.size)
    have bx := bx.below b3
    have zbx := bx.1
    clear o1 q1
    obtain ⟨c0, c1⟩ := bx.two
    go_wp2_with fail
    refine (toNetwork_sep nv0 pv0 n0 _ (w0.below B) hl1 hl2).mono ?_
    rintro e w4 ⟨nv2, pv2, rfl, o2, q2, b4⟩
    clear c0 c1
    obtain ⟨aa2, kk2, rfl⟩ := o2.own.at.1.shape
    obtain ⟨aa3, kk3, rfl⟩ := o2.own.at.2.2.shape
    have b4' := (b4.alloc b4.size (.cells #[.slice aa2 n0.nodes.length kk2, .slice aa3 n0.pipes.length kk3] 27))
    have B := B.trans (b4'.mono B.size)
    have bx := bx.below b4'
    have W0 := W0.below b4'
    have by5 := Box.new w4 #[.slice aa2 n0.nodes.length kk2, .slice aa3 n0.pipes.length kk3] 27
    have NX := o2.below (below_new w4 (.cells #[.slice aa2 n0.nodes.length kk2, .slice aa3 n0.pipes.length kk3] 27))
    have z3 := b3.size
    have z4 := b4.size
    clear b4 b4' o2
    go_wp2_with fail
    refine (impl_CycleBasis_any _ _ n0 _ NX.own.at q2.1).mono ?_
    rw [← HP.out]
    rintro e w5 ⟨rg0, rfl, ⟨vs1, bs1, G0⟩, b5⟩
    have hvG := G0.row.lt
    have hrG := G0.rg
    have B := B.trans (b5.mono B.size)
    have bx := bx.below b5
    have by5 := by5.below b5
    have W0 := W0.below b5
    have NX := NX.below b5
    have z5 := b5.size
    simp only [World.size_alloc] at z5
    clear b5
    go_wp2_with fail
    refine (eqInt64SS_t _ _ _ _ G0.reads W0.reads (by omega)).mono ?_
    rintro e w6 ⟨rfl, b6⟩
    have B := B.trans (b6.mono B.size)
    have bx := bx.below b6
    have by5 := by5.below b6
    have W0 := W0.below b6
    have G0 := G0.below b6
    have NX := NX.below b6
    have z6 := b6.size
    clear b6
    obtain ⟨c0, c1⟩ := bx.two
    obtain ⟨d0, d1⟩ := by5.two
    go_wp2_with fail
    go_region_with (first
      | (go_at_call 33; refine (toNetwork_any nv0 pv0 n0 _ ((w0.below B).below (Below.refl _ _).drew) hl1 hl2).mono ?_; rintro e w7 ⟨nv6, pv6, rfl, o6, q6, b7⟩; have b7 := below_undrew b7; have NX := NX.below b7; have by5 := by5.below b7; obtain ⟨d6, d7⟩ := by5.two; clear c0 c1 d0 d1 q6)
      | (go_at_call 35; refine (eqNetwork_t _ _ nv6 pv6 n0 _ NX.own.at o6.at).mono ?_; rintro e w8 ⟨rfl, b8⟩))
    all_goals
      have b8 := b7.trans (b8.mono b7.size)
      clear o6 NX by5 d6 d7
      have B := B.trans (b8.mono B.size)
      have bx := bx.below b8
      have by5 := by5.below b8
      have W0 := W0.below b8
      have G0 := G0.below b8
      have NX := NX.below b8
      have z8 := b8.size
      clear b7 b8
      obtain ⟨d0, d1⟩ := by5.two
      have hk0 : ¬ (((mkEnd 1 n0 : Nat) : Int) < 0) := by omega
      go_wp2_with fail
      refine (markNetwork_any _ _ _ _ n0 1 _ NX (by omega) (by omega) hl1 hl2 (by omega)).mono ?_
      rintro e w9 ⟨rfl, k9⟩
      have z9 := k9.size
      clear d0 d1 NX by5
      have bx := bx.kept k9 (by omega)
      have W0 := W0.kept k9 (fun b hb hx => by have h1 := hvW b hb; have h3 := hx.1; have h4 := hx.2; omega) (fun b hb hx => by have h1 := hrW b hb; have h3 := hx.1; have h4 := hx.2; omega)
      have G0 := G0.kept k9 (fun b hb hx => by have h1 := hvG b hb; have h4 := hx.2; simp only [World.size_alloc] at h1; omega) (fun b hb hx => by have h1 := hrG b hb; have h4 := hx.2; simp only [World.size_alloc] at h1; omega)
      have B := B.trans (k9.below (B := w.heap.size) B.size (fun k hx => by have h3 := hx.1; omega))
      clear k9
      go_wp2_with fail
      refine (eqInt64SS_t _ _ _ _ G0.reads W0.reads (by omega)).mono ?_
      rintro e w10 ⟨rfl, b10⟩
      have B := B.trans (b10.mono B.size)
      have bx := bx.below b10
      have W0 := W0.below b10
      have G0 := G0.below b10
      have z10 := b10.size
      clear b10
      go_wp2_with fail
      refine (markInt64SS_any _ _ _ _ _ _ _ 1 _ G0 (by omega) (by omega) (by omega)).mono ?_
      rintro e w11 ⟨rfl, G1, k11⟩
      have z11 := k11.size
      clear G0
      have bx := bx.kept k11 (fun hx => by have h3 := (hrG _ hx).1; simp only [World.size_alloc] at h3; omega)
      have W0 := W0.kept k11 (fun b hb hx => by have h1 := hvW b hb; have h3 := (hrG _ hx).1; simp only [World.size_alloc] at h3; omega) (fun b hb hx => by have h1 := hrW b hb; have h3 := (hrG _ hx).1; simp only [World.size_alloc] at h3; omega)
      have B := B.trans (k11.below (B := w.heap.size) B.size (fun k hx => by have h3 := (hrG _ hx).1; simp only [World.size_alloc] at h3; omega))
      clear k11
      go_wp2_with fail
      refine (heldInt64SS_any _ _ 1 _ G1.reads (by omega) (by omega) (by omega)).mono ?_
      rintro e w' ⟨rfl, rfl⟩
      obtain ⟨c0, c1⟩ := bx.two
      go_wp2_with fail
      refine (toNetwork_any nv0 pv0 n0 _ (w0.below B) hl1 hl2).mono ?_
      rintro e w12 ⟨nv7, pv7, rfl, o7, q7, b12⟩
      clear c0 c1
      have B := B.trans (b12.mono B.size)
      have W0 := W0.below b12
      have G1 := G1.below b12
      clear b12
      go_wp2_with fail
      refine (impl_CycleBasis_any _ _ n0 _ o7.at q7.1).mono ?_
      rw [← HP.out]
      rintro e w13 ⟨rh0, rfl, ⟨vs2, bs2, H0⟩, b13⟩
      have B := B.trans (b13.mono B.size)
      have W0 := W0.below b13
      have G1 := G1.below b13
      clear b13 o7
      go_wp2_with fail
      refine (eqInt64SS_t _ _ _ _ H0.reads W0.reads (by omega)).mono ?_
      rintro e w14 ⟨rfl, b14⟩
      have B := B.trans (b14.mono B.size)
      have G1 := G1.below b14
      clear b14
      go_wp2_with fail
      refine (heldInt64SS_any _ _ 1 _ G1.reads (by omega) (by omega) (by omega)).mono ?_
      rintro e w' ⟨rfl, rfl⟩
      go_wp2_with fail
      go_ret
      exact ⟨rfl, B⟩
  · have hr : Hid (szL 1048576 (netSz n0) = -1) := if_neg h
    have NA := w0.below (below_new w (.cells #[nv0, pv0] 44))
    go_enter Try.func12, Try.ntmps12
    go_wp2_with fail
    refine (szNetwork_any nv0 pv0 n0 1048576 _ NA (by omega) (by omega)).mono ?_
    rw [hr.out]
    rintro e w1 ⟨rfl, b1⟩
    have B := (below_new w _).trans (b1.mono (by simp))
    go_wp2_with fail
    go_ret
    exact ⟨rfl, B⟩

set_option maxRecDepth 100000 in
theorem lifted (os : Os) (started : os.Started) (H : Type) (enc : TypeId × Value → H) :
    ReturnsInHanded {} Try.checked os 12 .any (Rows.fnExactCycleBasisSpec.pre6 enc Try.prog Try.f12 Rows.fnExactCycleBasisRow.domain false) (Rows.fnExactCycleBasisSpec.post enc Try.prog Try.f12 false true false false) := by
  refine returnsInHanded_of_change (C := Try.checked) own started (by kernel_rfl) Try.func12
    (ChangeSpec.witness6 (enc := enc) (C := Try.checked) false ⟨#[], #[.agg #[.slice none 0 0, .slice none 0 0]], []⟩ 8 (by kernel_rfl) (by kernel_rfl) (by kernel_rfl) (by kernel_rfl)) ?_
  intro W base args ds gs before hval0 hW hcnd _
  have hval : ∀ (j : Nat) t v, Try.f12.params[j]? = some t → args[j]? = some v → Value.okWide Try.prog W .any base t v := hval0
  have hW' := hW
  obtain ⟨p, q, hA0, hV, rfl, hfz, hnd⟩ := hW
  have hA : DataW.TrodAll enc Try.prog W 0 (fun _ => true) true Try.f12.params.toList args.toList ds p := hA0
  rw [Try.params12] at hA hval
  obtain ⟨v0, vs0, d0, ds0, p0, q0, hargs, rfl, rfl, h0, r0⟩ := trodAll_cons hA
  obtain ⟨rfl, rfl, rfl⟩ := trodAll_nil r0
  obtain rfl : args = #[v0] := by cases args; simp_all
  obtain ⟨rfl, rfl⟩ := trodVars_none hV
  have k0 := h0
  have lt0 : ∀ x ∈ p0, x.block < W.heap.size := by obtain ⟨m, hm⟩ := k0; exact DataW.trod_lt m _ _ _ hm
  obtain ⟨nv0, pv0, n0, rfl, w0⟩ := open_net (hval 0 44 v0 rfl rfl) h0
  clear hA0 hval0
  refine (walk nv0 pv0 n0 W w0).mono fun e W' ⟨he, bel⟩ => ?_
  subst he
  exact ⟨_, rfl, _, _, _, [], _, [], hW', trodAll_mk1 (shut_bool Try.underlying4 _), (trodAll_cons_mk (Below.trod laidOut (by kernel_rfl) (of_decide_eq_true (by kernel_rfl)) k0 bel lt0) trodAll_mk0), rfl, bel.frame _, fun h => by cases h⟩

theorem cThree : ((Rows.fnExactCycleBasisRow.lifted == Try.prog.liftsFinal) && (Try.prog.make == some Rows.fnExactCycleBasisRow.make) && Try.prog.mayEnter) = true := by kernel_rfl
theorem cAll : ((Rows.fnExactCycleBasisRow.lifted == Try.prog.liftsFinal) = true ∧ (Try.prog.make == some Rows.fnExactCycleBasisRow.make) = true) ∧ Try.prog.mayEnter = true := by
  have h := cThree
  simp only [Bool.and_eq_true] at h
  exact h
set_option maxHeartbeats 100000000 in
theorem closed : joinedFacts Try.prog 12 Try.f12 Rows.fnExactCycleBasisSpec Rows.fnExactCycleBasisRow = true := by
  unfold joinedFacts
  simp only [Bool.and_eq_true]
  repeat' apply And.intro
  all_goals first | with_reducible exact cAll.1.1 | with_reducible exact cAll.1.2 | with_reducible exact cAll.2 | (as_aux_lemma => kernel_rfl)

theorem over : Rows.fnExactCycleBasisRow.holds Try.pinned (OpenSpec.ofChange Rows.fnExactCycleBasisSpec) :=
  OpenClaim.holds_of_wide 12 Try.f12 rfl rfl rfl rfl rfl rfl rfl ⟨rfl, rfl, rfl, rfl, rfl⟩ rfl rfl rfl rfl rfl (by kernel_rfl) Try.func12 closed
    (of_decide_eq_true (by kernel_rfl)) (by unfold Func.isWrapper; first | (rw [if_pos (by decide +kernel)]; kernel_rfl) | (rw [if_neg (by decide +kernel)]; exact ⟨rfl, rfl⟩))
    (fun os started H enc _ => lifted os started H enc)

theorem proved : Rows.FnExactCycleBasisSaid := over
#print axioms proved
end Go.Proofs.Ytdapdaadglaoiaa.fnExactCycleBasis
