/- 'FnExactWithoutPipe' is proved: the law returns true for every input. The frame follows the kit's proof-skeleton. -/
import Derived.Test.YtiabkhgpeneoiaaRows
import Derived.WalkKit
import Derived.ProofKit
import Derived.OpenShut
import Derived.ShutString
import Derived.ChangeOld
import Derived.Below
import Derived.Test.YtiabkhgpeneoiaaOpen
import Derived.Test.YtiabkhgpeneoiaaDelS
import Derived.Test.YtiabkhgpeneoiaaHeld
import Derived.Test.YtiabkhgpeneoiaaNetEq
namespace Go.Proofs.Ytiabkhgpeneoiaa.fnExactWithoutPipe
open Go.ChangeShapes Go.WideShapes Go.ChangeAt Go.RowKit
open Go.ChangeMaps (open_string shut_string)
open Go.Joins
set_option linter.unusedVariables false

theorem own : ownKnob Try.prog.godebug = none := by kernel_rfl
theorem laidOut : laidOutB Try.prog = true := by kernel_rfl

set_option maxRecDepth 100000 in
theorem open_net {H : Type} {enc : TypeId × Value → H} {W : World} {base : Nat} {v : Value} {d : DataW H} {p : List MemPlace} (hv : Value.okWide Try.prog W .any base 32 v) (h : DataW.Trod enc Try.prog W 0 (fun _ => true) true 32 v d p) :
    ∃ nv pv n, v = .agg #[nv, pv] ∧ NetAt W nv pv n := by
  obtain ⟨v0, v1, y0, y1, m, rfl, _, _, h0, h1⟩ := open_agg2 Try.underlying32 (by kernel_rfl) (by kernel_rfl) hv h
  obtain ⟨ns, hn, hq⟩ := open_rows encN 3 (by decide) (fun _ => rfl) (fun x => x.name.size ≤ 9223372036854775807) Try.underlying29 (by kernel_rfl) (node_cells Try.underlying23 rfl rfl rfl (by kernel_rfl) (by kernel_rfl) (by kernel_rfl) Try.underlying9 Try.underlying2 Try.underlying2) h0
  obtain ⟨ps, hp, _⟩ := open_rows encP 5 (by decide) (fun _ => rfl) (fun _ => True) Try.underlying30 (by kernel_rfl) (pipe_cells Try.underlying100 rfl rfl rfl rfl rfl (by kernel_rfl) (by kernel_rfl) (by kernel_rfl) (by kernel_rfl) (by kernel_rfl) Try.underlying2 Try.underlying2 Try.underlying2 Try.underlying2 Try.underlying2) h1
  exact ⟨v0, v1, ⟨ns, ps⟩, rfl, hn, hq, hp⟩


set_option maxHeartbeats 1000000 in
theorem walk (nv0 pv0 : Value) (n0 : Net) (a1 : Int) (w : World) (w0 : NetAt w nv0 pv0 n0) (w1 : (Lit.int .i64 a1).wf = true) :
    Calls Try.prog 13 #[.agg #[nv0, pv0], .int .i64 a1] w fun e w' => e = .returned (.bool true) ∧ Below w.heap.size w w' := by
  by_cases h : (netSz n0 : Int) ≤ 1048576
  · have hr : Hid (szL 1048576 (netSz n0) = 1048576 - netSz n0) := if_pos h
    have hneg : ¬ (1048576 - (netSz n0 : Int) < 0) := by omega
    have hl1 : n0.nodes.length ≤ 2000000 := by unfold netSz at h; omega
    have hl2 : n0.pipes.length ≤ 2000000 := by unfold netSz at h; omega
    obtain ⟨P, hP⟩ : ∃ P, P = wpR n0 a1 := ⟨_, rfl⟩
    have HP := hid hP
    have hq1 : P.1.nodes.length ≤ 2000000 := by subst hP; exact (wpR_len n0 a1 hl1 hl2).1
    have hq2 : P.1.pipes.length ≤ 2000000 := by subst hP; exact (wpR_len n0 a1 hl1 hl2).2
    clear hP
    have NA := w0.below (below_new w (.cells #[nv0, pv0] 32))
    go_enter Try.func13, Try.ntmps13
    go_wp2_with fail
    refine (szNetwork_any nv0 pv0 n0 1048576 _ NA (by omega) (by omega)).mono ?_
    rw [hr.out]
    rintro e w1 ⟨rfl, b1⟩
    have B := (below_new w _).trans (b1.mono (by simp))
    have bx := (Box.new w _ _).below b1
    clear NA
    obtain ⟨c0, c1⟩ := bx.two
    go_wp2_with fail
    refine (toNetwork_any nv0 pv0 n0 _ (w0.below B) hl1 hl2).mono ?_
    rintro e w2 ⟨nv1, pv1, rfl, o1, q1, b2⟩
    clear c0 c1
    have B := B.trans (b2.mono B.size)
    have bx := bx.below b2
    go_wp2_with fail
    refine (spec_WithoutPipe_any nv1 pv1 n0 a1 _ o1.at q1.2).mono ?_
    rw [← HP.out]
    rintro e w3 ⟨rnw, rpw, rfl, W0, _, b3⟩
    obtain ⟨wa, wc, rfl⟩ := W0.at.1.shape
    obtain ⟨wb, wd, rfl⟩ := W0.at.2.2.shape
    clear o1 q1
    have b3' := (b3.alloc b3.size (.cells #[.slice wa P.1.nodes.length wc, .slice wb P.1.pipes.length wd] 38))
    have B := B.trans (b3'.mono B.size)
    have bx := bx.below b3'
    have byw := Box.new w3 #[.slice wa P.1.nodes.length wc, .slice wb P.1.pipes.length wd] 38
    have W0 := W0.below (below_new w3 (.cells #[.slice wa P.1.nodes.length wc, .slice wb P.1.pipes.length wd] 38))
    have zbx := bx.1
    simp only [World.size_alloc] at zbx
    have z3 := b3.size
    clear b3 b3'
    obtain ⟨c0, c1⟩ := bx.two
    go_wp2_with fail
    refine (toNetwork_sep nv0 pv0 n0 _ (w0.below B) hl1 hl2).mono ?_
    rintro e w4 ⟨nv2, pv2, rfl, o2, q2, b4⟩
    clear c0 c1
    obtain ⟨aa2, kk2, rfl⟩ := o2.own.at.1.shape
    obtain ⟨aa3, kk3, rfl⟩ := o2.own.at.2.2.shape
    have b4' := (b4.alloc b4.size (.cells #[.slice aa2 n0.nodes.length kk2, .slice aa3 n0.pipes.length kk3] 38))
    have B := B.trans (b4'.mono B.size)
    have bx := bx.below b4'
    have byw := byw.below b4'
    have W0 := W0.below b4'
    have by5 := Box.new w4 #[.slice aa2 n0.nodes.length kk2, .slice aa3 n0.pipes.length kk3] 38
    have o2 := o2.below (below_new w4 (.cells #[.slice aa2 n0.nodes.length kk2, .slice aa3 n0.pipes.length kk3] 38))
    have NX := o2
    have z4 := b4.size
    simp only [World.size_alloc] at z4
    clear b4 b4' o2
    obtain ⟨d0, d1⟩ := by5.two
    go_wp2_with fail
    refine (impl_WithoutPipe_any _ _ n0 a1 _ NX.own.at q2.1).mono ?_
    rw [← HP.out]
    rintro e w5 ⟨rng, rpg, rfl, G0, _, b5⟩
    clear d0 d1
    obtain ⟨ga, gc, rfl⟩ := G0.at.1.shape
    obtain ⟨gb, gd, rfl⟩ := G0.at.2.2.shape
    have b5' := (b5.alloc b5.size (.cells #[.slice ga P.1.nodes.length gc, .slice gb P.1.pipes.length gd] 38))
    have B := B.trans (b5'.mono B.size)
    have bx := bx.below b5'
    have byw := byw.below b5'
    have by5 := by5.below b5'
    have W0 := W0.below b5'
    have NX := NX.below b5'
    have byg := Box.new w5 #[.slice ga P.1.nodes.length gc, .slice gb P.1.pipes.length gd] 38
    have G0 := G0.below (below_new w5 (.cells #[.slice ga P.1.nodes.length gc, .slice gb P.1.pipes.length gd] 38))
    have z5 := b5.size
    simp only [World.size_alloc] at z5
    clear b5 b5'
    obtain ⟨d0, d1⟩ := byg.two
    obtain ⟨e0, e1⟩ := byw.two
    go_wp2_with fail
    refine (eqNetwork_t _ _ _ _ P.1 _ G0.at W0.at).mono ?_
    rintro e w6 ⟨rfl, b6⟩
    clear d0 d1 e0 e1
    have B := B.trans (b6.mono B.size)
    have bx := bx.below b6
    have byw := byw.below b6
    have by5 := by5.below b6
    have byg := byg.below b6
    have W0 := W0.below b6
    have G0 := G0.below b6
    have NX := NX.below b6
    have z6 := b6.size
    simp only [World.size_alloc] at z6
    clear b6
    obtain ⟨c0, c1⟩ := bx.two
    obtain ⟨d0, d1⟩ := by5.two
    go_wp2_with fail
    go_region_with (first
      | (go_at_call 21; refine (toNetwork_any nv0 pv0 n0 _ ((w0.below B).below (Below.refl _ _).drew) hl1 hl2).mono ?_; rintro e w7 ⟨nv6, pv6, rfl, o6, q6, b7⟩; have b7 := below_undrew b7; have NX := NX.below b7; have by5 := by5.below b7; obtain ⟨d6, d7⟩ := by5.two; clear c0 c1 d0 d1 q6)
      | (go_at_call 23; refine (eqNetwork_t _ _ nv6 pv6 n0 _ NX.own.at o6.at).mono ?_; rintro e w8 ⟨rfl, b8⟩))
    all_goals
      have b8 := b7.trans (b8.mono b7.size)
      clear o6 NX by5 d6 d7
      have B := B.trans (b8.mono B.size)
      have bx := bx.below b8
      have byw := byw.below b8
      have by5 := by5.below b8
      have byg := byg.below b8
      have W0 := W0.below b8
      have G0 := G0.below b8
      have NX := NX.below b8
      have z8 := b8.size
      clear b7 b8
      obtain ⟨d0, d1⟩ := by5.two
      have hk0 : ¬ (((mkEnd 1 n0 : Nat) : Int) < 0) := by omega
      have hk1 : ¬ (((mkEnd 1 P.1 : Nat) : Int) < 0) := by omega
      go_wp2_with fail
      refine (markNetwork_any _ _ _ _ n0 1 _ NX (by omega) (by omega) hl1 hl2 (by omega)).mono ?_
      rintro e w9 ⟨rfl, k9⟩
      have z9 := k9.size
      clear d0 d1 NX by5
      simp only [World.size_alloc] at k9
      have bx := bx.kept k9 (by omega)
      have byw := byw.kept k9 (by omega)
      have byg := byg.kept k9 (by omega)
      have W0 := W0.kept k9 (fun b h1 h2 hx => by omega)
      have G0 := G0.kept k9 (fun b h1 h2 hx => by simp only [World.size_alloc] at h1; omega)
      have B := B.trans (k9.below (B := w.heap.size) B.size (fun k hx => by omega))
      clear k9
      obtain ⟨d0, d1⟩ := byg.two
      obtain ⟨e0, e1⟩ := byw.two
      go_wp2_with fail
      refine (eqNetwork_t _ _ _ _ P.1 _ G0.at W0.at).mono ?_
      rintro e w10 ⟨rfl, b10⟩
      clear d0 d1 e0 e1
      have B := B.trans (b10.mono B.size)
      have bx := bx.below b10
      have byw := byw.below b10
      have byg := byg.below b10
      have W0 := W0.below b10
      have G0 := G0.below b10
      have z10 := b10.size
      clear b10
      obtain ⟨d0, d1⟩ := byg.two
      go_wp2_with fail
      refine (markNetwork_apart _ _ _ _ P.1 1 _ G0 (by omega) (by omega) hq1 hq2 (by omega)).mono ?_
      rintro e w11 ⟨rfl, M1, M2, k11⟩
      have z11 := k11.size
      clear d0 d1 G0
      simp only [World.size_alloc] at k11
      have bx := bx.kept k11 (by omega)
      have byw := byw.kept k11 (by omega)
      have byg := byg.kept k11 (by omega)
      have W0 := W0.kept k11 (fun b h1 h2 hx => by omega)
      have B := B.trans (k11.below (B := w.heap.size) B.size (fun k hx => by omega))
      clear k11
      obtain ⟨d0, d1⟩ := byg.two
      go_wp2_with fail
      refine (heldNetwork_any _ _ P.1 1 _ M1.at M2.at (by omega) hq1 hq2 (by omega)).mono ?_
      rintro e w12 ⟨rfl, b12⟩
      clear d0 d1
      have B := B.trans (b12.mono B.size)
      have bx := bx.below b12
      have byw := byw.below b12
      have byg := byg.below b12
      have W0 := W0.below b12
      have M1 := M1.below b12
      have M2 := M2.below b12
      clear b12
      obtain ⟨c0, c1⟩ := bx.two
      go_wp2_with fail
      refine (toNetwork_any nv0 pv0 n0 _ (w0.below B) hl1 hl2).mono ?_
      rintro e w13 ⟨nv7, pv7, rfl, o7, q7, b13⟩
      clear c0 c1
      have B := B.trans (b13.mono B.size)
      have byw := byw.below b13
      have byg := byg.below b13
      have W0 := W0.below b13
      have M1 := M1.below b13
      have M2 := M2.below b13
      clear b13
      go_wp2_with fail
      refine (impl_WithoutPipe_any _ _ n0 a1 _ o7.at q7.1).mono ?_
      rw [← HP.out]
      rintro e w14 ⟨rnh, rph, rfl, H0, _, b14⟩
      obtain ⟨ha, hc, rfl⟩ := H0.at.1.shape
      obtain ⟨hb, hd, rfl⟩ := H0.at.2.2.shape
      have b14' := (b14.alloc b14.size (.cells #[.slice ha P.1.nodes.length hc, .slice hb P.1.pipes.length hd] 38))
      have B := B.trans (b14'.mono B.size)
      have byw := byw.below b14'
      have byg := byg.below b14'
      have W0 := W0.below b14'
      have M1 := M1.below b14'
      have M2 := M2.below b14'
      have byh := Box.new w14 #[.slice ha P.1.nodes.length hc, .slice hb P.1.pipes.length hd] 38
      have H0 := H0.below (below_new w14 (.cells #[.slice ha P.1.nodes.length hc, .slice hb P.1.pipes.length hd] 38))
      clear b14 b14' o7
      obtain ⟨d0, d1⟩ := byh.two
      obtain ⟨e0, e1⟩ := byw.two
      go_wp2_with fail
      refine (eqNetwork_t _ _ _ _ P.1 _ H0.at W0.at).mono ?_
      rintro e w15 ⟨rfl, b15⟩
      clear d0 d1 e0 e1
      have B := B.trans (b15.mono B.size)
      have byg := byg.below b15
      have M1 := M1.below b15
      have M2 := M2.below b15
      clear b15
      obtain ⟨d0, d1⟩ := byg.two
      go_wp2_with fail
      refine (heldNetwork_any _ _ P.1 1 _ M1.at M2.at (by omega) hq1 hq2 (by omega)).mono ?_
      rintro e w16 ⟨rfl, b16⟩
      have B := B.trans (b16.mono B.size)
      clear b16 d0 d1
      go_wp2_with fail
      go_ret
      exact ⟨rfl, B⟩
  · have hr : Hid (szL 1048576 (netSz n0) = -1) := if_neg h
    have NA := w0.below (below_new w (.cells #[nv0, pv0] 32))
    go_enter Try.func13, Try.ntmps13
    go_wp2_with fail
    refine (szNetwork_any nv0 pv0 n0 1048576 _ NA (by omega) (by omega)).mono ?_
    rw [hr.out]
    rintro e w1 ⟨rfl, b1⟩
    have B := (below_new w _).trans (b1.mono (by simp))
    go_wp2_with fail
    go_ret
    exact ⟨rfl, B⟩

set_option maxRecDepth 100000 in
theorem lifted (os : Os) (started : os.Started) (H : Type) (enc : TypeId × Value → H) :
    ReturnsInHanded {} Try.checked os 13 .any (Rows.fnExactWithoutPipeSpec.pre6 enc Try.prog Try.f13 Rows.fnExactWithoutPipeRow.domain false) (Rows.fnExactWithoutPipeSpec.post enc Try.prog Try.f13 false true false false) := by
  refine returnsInHanded_of_change (C := Try.checked) own started (by kernel_rfl) Try.func13
    (ChangeSpec.witness6 (enc := enc) (C := Try.checked) false ⟨#[], #[.agg #[.slice none 0 0, .slice none 0 0], .int .i64 0], []⟩ 8 (by kernel_rfl) (by kernel_rfl) (by kernel_rfl) (by kernel_rfl)) ?_
  intro W base args ds gs before hval0 hW hcnd _
  have hval : ∀ (j : Nat) t v, Try.f13.params[j]? = some t → args[j]? = some v → Value.okWide Try.prog W .any base t v := hval0
  have hW' := hW
  obtain ⟨p, q, hA0, hV, rfl, hfz, hnd⟩ := hW
  have hA : DataW.TrodAll enc Try.prog W 0 (fun _ => true) true Try.f13.params.toList args.toList ds p := hA0
  rw [Try.params13] at hA hval
  obtain ⟨v0, vs0, d0, ds0, p0, q0, hargs, rfl, rfl, h0, r0⟩ := trodAll_cons hA
  obtain ⟨v1, vs1, d1, ds1, p1, q1, rfl, rfl, rfl, h1, r1⟩ := trodAll_cons r0
  obtain ⟨rfl, rfl, rfl⟩ := trodAll_nil r1
  obtain rfl : args = #[v0, v1] := by cases args; simp_all
  obtain ⟨rfl, rfl⟩ := trodVars_none hV
  have k0 := h0
  have lt0 : ∀ x ∈ p0, x.block < W.heap.size := by obtain ⟨m, hm⟩ := k0; exact DataW.trod_lt m _ _ _ hm
  obtain ⟨nv0, pv0, n0, rfl, w0⟩ := open_net (hval 0 32 v0 rfl rfl) h0
  obtain ⟨a1, rfl, rfl, rfl, w1⟩ := open_int Try.underlying2 (hval 1 2 v1 rfl rfl) h1
  clear hA0 hval0
  refine (walk nv0 pv0 n0 a1 W w0 w1).mono fun e W' ⟨he, bel⟩ => ?_
  subst he
  exact ⟨_, rfl, _, _, _, [], _, [], hW', trodAll_mk1 (shut_bool Try.underlying4 _), (trodAll_cons_mk (Below.trod laidOut (by kernel_rfl) (of_decide_eq_true (by kernel_rfl)) k0 bel lt0) (trodAll_cons_mk (shut_int Try.underlying2 w1) trodAll_mk0)), rfl, bel.frame _, fun h => by cases h⟩

theorem over : Rows.fnExactWithoutPipeRow.holds Try.pinned (OpenSpec.ofChange Rows.fnExactWithoutPipeSpec) :=
  OpenClaim.holds_of_wide 13 Try.f13 rfl rfl rfl rfl rfl rfl rfl ⟨rfl, rfl, rfl, rfl, rfl⟩ rfl rfl rfl rfl rfl (by kernel_rfl) Try.func13 (by kernel_rfl)
    (of_decide_eq_true (by kernel_rfl)) (by unfold Func.isWrapper; first | (rw [if_pos (by decide +kernel)]; kernel_rfl) | (rw [if_neg (by decide +kernel)]; exact ⟨rfl, rfl⟩))
    (fun os started H enc _ => lifted os started H enc)

theorem proved : Rows.FnExactWithoutPipeSaid := over
#print axioms proved
end Go.Proofs.Ytiabkhgpeneoiaa.fnExactWithoutPipe
