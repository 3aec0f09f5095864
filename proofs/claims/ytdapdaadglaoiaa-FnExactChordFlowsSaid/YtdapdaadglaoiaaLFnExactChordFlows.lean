/- 'FnExactChordFlows' is proved: the law returns true for every input. The frame follows the kit's proof-skeleton. -/
import Derived.Test.YtdapdaadglaoiaaRows
import Derived.WalkKit
import Derived.ProofKit
import Derived.OpenShut
import Derived.ShutString
import Derived.ChangeOld
import Derived.Below
import Derived.Test.YtdapdaadglaoiaaOpen
import Derived.Test.YtdapdaadglaoiaaChF
import Derived.Test.YtdapdaadglaoiaaNetEq
import Derived.Test.YtdapdaadglaoiaaMark
import Derived.Test.YtdapdaadglaoiaaEx
namespace Go.Proofs.Ytdapdaadglaoiaa.fnExactChordFlows
open Go.ChangeShapes Go.WideShapes Go.ChangeAt Go.RowKit
open Go.ChangeMaps (open_string shut_string)
open Go.Joins
set_option linter.unusedVariables false

theorem own : ownKnob Try.prog.godebug = none := by kernel_rfl
theorem laidOut : laidOutB Try.prog = true := by kernel_rfl

set_option maxRecDepth 100000 in
theorem open_net {H : Type} {enc : TypeId × Value → H} {W : World} {base : Nat} {v : Value} {d : DataW H} {p : List MemPlace} (hv : Value.okWide Try.prog W .any base 44 v) (h : DataW.Trod enc Try.prog W 0 (fun _ => true) true 44 v d p) :
    ∃ nv pv n, v = .agg #[nv, pv] ∧ NetAt W nv pv n := by
  obtain ⟨v0, v1, y0, y1, m, rfl, _, _, h0, h1⟩ := open_agg2 Try.underlying44 (by kernel_rfl) (by kernel_rfl) hv h
  obtain ⟨ns, hn, hq⟩ := open_rows encN 3 (by decide) (fun _ => rfl) (fun x => x.name.size ≤ 9223372036854775807) Try.underlying41 (by kernel_rfl) (node_cells Try.underlying132 rfl rfl rfl (by kernel_rfl) (by kernel_rfl) (by kernel_rfl) Try.underlying9 Try.underlying2 Try.underlying2) h0
  obtain ⟨ps, hp, _⟩ := open_rows encP 5 (by decide) (fun _ => rfl) (fun _ => True) Try.underlying42 (by kernel_rfl) (pipe_cells Try.underlying135 rfl rfl rfl rfl rfl (by kernel_rfl) (by kernel_rfl) (by kernel_rfl) (by kernel_rfl) (by kernel_rfl) Try.underlying2 Try.underlying2 Try.underlying2 Try.underlying2 Try.underlying2) h1
  exact ⟨v0, v1, ⟨ns, ps⟩, rfl, hn, hq, hp⟩


set_option maxHeartbeats 1000000 in
theorem walk (nv0 pv0 : Value) (n0 : Net) (a1 : Option Addr) (len1 cap1 : Nat) (z1 : List Int) (w : World) (w0 : NetAt w nv0 pv0 n0) (w1 : IsRow .i64 w a1 len1 cap1 z1) :
    Calls Try.prog 7 #[.agg #[nv0, pv0], .slice a1 len1 cap1] w fun e w' => e = .returned (.bool true) ∧ Below w.heap.size w w' := by
  by_cases hl : 1048576 < len1
  · go_enter Try.func7, Try.ntmps7
    go_wp2
    go_ret
    exact ⟨rfl, below_new _ _⟩
  obtain ⟨hI, hI2, _⟩ := w1.ints (by omega)
  generalize z1.take len1 = ws at *
  obtain rfl : len1 = ws.length := hI2.symm
  clear hI2 w1
  have hlI : ¬ ((1048576 : Int) < (ws.length : Int)) := by omega
  by_cases h : (netSz n0 : Int) ≤ 1048576
  case neg =>
    have hr : Hid (szL 1048576 (netSz n0) = -1) := if_neg h
    have NA := w0.below (below_new w (.cells #[nv0, pv0] 44))
    go_enter Try.func7, Try.ntmps7
    go_wp2_with fail
    refine (szNetwork_any nv0 pv0 n0 1048576 _ NA (by omega) (by omega)).mono ?_
    rw [hr.out]
    rintro e w1 ⟨rfl, b1⟩
    have B := (below_new w _).trans (b1.mono (by simp))
    go_wp2_with fail
    go_ret
    exact ⟨rfl, B⟩
  have hr : Hid (szL 1048576 (netSz n0) = 1048576 - netSz n0) := if_pos h
  have hneg : ¬ (1048576 - (netSz n0 : Int) < 0) := by omega
  have hl1 : n0.nodes.length ≤ 2000000 := by unfold netSz at h; omega
  have hl2 : n0.pipes.length ≤ 2000000 := by unfold netSz at h; omega
  obtain ⟨P, hP⟩ : ∃ P, P = cfR n0 ws := ⟨_, rfl⟩
  have HP := hid hP
  have hlen : P.1.length ≤ 2000000 := by subst hP; exact cfR_len n0 ws
  clear hP
  have NA := w0.below (below_new w (.cells #[nv0, pv0] 44))
  go_enter Try.func7, Try.ntmps7
  go_wp2_with fail
  refine (szNetwork_any nv0 pv0 n0 1048576 _ NA (by omega) (by omega)).mono ?_
  rw [hr.out]
  rintro e w1 ⟨rfl, b1⟩
  have B := (below_new w _).trans (b1.mono (by simp))
  have bx := (Box.new w _ _).below b1
  clear NA b1
  obtain ⟨c0, c1⟩ := bx.two
  go_wp2_with fail
  refine (toNetwork_any nv0 pv0 n0 _ (w0.below B) hl1 hl2).mono ?_
  rintro e w2 ⟨nv1, pv1, rfl, o1, q1, b2⟩
  clear c0 c1
  have B := B.trans (b2.mono B.size)
  have bx := bx.below b2
  clear b2
  go_wp2_with fail
  refine (toInt64S_any _ ws _ (hI.below B) (by omega)).mono ?_
  rintro e wa ⟨ya, rfl, Ya, ba⟩
  have B := B.trans (ba.mono B.size)
  have bx := bx.below ba
  have o1 := o1.below ba
  clear ba
  obtain ⟨_, yaa, yac, rfl, _⟩ := id Ya
  go_wp2_with fail
  refine (spec_ChordFlows_any _ _ _ n0 ws _ o1.at Ya.ints).mono ?_
  rw [← HP.out]
  rintro e w3 ⟨rw0, rfl, W0, b3⟩
  have B := B.trans (b3.mono B.size)
  have bx := bx.below b3
  have zbx := bx.1
  clear o1 q1 Ya
  obtain ⟨c0, c1⟩ := bx.two
  go_wp2_with fail
  refine (toNetwork_sep nv0 pv0 n0 _ (w0.below B) hl1 hl2).mono ?_
  rintro e w4 ⟨nv2, pv2, rfl, o2, q2, b4⟩
  clear c0 c1
  obtain ⟨aa2, kk2, rfl⟩ := o2.own.at.1.shape
  obtain ⟨aa3, kk3, rfl⟩ := o2.own.at.2.2.shape
  have b4' := (b4.alloc b4.size (.cells #[.slice aa2 n0.nodes.length kk2, .slice aa3 n0.pipes.length kk3] 27))
  have B := B.trans (b4'.mono B.size)
  have bx := bx.below b4'
  have W0 := W0.below b4'
  have by5 := Box.new w4 #[.slice aa2 n0.nodes.length kk2, .slice aa3 n0.pipes.length kk3] 27
  have NX := o2.below (below_new w4 (.cells #[.slice aa2 n0.nodes.length kk2, .slice aa3 n0.pipes.length kk3] 27))
  have z3 := b3.size
  have z4 := b4.size
  clear b4 b4' o2
  go_wp2_with fail
  refine (toInt64S_any _ ws _ (hI.below B) (by omega)).mono ?_
  rintro e wb ⟨yb, rfl, Yb, bb⟩
  have B := B.trans (bb.mono B.size)
  have bx := bx.below bb
  have by5 := by5.below bb
  have W0 := W0.below bb
  have NX := NX.below bb
  have zb := bb.size
  simp only [World.size_alloc] at zb
  clear bb
  obtain ⟨_, yba, ybc, rfl, _⟩ := id Yb
  obtain ⟨d0, d1⟩ := by5.two
  go_wp2_with fail
  refine (impl_ChordFlows_any _ _ _ n0 ws _ NX.own.at Yb.ints q2.1).mono ?_
  rw [← HP.out]
  rintro e w5 ⟨rg0, rfl, G0, b5⟩
  clear d0 d1
  have B := B.trans (b5.mono B.size)
  have bx := bx.below b5
  have by5 := by5.below b5
  have W0 := W0.below b5
  have NX := NX.below b5
  have Yb := Yb.below b5
  have z5 := b5.size
  clear b5
  go_wp2_with fail
  refine (eqInt64S_t _ _ _ _ G0.ints W0.ints).mono ?_
  rintro e w6 ⟨rfl, b6⟩
  have B := B.trans (b6.mono B.size)
  have bx := bx.below b6
  have by5 := by5.below b6
  have W0 := W0.below b6
  have G0 := G0.below b6
  have NX := NX.below b6
  have Yb := Yb.below b6
  have z6 := b6.size
  clear b6
  obtain ⟨c0, c1⟩ := bx.two
  obtain ⟨d0, d1⟩ := by5.two
  go_wp2_with fail
  go_region_with (first
    | (go_at_call 33; refine (toNetwork_any nv0 pv0 n0 _ ((w0.below B).below (Below.refl _ _).drew) hl1 hl2).mono ?_; rintro e w7 ⟨nv6, pv6, rfl, o6, q6, b7⟩; have b7 := below_undrew b7; have NX := NX.below b7; have by5 := by5.below b7; obtain ⟨d6, d7⟩ := by5.two; clear c0 c1 d0 d1 q6)
    | (go_at_call 35; refine (eqNetwork_t _ _ nv6 pv6 n0 _ NX.own.at o6.at).mono ?_; rintro e w8 ⟨rfl, b8⟩))
  all_goals
    have b8 := b7.trans (b8.mono b7.size)
    clear o6 NX by5 d6 d7
    have B := B.trans (b8.mono B.size)
    have bx := bx.below b8
    have by5 := by5.below b8
    have W0 := W0.below b8
    have G0 := G0.below b8
    have NX := NX.below b8
    have Yb := Yb.below b8
    have z8 := b8.size
    clear b7 b8
    go_wp2_with fail
    refine (toInt64S_any _ ws _ (hI.below B) (by omega)).mono ?_
    rintro e wc ⟨yc, rfl, Yc, bc⟩
    have B := B.trans (bc.mono B.size)
    have bx := bx.below bc
    have by5 := by5.below bc
    have W0 := W0.below bc
    have G0 := G0.below bc
    have NX := NX.below bc
    have Yb := Yb.below bc
    have zc := bc.size
    clear bc
    obtain ⟨_, yca, ycc, rfl, _⟩ := id Yc
    go_wp2_with fail
    refine (eqInt64S_t _ _ _ _ Yb.ints Yc.ints).mono ?_
    rintro e wd ⟨rfl, bd⟩
    have B := B.trans (bd.mono B.size)
    have bx := bx.below bd
    have by5 := by5.below bd
    have W0 := W0.below bd
    have G0 := G0.below bd
    have NX := NX.below bd
    have Yb := Yb.below bd
    have zd := bd.size
    clear bd Yc
    obtain ⟨d0, d1⟩ := by5.two
    go_wp2_with fail
    refine (markNetwork_any _ _ _ _ n0 1 _ NX (by omega) (by omega) hl1 hl2 (by omega)).mono ?_
    rintro e w9 ⟨rfl, k9⟩
    have z9 := k9.size
    clear d0 d1 NX by5
    have bx := bx.kept k9 (by omega)
    have W0 := W0.kept k9 (fun b _ hp hx => by have h1 := hp.1; have h2 := hp.2; have h3 := hx.1; have h4 := hx.2; omega)
    have G0 := G0.kept k9 (fun b _ hp hx => by have h1 := hp.1; have h4 := hx.2; omega)
    have Yb := Yb.kept k9 (fun b _ hp hx => by have h1 := hp.1; have h4 := hx.2; simp only [World.size_alloc] at h1; omega)
    have B := B.trans (k9.below (B := w.heap.size) B.size (fun k hx => by have h3 := hx.1; omega))
    have hm : mkEnd 1 n0 ≤ 100000000 := by unfold mkEnd; omega
    clear k9
    go_wp2_with fail
    refine (markInt64S_any _ _ _ ((mkEnd 1 n0 : Nat) : Int) _ Yb (by omega) (by omega)).mono ?_
    rintro e we ⟨rfl, Ye, ke⟩
    have ze := ke.size
    have bx := bx.kept ke (fun hx => by have h3 := hx.1; simp only [World.size_alloc] at h3; omega)
    have W0 := W0.kept ke (fun b _ hp hx => by have h1 := hp.1; have h2 := hp.2; have h3 := hx.1; simp only [World.size_alloc] at h3; omega)
    have G0 := G0.kept ke (fun b _ hp hx => by have h1 := hp.1; have h4 := hx.2; omega)
    have B := B.trans (ke.below (B := w.heap.size) B.size (fun k hx => by have h3 := hx.1; simp only [World.size_alloc] at h3; omega))
    have hk0 : ¬ ((((mkEnd 1 n0 : Nat) : Int) + (ws.length : Int)) < 0) := by omega
    clear ke Yb Ye
    go_wp2_with fail
    refine (eqInt64S_t _ _ _ _ G0.ints W0.ints).mono ?_
    rintro e w10 ⟨rfl, b10⟩
    have B := B.trans (b10.mono B.size)
    have bx := bx.below b10
    have W0 := W0.below b10
    have G0 := G0.below b10
    have z10 := b10.size
    clear b10
    go_wp2_with fail
    refine (markInt64S_any _ _ _ 1 _ G0 (by omega) (by omega)).mono ?_
    rintro e w11 ⟨rfl, G1, k11⟩
    have z11 := k11.size
    clear G0
    have bx := bx.kept k11 (fun hx => by have h3 := hx.1; omega)
    have W0 := W0.kept k11 (fun b _ hp hx => by have h1 := hp.1; have h2 := hp.2; have h3 := hx.1; omega)
    have B := B.trans (k11.below (B := w.heap.size) B.size (fun k hx => by have h3 := hx.1; omega))
    clear k11
    go_wp2_with fail
    refine (heldInt64S_any _ _ 1 _ G1.ints (by omega) (by omega)).mono ?_
    rintro e w' ⟨rfl, rfl⟩
    obtain ⟨c0, c1⟩ := bx.two
    go_wp2_with fail
    refine (toNetwork_any nv0 pv0 n0 _ (w0.below B) hl1 hl2).mono ?_
    rintro e w12 ⟨nv7, pv7, rfl, o7, q7, b12⟩
    clear c0 c1
    have B := B.trans (b12.mono B.size)
    have W0 := W0.below b12
    have G1 := G1.below b12
    clear b12
    go_wp2_with fail
    refine (toInt64S_any _ ws _ (hI.below B) (by omega)).mono ?_
    rintro e wf ⟨yf, rfl, Yf, bf⟩
    have B := B.trans (bf.mono B.size)
    have W0 := W0.below bf
    have G1 := G1.below bf
    have o7 := o7.below bf
    clear bf
    obtain ⟨_, yfa, yfc, rfl, _⟩ := id Yf
    go_wp2_with fail
    refine (impl_ChordFlows_any _ _ _ n0 ws _ o7.at Yf.ints q7.1).mono ?_
    rw [← HP.out]
    rintro e w13 ⟨rh0, rfl, H0, b13⟩
    have B := B.trans (b13.mono B.size)
    have W0 := W0.below b13
    have G1 := G1.below b13
    clear b13 o7
    go_wp2_with fail
    refine (eqInt64S_t _ _ _ _ H0.ints W0.ints).mono ?_
    rintro e w14 ⟨rfl, b14⟩
    have B := B.trans (b14.mono B.size)
    have G1 := G1.below b14
    clear b14
    go_wp2_with fail
    refine (heldInt64S_any _ _ 1 _ G1.ints (by omega) (by omega)).mono ?_
    rintro e w' ⟨rfl, rfl⟩
    go_wp2_with fail
    go_ret
    exact ⟨rfl, B⟩

set_option maxRecDepth 100000 in
theorem lifted (os : Os) (started : os.Started) (H : Type) (enc : TypeId × Value → H) :
    ReturnsInHanded {} Try.checked os 7 .any (Rows.fnExactChordFlowsSpec.pre6 enc Try.prog Try.f7 Rows.fnExactChordFlowsRow.domain false) (Rows.fnExactChordFlowsSpec.post enc Try.prog Try.f7 false true false false) := by
  refine returnsInHanded_of_change (C := Try.checked) own started (by kernel_rfl) Try.func7
    (ChangeSpec.witness6 (enc := enc) (C := Try.checked) false ⟨#[], #[.agg #[.slice none 0 0, .slice none 0 0], .slice none 0 0], []⟩ 8 (by kernel_rfl) (by kernel_rfl) (by kernel_rfl) (by kernel_rfl)) ?_
  intro W base args ds gs before hval0 hW hcnd _
  have hval : ∀ (j : Nat) t v, Try.f7.params[j]? = some t → args[j]? = some v → Value.okWide Try.prog W .any base t v := hval0
  have hW' := hW
  obtain ⟨p, q, hA0, hV, rfl, hfz, hnd⟩ := hW
  have hA : DataW.TrodAll enc Try.prog W 0 (fun _ => true) true Try.f7.params.toList args.toList ds p := hA0
  rw [Try.params7] at hA hval
  obtain ⟨v0, vs0, d0, ds0, p0, q0, hargs, rfl, rfl, h0, r0⟩ := trodAll_cons hA
  obtain ⟨v1, vs1, d1, ds1, p1, q1, rfl, rfl, rfl, h1, r1⟩ := trodAll_cons r0
  obtain ⟨rfl, rfl, rfl⟩ := trodAll_nil r1
  obtain rfl : args = #[v0, v1] := by cases args; simp_all
  obtain ⟨rfl, rfl⟩ := trodVars_none hV
  have k0 := h0
  have lt0 : ∀ x ∈ p0, x.block < W.heap.size := by obtain ⟨m, hm⟩ := k0; exact DataW.trod_lt m _ _ _ hm
  obtain ⟨nv0, pv0, n0, rfl, w0⟩ := open_net (hval 0 44 v0 rfl rfl) h0
  obtain ⟨a1, len1, cap1, rfl⟩ := okWide_slice Try.underlying33 (hval 1 33 v1 rfl rfl)
  have k1 := h1
  have lt1 : ∀ x ∈ p1, x.block < W.heap.size := by obtain ⟨m, hm⟩ := k1; exact DataW.trod_lt m _ _ _ hm
  obtain ⟨z1, w1⟩ : ∃ zs, IsRow .i64 W a1 len1 cap1 zs := by
    obtain ⟨fuel, hf⟩ := h1
    rcases open_ints Try.underlying33 Try.underlying2 (by kernel_rfl) hf with ⟨hcs, _⟩ | ⟨x, l, c, zs, hcs, _, hl, hm, hz, _, hcell, hwz⟩
    · simp [Value.cells] at hcs
      obtain ⟨rfl, rfl, rfl⟩ := hcs
      exact ⟨[], .inl ⟨rfl, rfl, rfl, rfl⟩⟩
    · simp [Value.cells] at hcs
      obtain ⟨rfl, rfl, rfl⟩ := hcs
      exact ⟨zs, .inr ⟨_, rfl, hl, hm, by simpa using hz, hcell, hwz⟩⟩
  clear hA0 hval0
  refine (walk nv0 pv0 n0 a1 len1 cap1 z1 W w0 w1).mono fun e W' ⟨he, bel⟩ => ?_
  subst he
  exact ⟨_, rfl, _, _, _, [], _, [], hW', trodAll_mk1 (shut_bool Try.underlying4 _), (trodAll_cons_mk (Below.trod laidOut (by kernel_rfl) (of_decide_eq_true (by kernel_rfl)) k0 bel lt0) (trodAll_cons_mk (Below.trod laidOut (by kernel_rfl) (of_decide_eq_true (by kernel_rfl)) k1 bel lt1) trodAll_mk0)), rfl, bel.frame _, fun h => by cases h⟩

theorem cThree : ((Rows.fnExactChordFlowsRow.lifted == Try.prog.liftsFinal) && (Try.prog.make == some Rows.fnExactChordFlowsRow.make) && Try.prog.mayEnter) = true := by kernel_rfl
theorem cAll : ((Rows.fnExactChordFlowsRow.lifted == Try.prog.liftsFinal) = true ∧ (Try.prog.make == some Rows.fnExactChordFlowsRow.make) = true) ∧ Try.prog.mayEnter = true := by
  have h := cThree
  simp only [Bool.and_eq_true] at h
  exact h
set_option maxHeartbeats 100000000 in
theorem closed : joinedFacts Try.prog 7 Try.f7 Rows.fnExactChordFlowsSpec Rows.fnExactChordFlowsRow = true := by
  unfold joinedFacts
  simp only [Bool.and_eq_true]
  repeat' apply And.intro
  all_goals first | with_reducible exact cAll.1.1 | with_reducible exact cAll.1.2 | with_reducible exact cAll.2 | (as_aux_lemma => kernel_rfl)

theorem over : Rows.fnExactChordFlowsRow.holds Try.pinned (OpenSpec.ofChange Rows.fnExactChordFlowsSpec) :=
  OpenClaim.holds_of_wide 7 Try.f7 rfl rfl rfl rfl rfl rfl rfl ⟨rfl, rfl, rfl, rfl, rfl⟩ rfl rfl rfl rfl rfl (by kernel_rfl) Try.func7 closed
    (of_decide_eq_true (by kernel_rfl)) (by unfold Func.isWrapper; first | (rw [if_pos (by decide +kernel)]; kernel_rfl) | (rw [if_neg (by decide +kernel)]; exact ⟨rfl, rfl⟩))
    (fun os started H enc _ => lifted os started H enc)

theorem proved : Rows.FnExactChordFlowsSaid := over
#print axioms proved
end Go.Proofs.Ytdapdaadglaoiaa.fnExactChordFlows
