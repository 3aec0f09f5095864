/- 'FnTurnedPipes' is proved: the law returns true for every input. The frame follows the kit's proof-skeleton. -/
import Derived.Test.YtdapdaadglaoiaaRows
import Derived.WalkKit
import Derived.ProofKit
import Derived.OpenShut
import Derived.ShutString
import Derived.ChangeOld
import Derived.Below
import Derived.Test.YtdapdaadglaoiaaDrI
import Derived.Test.YtdapdaadglaoiaaLawT
import Derived.Test.YtdapdaadglaoiaaLike
namespace Go.Proofs.Ytdapdaadglaoiaa.fnTurnedPipes
open Go.ChangeShapes Go.WideShapes Go.ChangeAt Go.RowKit
open Go.ChangeMaps (open_string shut_string)
set_option linter.unusedVariables false

theorem own : ownKnob Try.prog.godebug = none := by kernel_rfl
theorem laidOut : laidOutB Try.prog = true := by kernel_rfl


set_option maxHeartbeats 1000000 in
theorem walk (a0 : Option Addr) (len0 cap0 : Nat) (z0 : List Int) (w : World) (w0 : IsRow .u8 w a0 len0 cap0 z0) :
    Calls Try.prog 13 #[.slice a0 len0 cap0] w fun e w' => e = .returned (.bool true) ∧ Below w.heap.size w w' := by
  by_cases hl : 4096 < len0
  · go_enter Try.func13, Try.ntmps13
    go_wp2
    go_ret
    exact ⟨rfl, Below.refl _ _⟩
  have hB := hid (w0.bytes (by omega))
  clear w0
  go_enter Try.func13, Try.ntmps13
  go_wp2_with (go_at_call 18; go_in)
  refine (DrawTurnPipe_any a0 len0 cap0 w hB.out).mono ?_
  rintro e w1 ⟨nv, pv, n, x, rfl, hd⟩
  clear hB
  obtain ⟨a1, k1, rfl⟩ := hd.at.1.shape
  obtain ⟨c1, m1, rfl⟩ := hd.at.2.2.shape
  have B := hid (hd.bel.alloc hd.bel.size (.cells #[.slice a1 n.nodes.length k1, .slice c1 n.pipes.length m1] 27))
  have X1 := hid (Box.new w1 #[.slice a1 n.nodes.length k1, .slice c1 n.pipes.length m1] 27)
  have N1 := hid (hd.at.below (below_new w1 (.cells #[.slice a1 n.nodes.length k1, .slice c1 n.pipes.length m1] 27)))
  have Q1 := hid (And.intro hd.c1 hd.c2)
  have l1 := hd.l1
  have l2 := hd.l2
  clear hd
  obtain ⟨c, hc⟩ : ∃ c, codeOf n n.pipes.length x = c := ⟨_, rfl⟩
  by_cases h0 : c = 0
  · subst h0
    obtain ⟨e1, e2, e3, e4⟩ := turn_turn hc
    obtain ⟨T, hT⟩ : ∃ T, turnN n x.toNat = T := ⟨_, rfl⟩
    obtain ⟨D, hD⟩ : ∃ D, dropNet n x.toNat = D := ⟨_, rfl⟩
    rw [hT] at e1 e2
    rw [hD] at e3 e4
    have E1 := hid e1
    have E2 := hid e3
    have E3 := hid e2
    have hDl : ((D.pipes.length : Int) + 1 == (n.pipes.length : Int)) = true := by rw [beq_iff_eq]; omega
    have hDl2 : (D.pipes.length : Int) + 1 = (n.pipes.length : Int) := by omega
    have hDl3 : (D.pipes.length : Int) ≤ 20 := by omega
    clear e1 e2 e3 e4 hT hD hc
    obtain ⟨X10, X11⟩ := X1.out.two
    go_wp2_with fail
    refine (OutN.eq (impl_TurnPipe_any _ _ n x _ N1.out Q1.out.1) E1.out).mono ?_
    rintro e w2 ⟨n2, p2, rfl, o2, q2, b2⟩
    obtain ⟨a2, k2, rfl⟩ := o2.at.1.shape
    obtain ⟨c2, m2, rfl⟩ := o2.at.2.2.shape
    have b2' := b2.alloc b2.size (.cells #[.slice a2 T.nodes.length k2, .slice c2 T.pipes.length m2] 27)
    clear X10 X11
    have B := hid (B.out.trans (b2'.mono B.out.size))
    have X1 := hid (X1.out.below b2')
    have N1 := hid (N1.out.below b2')
    have X2 := hid (Box.new w2 #[.slice a2 T.nodes.length k2, .slice c2 T.pipes.length m2] 27)
    have N2 := hid (o2.at.below (below_new w2 (.cells #[.slice a2 T.nodes.length k2, .slice c2 T.pipes.length m2] 27)))
    have Q2 := hid q2
    clear b2 b2' o2 q2
    obtain ⟨X10, X11⟩ := X1.out.two
    go_wp2_with fail
    refine (OutN.eq (spec_TurnPipe_any _ _ n x _ N1.out) E1.out).mono ?_
    rintro e w3 ⟨n3, p3, rfl, o3, q3, b3⟩
    obtain ⟨a3, k3, rfl⟩ := o3.at.1.shape
    obtain ⟨c3, m3, rfl⟩ := o3.at.2.2.shape
    have b3' := b3.alloc b3.size (.cells #[.slice a3 T.nodes.length k3, .slice c3 T.pipes.length m3] 27)
    clear X10 X11
    have B := hid (B.out.trans (b3'.mono B.out.size))
    have X1 := hid (X1.out.below b3')
    have N1 := hid (N1.out.below b3')
    have X2 := hid (X2.out.below b3')
    have N2 := hid (N2.out.below b3')
    have X3 := hid (Box.new w3 #[.slice a3 T.nodes.length k3, .slice c3 T.pipes.length m3] 27)
    have N3 := hid (o3.at.below (below_new w3 (.cells #[.slice a3 T.nodes.length k3, .slice c3 T.pipes.length m3] 27)))
    have Q3 := hid q3
    clear b3 b3' o3 q3
    obtain ⟨X20, X21⟩ := X2.out.two
    obtain ⟨X30, X31⟩ := X3.out.two
    go_wp2_with fail
    refine (likeNet_t _ _ _ _ T _ N2.out N3.out).mono ?_
    rintro e w4 ⟨rfl, b4⟩
    clear X20 X21 X30 X31
    have B := hid (B.out.trans (b4.mono B.out.size))
    have X1 := hid (X1.out.below b4)
    have N1 := hid (N1.out.below b4)
    have X2 := hid (X2.out.below b4)
    have N2 := hid (N2.out.below b4)
    have X3 := hid (X3.out.below b4)
    have N3 := hid (N3.out.below b4)
    clear b4
    clear X3 N3
    obtain ⟨X10, X11⟩ := X1.out.two
    go_wp2_with fail
    refine (OutN.eq (impl_WithoutPipe_any _ _ n x _ N1.out Q1.out.1) E2.out).mono ?_
    rintro e w5 ⟨n4, p4, rfl, o4, q4, b5⟩
    obtain ⟨a4, k4, rfl⟩ := o4.at.1.shape
    obtain ⟨c4, m4, rfl⟩ := o4.at.2.2.shape
    have b5' := b5.alloc b5.size (.cells #[.slice a4 D.nodes.length k4, .slice c4 D.pipes.length m4] 27)
    clear X10 X11
    have B := hid (B.out.trans (b5'.mono B.out.size))
    have X1 := hid (X1.out.below b5')
    have N1 := hid (N1.out.below b5')
    have X2 := hid (X2.out.below b5')
    have N2 := hid (N2.out.below b5')
    have X4 := hid (Box.new w5 #[.slice a4 D.nodes.length k4, .slice c4 D.pipes.length m4] 27)
    have N4 := hid (o4.at.below (below_new w5 (.cells #[.slice a4 D.nodes.length k4, .slice c4 D.pipes.length m4] 27)))
    have Q4 := hid q4
    clear b5 b5' o4 q4
    obtain ⟨X10, X11⟩ := X1.out.two
    go_wp2_with fail
    refine (OutN.eq (spec_WithoutPipe_any _ _ n x _ N1.out Q1.out.2) E2.out).mono ?_
    rintro e w6 ⟨n5, p5, rfl, o5, q5, b6⟩
    obtain ⟨a5, k5, rfl⟩ := o5.at.1.shape
    obtain ⟨c5, m5, rfl⟩ := o5.at.2.2.shape
    have b6' := b6.alloc b6.size (.cells #[.slice a5 D.nodes.length k5, .slice c5 D.pipes.length m5] 27)
    clear X10 X11
    have B := hid (B.out.trans (b6'.mono B.out.size))
    have X1 := hid (X1.out.below b6')
    have N1 := hid (N1.out.below b6')
    have X2 := hid (X2.out.below b6')
    have N2 := hid (N2.out.below b6')
    have X4 := hid (X4.out.below b6')
    have N4 := hid (N4.out.below b6')
    have X5 := hid (Box.new w6 #[.slice a5 D.nodes.length k5, .slice c5 D.pipes.length m5] 27)
    have N5 := hid (o5.at.below (below_new w6 (.cells #[.slice a5 D.nodes.length k5, .slice c5 D.pipes.length m5] 27)))
    have Q5 := hid q5
    clear b6 b6' o5 q5
    obtain ⟨X40, X41⟩ := X4.out.two
    obtain ⟨X50, X51⟩ := X5.out.two
    go_wp2_with fail
    refine (likeNet_t _ _ _ _ D _ N4.out N5.out).mono ?_
    rintro e w7 ⟨rfl, b7⟩
    clear X40 X41 X50 X51
    have B := hid (B.out.trans (b7.mono B.out.size))
    have X1 := hid (X1.out.below b7)
    have N1 := hid (N1.out.below b7)
    have X2 := hid (X2.out.below b7)
    have N2 := hid (N2.out.below b7)
    have X4 := hid (X4.out.below b7)
    have N4 := hid (N4.out.below b7)
    have X5 := hid (X5.out.below b7)
    have N5 := hid (N5.out.below b7)
    clear b7
    clear X5 N5
    obtain ⟨X20, X21⟩ := X2.out.two
    go_wp2_with fail
    refine (OutN.eq (impl_TurnPipe_any _ _ T x _ N2.out Q2.out.1) E3.out).mono ?_
    rintro e w8 ⟨n6, p6, rfl, o6, q6, b8⟩
    obtain ⟨a6, k6, rfl⟩ := o6.at.1.shape
    obtain ⟨c6, m6, rfl⟩ := o6.at.2.2.shape
    have b8' := b8.alloc b8.size (.cells #[.slice a6 n.nodes.length k6, .slice c6 n.pipes.length m6] 27)
    clear X20 X21
    have B := hid (B.out.trans (b8'.mono B.out.size))
    have X1 := hid (X1.out.below b8')
    have N1 := hid (N1.out.below b8')
    have X2 := hid (X2.out.below b8')
    have N2 := hid (N2.out.below b8')
    have X4 := hid (X4.out.below b8')
    have N4 := hid (N4.out.below b8')
    have X6 := hid (Box.new w8 #[.slice a6 n.nodes.length k6, .slice c6 n.pipes.length m6] 27)
    have N6 := hid (o6.at.below (below_new w8 (.cells #[.slice a6 n.nodes.length k6, .slice c6 n.pipes.length m6] 27)))
    have Q6 := hid q6
    clear b8 b8' o6 q6
    obtain ⟨X60, X61⟩ := X6.out.two
    obtain ⟨X10, X11⟩ := X1.out.two
    go_wp2_with fail
    refine (likeNet_t _ _ _ _ n _ N6.out N1.out).mono ?_
    rintro e w9 ⟨rfl, b9⟩
    clear X60 X61 X10 X11
    have B := hid (B.out.trans (b9.mono B.out.size))
    have X1 := hid (X1.out.below b9)
    have N1 := hid (N1.out.below b9)
    have X2 := hid (X2.out.below b9)
    have N2 := hid (N2.out.below b9)
    have X4 := hid (X4.out.below b9)
    have N4 := hid (N4.out.below b9)
    have X6 := hid (X6.out.below b9)
    have N6 := hid (N6.out.below b9)
    clear b9
    obtain ⟨X40, X41⟩ := X4.out.two
    obtain ⟨X10, X11⟩ := X1.out.two
    clear hDl
    go_wp2_with fail
    go_ret
    exact ⟨rfl, B.out⟩
  · have e1 : tpR n x = (zNet, c) := by rw [tpR, hc, if_neg h0]
    have e2 : wpR n x = (zNet, c) := by rw [wpR, hc, if_neg h0]
    obtain ⟨T, hT⟩ : ∃ T, zNet = T := ⟨_, rfl⟩
    rw [hT] at e1 e2
    have E1 := hid e1
    have E2 := hid e2
    have hc0 : (c != 0) = true := by simpa using h0
    clear e1 e2 hT hc
    obtain ⟨X10, X11⟩ := X1.out.two
    go_wp2_with fail
    refine (OutN.eq (impl_TurnPipe_any _ _ n x _ N1.out Q1.out.1) E1.out).mono ?_
    rintro e w2 ⟨n2, p2, rfl, o2, q2, b2⟩
    obtain ⟨a2, k2, rfl⟩ := o2.at.1.shape
    obtain ⟨c2, m2, rfl⟩ := o2.at.2.2.shape
    have b2' := b2.alloc b2.size (.cells #[.slice a2 T.nodes.length k2, .slice c2 T.pipes.length m2] 27)
    clear X10 X11
    have B := hid (B.out.trans (b2'.mono B.out.size))
    have X1 := hid (X1.out.below b2')
    have N1 := hid (N1.out.below b2')
    have X2 := hid (Box.new w2 #[.slice a2 T.nodes.length k2, .slice c2 T.pipes.length m2] 27)
    have N2 := hid (o2.at.below (below_new w2 (.cells #[.slice a2 T.nodes.length k2, .slice c2 T.pipes.length m2] 27)))
    have Q2 := hid q2
    clear b2 b2' o2 q2
    obtain ⟨X10, X11⟩ := X1.out.two
    go_wp2_with fail
    refine (OutN.eq (spec_TurnPipe_any _ _ n x _ N1.out) E1.out).mono ?_
    rintro e w3 ⟨n3, p3, rfl, o3, q3, b3⟩
    obtain ⟨a3, k3, rfl⟩ := o3.at.1.shape
    obtain ⟨c3, m3, rfl⟩ := o3.at.2.2.shape
    have b3' := b3.alloc b3.size (.cells #[.slice a3 T.nodes.length k3, .slice c3 T.pipes.length m3] 27)
    clear X10 X11
    have B := hid (B.out.trans (b3'.mono B.out.size))
    have X1 := hid (X1.out.below b3')
    have N1 := hid (N1.out.below b3')
    have X2 := hid (X2.out.below b3')
    have N2 := hid (N2.out.below b3')
    have X3 := hid (Box.new w3 #[.slice a3 T.nodes.length k3, .slice c3 T.pipes.length m3] 27)
    have N3 := hid (o3.at.below (below_new w3 (.cells #[.slice a3 T.nodes.length k3, .slice c3 T.pipes.length m3] 27)))
    have Q3 := hid q3
    clear b3 b3' o3 q3
    obtain ⟨X20, X21⟩ := X2.out.two
    obtain ⟨X30, X31⟩ := X3.out.two
    go_wp2_with fail
    refine (likeNet_t _ _ _ _ T _ N2.out N3.out).mono ?_
    rintro e w4 ⟨rfl, b4⟩
    clear X20 X21 X30 X31
    have B := hid (B.out.trans (b4.mono B.out.size))
    have X1 := hid (X1.out.below b4)
    have N1 := hid (N1.out.below b4)
    have X2 := hid (X2.out.below b4)
    have N2 := hid (N2.out.below b4)
    have X3 := hid (X3.out.below b4)
    have N3 := hid (N3.out.below b4)
    clear b4
    clear X3 N3
    obtain ⟨X10, X11⟩ := X1.out.two
    go_wp2_with fail
    refine (OutN.eq (impl_WithoutPipe_any _ _ n x _ N1.out Q1.out.1) E2.out).mono ?_
    rintro e w5 ⟨n4, p4, rfl, o4, q4, b5⟩
    obtain ⟨a4, k4, rfl⟩ := o4.at.1.shape
    obtain ⟨c4, m4, rfl⟩ := o4.at.2.2.shape
    have b5' := b5.alloc b5.size (.cells #[.slice a4 T.nodes.length k4, .slice c4 T.pipes.length m4] 27)
    clear X10 X11
    have B := hid (B.out.trans (b5'.mono B.out.size))
    have X1 := hid (X1.out.below b5')
    have N1 := hid (N1.out.below b5')
    have X2 := hid (X2.out.below b5')
    have N2 := hid (N2.out.below b5')
    have X4 := hid (Box.new w5 #[.slice a4 T.nodes.length k4, .slice c4 T.pipes.length m4] 27)
    have N4 := hid (o4.at.below (below_new w5 (.cells #[.slice a4 T.nodes.length k4, .slice c4 T.pipes.length m4] 27)))
    have Q4 := hid q4
    clear b5 b5' o4 q4
    obtain ⟨X10, X11⟩ := X1.out.two
    go_wp2_with fail
    refine (OutN.eq (spec_WithoutPipe_any _ _ n x _ N1.out Q1.out.2) E2.out).mono ?_
    rintro e w6 ⟨n5, p5, rfl, o5, q5, b6⟩
    obtain ⟨a5, k5, rfl⟩ := o5.at.1.shape
    obtain ⟨c5, m5, rfl⟩ := o5.at.2.2.shape
    have b6' := b6.alloc b6.size (.cells #[.slice a5 T.nodes.length k5, .slice c5 T.pipes.length m5] 27)
    clear X10 X11
    have B := hid (B.out.trans (b6'.mono B.out.size))
    have X1 := hid (X1.out.below b6')
    have N1 := hid (N1.out.below b6')
    have X2 := hid (X2.out.below b6')
    have N2 := hid (N2.out.below b6')
    have X4 := hid (X4.out.below b6')
    have N4 := hid (N4.out.below b6')
    have X5 := hid (Box.new w6 #[.slice a5 T.nodes.length k5, .slice c5 T.pipes.length m5] 27)
    have N5 := hid (o5.at.below (below_new w6 (.cells #[.slice a5 T.nodes.length k5, .slice c5 T.pipes.length m5] 27)))
    have Q5 := hid q5
    clear b6 b6' o5 q5
    obtain ⟨X40, X41⟩ := X4.out.two
    obtain ⟨X50, X51⟩ := X5.out.two
    go_wp2_with fail
    refine (likeNet_t _ _ _ _ T _ N4.out N5.out).mono ?_
    rintro e w7 ⟨rfl, b7⟩
    clear X40 X41 X50 X51
    have B := hid (B.out.trans (b7.mono B.out.size))
    have X1 := hid (X1.out.below b7)
    have N1 := hid (N1.out.below b7)
    have X2 := hid (X2.out.below b7)
    have N2 := hid (N2.out.below b7)
    have X4 := hid (X4.out.below b7)
    have N4 := hid (N4.out.below b7)
    have X5 := hid (X5.out.below b7)
    have N5 := hid (N5.out.below b7)
    clear b7
    clear X5 N5
    go_wp2_with fail
    go_ret
    exact ⟨rfl, B.out⟩

set_option maxRecDepth 100000 in
theorem lifted (os : Os) (started : os.Started) (H : Type) (enc : TypeId × Value → H) :
    ReturnsInHanded {} Try.checked os 13 .any (Rows.fnTurnedPipesSpec.pre6 enc Try.prog Try.f13 Rows.fnTurnedPipesRow.domain false) (Rows.fnTurnedPipesSpec.post enc Try.prog Try.f13 false true false false) := by
  refine returnsInHanded_of_change (C := Try.checked) own started (by kernel_rfl) Try.func13
    (ChangeSpec.witness6 (enc := enc) (C := Try.checked) false ⟨#[], #[.slice none 0 0], []⟩ 8 (by kernel_rfl) (by kernel_rfl) (by kernel_rfl) (by kernel_rfl)) ?_
  intro W base args ds gs before hval0 hW hcnd _
  have hval : ∀ (j : Nat) t v, Try.f13.params[j]? = some t → args[j]? = some v → Value.okWide Try.prog W .any base t v := hval0
  have hW' := hW
  obtain ⟨p, q, hA0, hV, rfl, hfz, hnd⟩ := hW
  have hA : DataW.TrodAll enc Try.prog W 0 (fun _ => true) true Try.f13.params.toList args.toList ds p := hA0
  rw [Try.params13] at hA hval
  obtain ⟨v0, vs0, d0, ds0, p0, q0, hargs, rfl, rfl, h0, r0⟩ := trodAll_cons hA
  obtain ⟨rfl, rfl, rfl⟩ := trodAll_nil r0
  obtain rfl : args = #[v0] := by cases args; simp_all
  obtain ⟨rfl, rfl⟩ := trodVars_none hV
  obtain ⟨a0, len0, cap0, rfl⟩ := okWide_slice Try.underlying22 (hval 0 22 v0 rfl rfl)
  have k0 := h0
  have lt0 : ∀ x ∈ p0, x.block < W.heap.size := by obtain ⟨m, hm⟩ := k0; exact DataW.trod_lt m _ _ _ hm
  obtain ⟨z0, w0⟩ : ∃ zs, IsRow .u8 W a0 len0 cap0 zs := by
    obtain ⟨fuel, hf⟩ := h0
    rcases open_ints Try.underlying22 Try.underlying5 (by kernel_rfl) hf with ⟨hcs, _⟩ | ⟨x, l, c, zs, hcs, _, hl, hm, hz, _, hcell, hwz⟩
    · simp [Value.cells] at hcs
      obtain ⟨rfl, rfl, rfl⟩ := hcs
      exact ⟨[], .inl ⟨rfl, rfl, rfl, rfl⟩⟩
    · simp [Value.cells] at hcs
      obtain ⟨rfl, rfl, rfl⟩ := hcs
      exact ⟨zs, .inr ⟨_, rfl, hl, hm, by simpa using hz, hcell, hwz⟩⟩
  clear hA0 hval0
  refine (walk a0 len0 cap0 z0 W w0).mono fun e W' ⟨he, bel⟩ => ?_
  subst he
  exact ⟨_, rfl, _, _, _, [], _, [], hW', trodAll_mk1 (shut_bool Try.underlying4 _), (trodAll_cons_mk (Below.trod laidOut (by kernel_rfl) (of_decide_eq_true (by kernel_rfl)) k0 bel lt0) trodAll_mk0), rfl, bel.frame _, fun h => by cases h⟩

theorem cThree : ((Rows.fnTurnedPipesRow.lifted == Try.prog.liftsFinal) && (Try.prog.make == some Rows.fnTurnedPipesRow.make) && Try.prog.mayEnter) = true := by kernel_rfl
theorem cAll : ((Rows.fnTurnedPipesRow.lifted == Try.prog.liftsFinal) = true ∧ (Try.prog.make == some Rows.fnTurnedPipesRow.make) = true) ∧ Try.prog.mayEnter = true := by
  have h := cThree
  simp only [Bool.and_eq_true] at h
  exact h
set_option maxHeartbeats 100000000 in
theorem closed : joinedFacts Try.prog 13 Try.f13 Rows.fnTurnedPipesSpec Rows.fnTurnedPipesRow = true := by
  unfold joinedFacts
  simp only [Bool.and_eq_true]
  repeat' apply And.intro
  all_goals first | with_reducible exact cAll.1.1 | with_reducible exact cAll.1.2 | with_reducible exact cAll.2 | (as_aux_lemma => kernel_rfl)

theorem over : Rows.fnTurnedPipesRow.holds Try.pinned (OpenSpec.ofChange Rows.fnTurnedPipesSpec) :=
  OpenClaim.holds_of_wide 13 Try.f13 rfl rfl rfl rfl rfl rfl rfl ⟨rfl, rfl, rfl, rfl, rfl⟩ rfl rfl rfl rfl rfl (by kernel_rfl) Try.func13 closed
    (of_decide_eq_true (by kernel_rfl)) (by unfold Func.isWrapper; first | (rw [if_pos (by decide +kernel)]; kernel_rfl) | (rw [if_neg (by decide +kernel)]; exact ⟨rfl, rfl⟩))
    (fun os started H enc _ => lifted os started H enc)

theorem proved : Rows.FnTurnedPipesSaid := over
#print axioms proved
end Go.Proofs.Ytdapdaadglaoiaa.fnTurnedPipes
