/- 'FnPipeEnds' is proved: the law returns true for every input. The frame follows the kit's proof-skeleton. -/
import Derived.Test.YtdapdaadglaoiaaRows
import Derived.WalkKit
import Derived.ProofKit
import Derived.OpenShut
import Derived.ShutString
import Derived.ChangeOld
import Derived.Below
import Derived.Test.YtdapdaadglaoiaaDrI
import Derived.Test.YtdapdaadglaoiaaDrE
import Derived.Test.YtdapdaadglaoiaaLawT
import Derived.Test.YtdapdaadglaoiaaLawE
import Derived.Test.YtdapdaadglaoiaaLike2
import Derived.Test.YtdapdaadglaoiaaNbr
import Derived.Test.YtdapdaadglaoiaaBetween
import Derived.Test.YtdapdaadglaoiaaPipesAt
namespace Go.Proofs.Ytdapdaadglaoiaa.fnPipeEnds
open Go.ChangeShapes Go.WideShapes Go.ChangeAt Go.RowKit
open Go.ChangeMaps (open_string shut_string)
set_option linter.unusedVariables false

theorem own : ownKnob Try.prog.godebug = none := by kernel_rfl
theorem laidOut : laidOutB Try.prog = true := by kernel_rfl


set_option maxHeartbeats 1000000 in
theorem walk (a0 : Option Addr) (len0 cap0 : Nat) (z0 : List Int) (w : World) (w0 : IsRow .u8 w a0 len0 cap0 z0) :
    Calls Try.prog 3 #[.slice a0 len0 cap0] w fun e w' => e = .returned (.bool true) ∧ Below w.heap.size w w' := by
---
  by_cases hl : 4096 < len0
  · go_enter Try.func3, Try.ntmps3
    go_wp2
    go_ret
    exact ⟨rfl, Below.refl _ _⟩
  have hB := hid (w0.bytes (by omega))
  clear w0
  go_enter Try.func3, Try.ntmps3
  go_wp2_with (go_at_call 18; go_in)
  refine (DrawOtherEnd_any a0 len0 cap0 w hB.out).mono ?_
  rintro e w1 ⟨nv, pv, n, x, v, rfl, hd⟩
  clear hB
  obtain ⟨a1, k1, rfl⟩ := hd.at.1.shape
  obtain ⟨c1, m1, rfl⟩ := hd.at.2.2.shape
  have B := hid (hd.bel.alloc hd.bel.size (.cells #[.slice a1 n.nodes.length k1, .slice c1 n.pipes.length m1] 27))
  have X1 := hid (Box.new w1 #[.slice a1 n.nodes.length k1, .slice c1 n.pipes.length m1] 27)
  have N1 := hid (hd.at.below (below_new w1 (.cells #[.slice a1 n.nodes.length k1, .slice c1 n.pipes.length m1] 27)))
  have Q1 := hid hd.c1
  clear hd
  obtain ⟨A, hA⟩ : ∃ A, oeA n x v = A := ⟨_, rfl⟩
  obtain ⟨c, hc⟩ : ∃ c, oeB n x v = c := ⟨_, rfl⟩
  have EA := hid hA
  have EC := hid hc
  clear hA hc
  obtain ⟨X10, X11⟩ := X1.out.two
  go_wp2_with fail
  refine (impl_OtherEnd_any _ _ n x v _ N1.out Q1.out).mono ?_
  rw [EA.out, EC.out]
  rintro e w2 ⟨rfl, b2⟩
  clear X10 X11
  have B := hid (B.out.trans (b2.mono B.out.size))
  have X1 := hid (X1.out.below b2)
  have N1 := hid (N1.out.below b2)
  clear b2
  obtain ⟨X10, X11⟩ := X1.out.two
  go_wp2_with fail
  refine (spec_OtherEnd_any _ _ n x v _ N1.out).mono ?_
  rw [EA.out, EC.out]
  rintro e w3 ⟨rfl, b3⟩
  clear X10 X11
  have B := hid (B.out.trans (b3.mono B.out.size))
  have X1 := hid (X1.out.below b3)
  have N1 := hid (N1.out.below b3)
  clear b3
  obtain ⟨X10, X11⟩ := X1.out.two
  have zx := X1.out.1
  have KP : Hid (∀ W, Below w3.heap.size w3 W → W.cell? ⟨w1.heap.size, 0, none⟩ = some (.slice a1 n.nodes.length k1) ∧ W.cell? ⟨w1.heap.size, 1, none⟩ = some (.slice c1 n.pipes.length m1)) := fun W hW =>
    ⟨(hW.cell (p := ⟨w1.heap.size, 0, none⟩) zx).trans X10, (hW.cell (p := ⟨w1.heap.size, 1, none⟩) zx).trans X11⟩
  obtain ⟨bb, hbb⟩ : ∃ bb, netB n = bb := ⟨_, rfl⟩
  have HBB := hid hbb
  have hcc : (c != c) = false := by simp
  have hAA : (A != A) = false := by simp
  have hbb2 : (bb != bb) = false := by simp
  clear hbb
  go_wp2_with fail
  go_region_held3 (fun W => W.cell? ⟨w1.heap.size, 0, none⟩ = some (.slice a1 n.nodes.length k1) ∧ W.cell? ⟨w1.heap.size, 1, none⟩ = some (.slice c1 n.pipes.length m1))
    (first | exact KP.out _ (Below.refl _ _).drew | exact KP.out _ b4 | exact KP.out _ b5)
    (first
      | (go_at_call 22; refine (impl_IsNetwork_any _ _ n _ (N1.out.below (Below.refl _ _).drew) Q1.out).mono ?_; rw [HBB.out]; rintro e w4 ⟨rfl, b4⟩; have b4 := below_undrew b4; have N4 := hid (N1.out.below b4))
      | (go_at_call 23; refine (spec_IsNetwork_any _ _ n _ N4.out).mono ?_; rw [HBB.out]; rintro e w5 ⟨rfl, b5⟩; have b5 := b4.trans (b5.mono b4.size)))
  all_goals
    have BZ := hid (B.out.trans (b5.mono B.out.size))
    have XZ1 := hid (X1.out.below b5)
    have NZ1 := hid (N1.out.below b5)
    clear b4 b5 KP N4 X10 X11 zx
    by_cases h0 : c = 0
    case neg =>
      have hc0 : (c != 0) = true := by simpa using h0
      go_wp2_with fail
      go_ret
      exact ⟨rfl, BZ.out⟩
    subst h0
    obtain ⟨k, hk, e1, e2, e3, e4, e5, e6, e7, e8⟩ := pe_facts EC.out
    obtain rfl : A = k := EA.out.symm.trans hk
    obtain ⟨L, hL⟩ : ∃ L, nbTo n v n.nodes.length = L := ⟨_, rfl⟩
    obtain ⟨M, hM⟩ : ∃ M, selP (betF A v) n.pipes n.pipes.length = M := ⟨_, rfl⟩
    obtain ⟨P, hP⟩ : ∃ P, selP (atF A) n.pipes n.pipes.length = P := ⟨_, rfl⟩
    rw [hL] at e3 e4
    rw [hM] at e5 e6
    rw [hP] at e7 e8
    have E1 := hid e1
    have E2 := hid e2
    have E3 := hid e3
    have E4 := hid e4
    have E5 := hid e5
    have E6 := hid e6
    have E7 := hid e7
    have E8 := hid e8
    clear e1 e2 e3 e4 e5 e6 e7 e8 hL hM hP hk
    obtain ⟨X10, X11⟩ := XZ1.out.two
    go_wp2_with fail
    refine (impl_OtherEnd_any _ _ n x A _ NZ1.out Q1.out).mono ?_
    rw [E1.out, E2.out]
    rintro e w6 ⟨rfl, b6⟩
    clear X10 X11
    have BZ := hid (BZ.out.trans (b6.mono BZ.out.size))
    have XZ1 := hid (XZ1.out.below b6)
    have NZ1 := hid (NZ1.out.below b6)
    clear b6
    obtain ⟨X10, X11⟩ := XZ1.out.two
    go_wp2_with fail
    refine (OutI.eq (impl_NeighboursOf_any _ _ n v _ NZ1.out Q1.out) E3.out).mono ?_
    rintro e w7 ⟨r7, rfl, o7, b7⟩
    clear X10 X11
    have BZ := hid (BZ.out.trans (b7.mono BZ.out.size))
    have XZ1 := hid (XZ1.out.below b7)
    have NZ1 := hid (NZ1.out.below b7)
    have S7 := hid o7
    clear b7 o7
    obtain ⟨X10, X11⟩ := XZ1.out.two
    go_wp2_with fail
    refine (OutI.eq (impl_PipesBetween_any _ _ n A v _ NZ1.out Q1.out) E5.out).mono ?_
    rintro e w8 ⟨r8, rfl, o8, b8⟩
    clear X10 X11
    have BZ := hid (BZ.out.trans (b8.mono BZ.out.size))
    have XZ1 := hid (XZ1.out.below b8)
    have NZ1 := hid (NZ1.out.below b8)
    have S7 := hid (S7.out.below b8)
    have S8 := hid o8
    clear b8 o8
    obtain ⟨X10, X11⟩ := XZ1.out.two
    go_wp2_with fail
    refine (OutI.eq (impl_PipesAt_any _ _ n A _ NZ1.out Q1.out) E7.out).mono ?_
    rintro e w9 ⟨r9, rfl, o9, b9⟩
    clear X10 X11
    have BZ := hid (BZ.out.trans (b9.mono BZ.out.size))
    have S7 := hid (S7.out.below b9)
    have S8 := hid (S8.out.below b9)
    have S9 := hid o9
    clear b9 o9
    go_wp2_with fail
    refine (hasInt_any _ _ L A _ S7.out).mono ?_
    rw [E4.out]
    rintro e w10 ⟨rfl, b10⟩
    have BZ := hid (BZ.out.trans (b10.mono BZ.out.size))
    have S8 := hid (S8.out.below b10)
    have S9 := hid (S9.out.below b10)
    clear b10 S7
    go_wp2_with fail
    refine (hasInt_any _ _ M x _ S8.out).mono ?_
    rw [E6.out]
    rintro e w11 ⟨rfl, b11⟩
    have BZ := hid (BZ.out.trans (b11.mono BZ.out.size))
    have S9 := hid (S9.out.below b11)
    clear b11 S8
    go_wp2_with fail
    refine (hasInt_any _ _ P x _ S9.out).mono ?_
    rw [E8.out]
    rintro e w12 ⟨rfl, b12⟩
    have BZ := hid (BZ.out.trans (b12.mono BZ.out.size))
    clear b12 S9
    go_wp2_with fail
    go_ret
    exact ⟨rfl, BZ.out⟩

set_option maxRecDepth 100000 in
theorem lifted (os : Os) (started : os.Started) (H : Type) (enc : TypeId × Value → H) :
    ReturnsInHanded {} Try.checked os 3 .any (Rows.fnPipeEndsSpec.pre6 enc Try.prog Try.f3 Rows.fnPipeEndsRow.domain false) (Rows.fnPipeEndsSpec.post enc Try.prog Try.f3 false true false false) := by
  refine returnsInHanded_of_change (C := Try.checked) own started (by kernel_rfl) Try.func3
    (ChangeSpec.witness6 (enc := enc) (C := Try.checked) false ⟨#[], #[.slice none 0 0], []⟩ 8 (by kernel_rfl) (by kernel_rfl) (by kernel_rfl) (by kernel_rfl)) ?_
  intro W base args ds gs before hval0 hW hcnd _
  have hval : ∀ (j : Nat) t v, Try.f3.params[j]? = some t → args[j]? = some v → Value.okWide Try.prog W .any base t v := hval0
  have hW' := hW
  obtain ⟨p, q, hA0, hV, rfl, hfz, hnd⟩ := hW
  have hA : DataW.TrodAll enc Try.prog W 0 (fun _ => true) true Try.f3.params.toList args.toList ds p := hA0
  rw [Try.params3] at hA hval
  obtain ⟨v0, vs0, d0, ds0, p0, q0, hargs, rfl, rfl, h0, r0⟩ := trodAll_cons hA
  obtain ⟨rfl, rfl, rfl⟩ := trodAll_nil r0
  obtain rfl : args = #[v0] := by cases args; simp_all
  obtain ⟨rfl, rfl⟩ := trodVars_none hV
  obtain ⟨a0, len0, cap0, rfl⟩ := okWide_slice Try.underlying22 (hval 0 22 v0 rfl rfl)
  have k0 := h0
  have lt0 : ∀ x ∈ p0, x.block < W.heap.size := by obtain ⟨m, hm⟩ := k0; exact DataW.trod_lt m _ _ _ hm
  obtain ⟨z0, w0⟩ : ∃ zs, IsRow .u8 W a0 len0 cap0 zs := by
    obtain ⟨fuel, hf⟩ := h0
    rcases open_ints Try.underlying22 Try.underlying5 (by kernel_rfl) hf with ⟨hcs, _⟩ | ⟨x, l, c, zs, hcs, _, hl, hm, hz, _, hcell, hwz⟩
    · simp [Value.cells] at hcs
      obtain ⟨rfl, rfl, rfl⟩ := hcs
      exact ⟨[], .inl ⟨rfl, rfl, rfl, rfl⟩⟩
    · simp [Value.cells] at hcs
      obtain ⟨rfl, rfl, rfl⟩ := hcs
      exact ⟨zs, .inr ⟨_, rfl, hl, hm, by simpa using hz, hcell, hwz⟩⟩
  clear hA0 hval0
  refine (walk a0 len0 cap0 z0 W w0).mono fun e W' ⟨he, bel⟩ => ?_
  subst he
  exact ⟨_, rfl, _, _, _, [], _, [], hW', trodAll_mk1 (shut_bool Try.underlying4 _), (trodAll_cons_mk (Below.trod laidOut (by kernel_rfl) (of_decide_eq_true (by kernel_rfl)) k0 bel lt0) trodAll_mk0), rfl, bel.frame _, fun h => by cases h⟩

theorem cThree : ((Rows.fnPipeEndsRow.lifted == Try.prog.liftsFinal) && (Try.prog.make == some Rows.fnPipeEndsRow.make) && Try.prog.mayEnter) = true := by kernel_rfl
theorem cAll : ((Rows.fnPipeEndsRow.lifted == Try.prog.liftsFinal) = true ∧ (Try.prog.make == some Rows.fnPipeEndsRow.make) = true) ∧ Try.prog.mayEnter = true := by
  have h := cThree
  simp only [Bool.and_eq_true] at h
  exact h
set_option maxHeartbeats 100000000 in
theorem closed : joinedFacts Try.prog 3 Try.f3 Rows.fnPipeEndsSpec Rows.fnPipeEndsRow = true := by
  unfold joinedFacts
  simp only [Bool.and_eq_true]
  repeat' apply And.intro
  all_goals first | with_reducible exact cAll.1.1 | with_reducible exact cAll.1.2 | with_reducible exact cAll.2 | (as_aux_lemma => kernel_rfl)

theorem over : Rows.fnPipeEndsRow.holds Try.pinned (OpenSpec.ofChange Rows.fnPipeEndsSpec) :=
  OpenClaim.holds_of_wide 3 Try.f3 rfl rfl rfl rfl rfl rfl rfl ⟨rfl, rfl, rfl, rfl, rfl⟩ rfl rfl rfl rfl rfl (by kernel_rfl) Try.func3 closed
    (of_decide_eq_true (by kernel_rfl)) (by unfold Func.isWrapper; first | (rw [if_pos (by decide +kernel)]; kernel_rfl) | (rw [if_neg (by decide +kernel)]; exact ⟨rfl, rfl⟩))
    (fun os started H enc _ => lifted os started H enc)

theorem proved : Rows.FnPipeEndsSaid := over
#print axioms proved
end Go.Proofs.Ytdapdaadglaoiaa.fnPipeEnds
