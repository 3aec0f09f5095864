/- 'FnFromChords' is proved: the law returns true for every input. The frame follows the kit's proof-skeleton. -/
import Derived.Test.YtdapdaadglaoiaaRows
import Derived.WalkKit
import Derived.ProofKit
import Derived.OpenShut
import Derived.ShutString
import Derived.ChangeOld
import Derived.Below
import Derived.Test.YtdapdaadglaoiaaDrF
import Derived.Test.YtdapdaadglaoiaaFrom
import Derived.Test.YtdapdaadglaoiaaLike2
namespace Go.Proofs.Ytdapdaadglaoiaa.fnFromChords
open Go.ChangeShapes Go.WideShapes Go.ChangeAt Go.RowKit
open Go.ChangeMaps (open_string shut_string)
set_option linter.unusedVariables false

theorem own : ownKnob Try.prog.godebug = none := by kernel_rfl
theorem laidOut : laidOutB Try.prog = true := by kernel_rfl

theorem frm_law {n : Net} {am Y : List Int} (h : fcR n am = (Y, 0)) : cfR n Y = (am, 0) ∧ cirB n Y = true := by
  unfold fcR at h
  split at h
  · next hb =>
    split at h
    · next hl =>
      split at h
      · split at h
        · next hf =>
          obtain rfl : fromCh n am = Y := (Prod.mk.inj h).1
          refine ⟨?_, cirB_mk hb hf (fun x hx => fc_out hb am _ (Nat.le_refl _) x hx)⟩
          unfold cfR flCode
          rw [if_pos hb, if_pos hf, if_pos rfl]
          congr 1
          apply List.ext_getElem
          · rw [cfTo_all_len, hl]
          · intro i h1 h2
            have hi : i < (chords n).length := by omega
            rw [cfTo_get n _ h1 hi]
            have h3 := fc_at hb am (chords n).length (Nat.le_refl _) i hi
            rw [if_pos hi] at h3
            have e1 : (chords n).getD i 0 = (chords n)[i] := by simp [List.getD, hi]
            have e2 : am.getD i 0 = am[i] := by simp [List.getD, h2]
            rw [e1, e2] at h3
            exact h3
        · simp at h
      · simp at h
    · simp at h
  · simp at h
set_option maxRecDepth 100000 in

set_option maxHeartbeats 1000000 in
theorem walk (a0 : Option Addr) (len0 cap0 : Nat) (z0 : List Int) (w : World) (w0 : IsRow .u8 w a0 len0 cap0 z0) :
    Calls Try.prog 11 #[.slice a0 len0 cap0] w fun e w' => e = .returned (.bool true) ∧ Below w.heap.size w w' := by
  by_cases hl : 4096 < len0
  · go_enter Try.func11, Try.ntmps11
    go_wp2
    go_ret
    exact ⟨rfl, Below.refl _ _⟩
  have hB := hid (w0.bytes (by omega))
  clear w0
  go_enter Try.func11, Try.ntmps11
  go_wp2_with (go_at_call 18; go_in)
  refine (DrawFromChords_any a0 len0 cap0 w hB.out).mono ?_
  rintro e w1 ⟨nv, pv, n, v0, am, rfl, hd, ho0, ha0⟩
  clear hB
  obtain ⟨a1, k1, rfl⟩ := hd.at.1.shape
  obtain ⟨c1, m1, rfl⟩ := hd.at.2.2.shape
  obtain ⟨fa, fc, rfl, _⟩ := ho0.shape
  have B := hid (hd.bel.alloc hd.bel.size (.cells #[.slice a1 n.nodes.length k1, .slice c1 n.pipes.length m1] 27))
  have X1 := hid (Box.new w1 #[.slice a1 n.nodes.length k1, .slice c1 n.pipes.length m1] 27)
  have N1 := hid (hd.at.below (below_new w1 (.cells #[.slice a1 n.nodes.length k1, .slice c1 n.pipes.length m1] 27)))
  have A1 := hid ((ho0.slc (by omega)).below (below_new w1 (.cells #[.slice a1 n.nodes.length k1, .slice c1 n.pipes.length m1] 27)))
  have Q1 := hid hd.c1
  have l1 := hd.l1
  have l2 := hd.l2
  clear hd ho0
  obtain ⟨Y, c, hLc⟩ : ∃ L c, fcR n am = (L, c) := ⟨_, _, rfl⟩
  have E1 := hid hLc
  obtain ⟨X10, X11⟩ := X1.out.two
  go_wp2_with fail
  refine (OutI.eq (impl_FromChords_any _ _ _ n am _ N1.out Q1.out A1.out.ints) E1.out).mono ?_
  rintro e w2 ⟨r2, rfl, o9, b2⟩
  clear X10 X11
  have B := hid (B.out.trans (b2.mono B.out.size))
  have X1 := hid (X1.out.below b2)
  have N1 := hid (N1.out.below b2)
  have A1 := hid (A1.out.below b2)
  obtain ⟨_, r2a, r2c, r2h, _⟩ := id o9
  subst r2h
  have S2 := hid o9
  clear b2 o9
  obtain ⟨X10, X11⟩ := X1.out.two
  go_wp2_with fail
  refine (OutI.eq (spec_FromChords_any _ _ _ n am _ N1.out A1.out.ints) E1.out).mono ?_
  rintro e w3 ⟨r3, rfl, o9, b3⟩
  clear X10 X11
  have B := hid (B.out.trans (b3.mono B.out.size))
  have X1 := hid (X1.out.below b3)
  have N1 := hid (N1.out.below b3)
  have A1 := hid (A1.out.below b3)
  have S2 := hid (S2.out.below b3)
  obtain ⟨_, r3a, r3c, r3h, _⟩ := id o9
  subst r3h
  have S3 := hid o9
  clear b3 o9
  go_wp2_with fail
  refine (likeInts_t _ _ Y _ S2.out.ints S3.out.ints).mono ?_
  rintro e w4 ⟨rfl, b4⟩
  have B := hid (B.out.trans (b4.mono B.out.size))
  have X1 := hid (X1.out.below b4)
  have N1 := hid (N1.out.below b4)
  have A1 := hid (A1.out.below b4)
  have S2 := hid (S2.out.below b4)
  clear b4 S3
  by_cases h0 : c = 0
  case neg =>
    have hc0 : (c != 0) = true := by simpa using h0
    clear hLc
    go_wp2_with fail
    go_ret
    exact ⟨rfl, B.out⟩
  subst h0
  obtain ⟨hc1, hc2⟩ := frm_law hLc
  have E3 := hid hc1
  have HC := hid hc2
  clear hLc hc1 hc2 E1
  obtain ⟨X10, X11⟩ := X1.out.two
  go_wp2_with fail
  refine (OutI.eq (impl_ChordFlows_any _ _ _ n Y _ N1.out S2.out.ints Q1.out) E3.out).mono ?_
  rintro e w8 ⟨r8, rfl, o9, b8⟩
  clear X10 X11
  have B := hid (B.out.trans (b8.mono B.out.size))
  have X1 := hid (X1.out.below b8)
  have N1 := hid (N1.out.below b8)
  have A1 := hid (A1.out.below b8)
  have S2 := hid (S2.out.below b8)
  obtain ⟨_, r8a, r8c, r8h, _⟩ := id o9
  subst r8h
  have S8 := hid o9
  clear b8 o9
  obtain ⟨X10, X11⟩ := X1.out.two
  go_wp2_with fail
  refine (likeInts_t _ _ am _ S8.out.ints A1.out.ints).mono ?_
  rintro e w9 ⟨rfl, b9⟩
  clear X10 X11
  have B := hid (B.out.trans (b9.mono B.out.size))
  have X1 := hid (X1.out.below b9)
  have N1 := hid (N1.out.below b9)
  have S2 := hid (S2.out.below b9)
  clear b9 S8 A1
  obtain ⟨X10, X11⟩ := X1.out.two
  go_wp2_with fail
  refine (impl_IsCirculation_any _ _ _ n Y _ N1.out S2.out.ints Q1.out).mono ?_
  rw [HC.out]
  rintro e w11 ⟨rfl, b11⟩
  have B := hid (B.out.trans (b11.mono B.out.size))
  clear b11 X10 X11
  go_wp2_with fail
  go_ret
  exact ⟨rfl, B.out⟩

set_option maxRecDepth 100000 in
theorem lifted (os : Os) (started : os.Started) (H : Type) (enc : TypeId × Value → H) :
    ReturnsInHanded {} Try.checked os 11 .any (Rows.fnFromChordsSpec.pre6 enc Try.prog Try.f11 Rows.fnFromChordsRow.domain false) (Rows.fnFromChordsSpec.post enc Try.prog Try.f11 false true false false) := by
  refine returnsInHanded_of_change (C := Try.checked) own started (by kernel_rfl) Try.func11
    (ChangeSpec.witness6 (enc := enc) (C := Try.checked) false ⟨#[], #[.slice none 0 0], []⟩ 8 (by kernel_rfl) (by kernel_rfl) (by kernel_rfl) (by kernel_rfl)) ?_
  intro W base args ds gs before hval0 hW hcnd _
  have hval : ∀ (j : Nat) t v, Try.f11.params[j]? = some t → args[j]? = some v → Value.okWide Try.prog W .any base t v := hval0
  have hW' := hW
  obtain ⟨p, q, hA0, hV, rfl, hfz, hnd⟩ := hW
  have hA : DataW.TrodAll enc Try.prog W 0 (fun _ => true) true Try.f11.params.toList args.toList ds p := hA0
  rw [Try.params11] at hA hval
  obtain ⟨v0, vs0, d0, ds0, p0, q0, hargs, rfl, rfl, h0, r0⟩ := trodAll_cons hA
  obtain ⟨rfl, rfl, rfl⟩ := trodAll_nil r0
  obtain rfl : args = #[v0] := by cases args; simp_all
  obtain ⟨rfl, rfl⟩ := trodVars_none hV
  obtain ⟨a0, len0, cap0, rfl⟩ := okWide_slice Try.underlying22 (hval 0 22 v0 rfl rfl)
  have k0 := h0
  have lt0 : ∀ x ∈ p0, x.block < W.heap.size := by obtain ⟨m, hm⟩ := k0; exact DataW.trod_lt m _ _ _ hm
  obtain ⟨z0, w0⟩ : ∃ zs, IsRow .u8 W a0 len0 cap0 zs := by
    obtain ⟨fuel, hf⟩ := h0
    rcases open_ints Try.underlying22 Try.underlying5 (by kernel_rfl) hf with ⟨hcs, _⟩ | ⟨x, l, c, zs, hcs, _, hl, hm, hz, _, hcell, hwz⟩
    · simp [Value.cells] at hcs
      obtain ⟨rfl, rfl, rfl⟩ := hcs
      exact ⟨[], .inl ⟨rfl, rfl, rfl, rfl⟩⟩
    · simp [Value.cells] at hcs
      obtain ⟨rfl, rfl, rfl⟩ := hcs
      exact ⟨zs, .inr ⟨_, rfl, hl, hm, by simpa using hz, hcell, hwz⟩⟩
  clear hA0 hval0
  refine (walk a0 len0 cap0 z0 W w0).mono fun e W' ⟨he, bel⟩ => ?_
  subst he
  exact ⟨_, rfl, _, _, _, [], _, [], hW', trodAll_mk1 (shut_bool Try.underlying4 _), (trodAll_cons_mk (Below.trod laidOut (by kernel_rfl) (of_decide_eq_true (by kernel_rfl)) k0 bel lt0) trodAll_mk0), rfl, bel.frame _, fun h => by cases h⟩

theorem cThree : ((Rows.fnFromChordsRow.lifted == Try.prog.liftsFinal) && (Try.prog.make == some Rows.fnFromChordsRow.make) && Try.prog.mayEnter) = true := by kernel_rfl
theorem cAll : ((Rows.fnFromChordsRow.lifted == Try.prog.liftsFinal) = true ∧ (Try.prog.make == some Rows.fnFromChordsRow.make) = true) ∧ Try.prog.mayEnter = true := by
  have h := cThree
  simp only [Bool.and_eq_true] at h
  exact h
set_option maxHeartbeats 100000000 in
theorem closed : joinedFacts Try.prog 11 Try.f11 Rows.fnFromChordsSpec Rows.fnFromChordsRow = true := by
  unfold joinedFacts
  simp only [Bool.and_eq_true]
  repeat' apply And.intro
  all_goals first | with_reducible exact cAll.1.1 | with_reducible exact cAll.1.2 | with_reducible exact cAll.2 | (as_aux_lemma => kernel_rfl)

theorem over : Rows.fnFromChordsRow.holds Try.pinned (OpenSpec.ofChange Rows.fnFromChordsSpec) :=
  OpenClaim.holds_of_wide 11 Try.f11 rfl rfl rfl rfl rfl rfl rfl ⟨rfl, rfl, rfl, rfl, rfl⟩ rfl rfl rfl rfl rfl (by kernel_rfl) Try.func11 closed
    (of_decide_eq_true (by kernel_rfl)) (by unfold Func.isWrapper; first | (rw [if_pos (by decide +kernel)]; kernel_rfl) | (rw [if_neg (by decide +kernel)]; exact ⟨rfl, rfl⟩))
    (fun os started H enc _ => lifted os started H enc)

theorem proved : Rows.FnFromChordsSaid := over
#print axioms proved
end Go.Proofs.Ytdapdaadglaoiaa.fnFromChords
