/- 'FnCycles' is proved: the law returns true for every input. The frame follows the kit's proof-skeleton. -/
import Derived.Test.YtdapdaadglaoiaaRows
import Derived.WalkKit
import Derived.ProofKit
import Derived.OpenShut
import Derived.ShutString
import Derived.ChangeOld
import Derived.Below
import Derived.Test.YtdapdaadglaoiaaDrC
import Derived.Test.YtdapdaadglaoiaaCycF
import Derived.Test.YtdapdaadglaoiaaLike2
namespace Go.Proofs.Ytdapdaadglaoiaa.fnCycles
open Go.ChangeShapes Go.WideShapes Go.ChangeAt Go.RowKit
open Go.ChangeMaps (open_string shut_string)
set_option linter.unusedVariables false

theorem own : ownKnob Try.prog.godebug = none := by kernel_rfl
theorem laidOut : laidOutB Try.prog = true := by kernel_rfl

def FyRel (m : Nat) (w1 : World) (i : Value) (wr : World) : Prop := ∃ k : Nat, i = .int .i64 k ∧ k ≤ m ∧ Below w1.heap.size w1 wr
set_option maxRecDepth 100000 in

set_option maxHeartbeats 1000000 in
theorem walk (a0 : Option Addr) (len0 cap0 : Nat) (z0 : List Int) (w : World) (w0 : IsRow .u8 w a0 len0 cap0 z0) :
    Calls Try.prog 9 #[.slice a0 len0 cap0] w fun e w' => e = .returned (.bool true) ∧ Below w.heap.size w w' := by
  by_cases hl : 4096 < len0
  · go_enter Try.func9, Try.ntmps9
    go_wp2
    go_ret
    exact ⟨rfl, Below.refl _ _⟩
  have hB := hid (w0.bytes (by omega))
  clear w0
  go_enter Try.func9, Try.ntmps9
  go_wp2_with (go_at_call 18; go_in)
  refine (DrawCycleOf_any a0 len0 cap0 w hB.out).mono ?_
  rintro e w1 ⟨nv, pv, n, r, rfl, hd⟩
  clear hB
  obtain ⟨a1, k1, rfl⟩ := hd.at.1.shape
  obtain ⟨c1, m1, rfl⟩ := hd.at.2.2.shape
  have B := hid (hd.bel.alloc hd.bel.size (.cells #[.slice a1 n.nodes.length k1, .slice c1 n.pipes.length m1] 27))
  have X1 := hid (Box.new w1 #[.slice a1 n.nodes.length k1, .slice c1 n.pipes.length m1] 27)
  have N1 := hid (hd.at.below (below_new w1 (.cells #[.slice a1 n.nodes.length k1, .slice c1 n.pipes.length m1] 27)))
  have Q1 := hid hd.c1
  have l1 := hd.l1
  have l2 := hd.l2
  clear hd
  obtain ⟨Y, c, hLc⟩ : ∃ L c, ccR n r = (L, c) := ⟨_, _, rfl⟩
  have E1 := hid hLc
  obtain ⟨D, d, hDd⟩ : ∃ L c, cdR n = (L, c) := ⟨_, _, rfl⟩
  have E2 := hid hDd
  obtain ⟨X10, X11⟩ := X1.out.two
  go_wp2_with fail
  refine (OutI.eq (impl_CycleOf_any _ _ n r _ N1.out Q1.out) E1.out).mono ?_
  rintro e w2 ⟨r2, rfl, o9, b2⟩
  clear X10 X11
  have B := hid (B.out.trans (b2.mono B.out.size))
  have X1 := hid (X1.out.below b2)
  have N1 := hid (N1.out.below b2)
  obtain ⟨_, r2a, r2c, r2h, _⟩ := id o9
  subst r2h
  have S2 := hid o9
  clear b2 o9
  obtain ⟨X10, X11⟩ := X1.out.two
  go_wp2_with fail
  refine (OutI.eq (spec_CycleOf_any _ _ n r _ N1.out) E1.out).mono ?_
  rintro e w3 ⟨r3, rfl, o9, b3⟩
  clear X10 X11
  have B := hid (B.out.trans (b3.mono B.out.size))
  have X1 := hid (X1.out.below b3)
  have N1 := hid (N1.out.below b3)
  have S2 := hid (S2.out.below b3)
  obtain ⟨_, r3a, r3c, r3h, _⟩ := id o9
  subst r3h
  have S3 := hid o9
  clear b3 o9
  go_wp2_with fail
  refine (likeInts_t _ _ Y _ S2.out.ints S3.out.ints).mono ?_
  rintro e w4 ⟨rfl, b4⟩
  have B := hid (B.out.trans (b4.mono B.out.size))
  have X1 := hid (X1.out.below b4)
  have N1 := hid (N1.out.below b4)
  have S2 := hid (S2.out.below b4)
  clear b4 S3
  obtain ⟨X10, X11⟩ := X1.out.two
  go_wp2_with fail
  refine (OutI.eq (impl_ChordsOf_any _ _ n _ N1.out Q1.out) E2.out).mono ?_
  rintro e w5 ⟨r5, rfl, o9, b5⟩
  clear X10 X11
  have B := hid (B.out.trans (b5.mono B.out.size))
  have X1 := hid (X1.out.below b5)
  have N1 := hid (N1.out.below b5)
  have S2 := hid (S2.out.below b5)
  obtain ⟨_, r5a, r5c, r5h, _⟩ := id o9
  subst r5h
  have S5 := hid o9
  clear b5 o9
  obtain ⟨X10, X11⟩ := X1.out.two
  go_wp2_with fail
  refine (OutI.eq (spec_ChordsOf_any _ _ n _ N1.out) E2.out).mono ?_
  rintro e w6 ⟨r6, rfl, o9, b6⟩
  clear X10 X11
  have B := hid (B.out.trans (b6.mono B.out.size))
  have X1 := hid (X1.out.below b6)
  have N1 := hid (N1.out.below b6)
  have S2 := hid (S2.out.below b6)
  have S5 := hid (S5.out.below b6)
  obtain ⟨_, r6a, r6c, r6h, _⟩ := id o9
  subst r6h
  have S6 := hid o9
  clear b6 o9
  go_wp2_with fail
  refine (likeInts_t _ _ D _ S5.out.ints S6.out.ints).mono ?_
  rintro e w7 ⟨rfl, b7⟩
  have B := hid (B.out.trans (b7.mono B.out.size))
  have X1 := hid (X1.out.below b7)
  have N1 := hid (N1.out.below b7)
  have S2 := hid (S2.out.below b7)
  have S5 := hid (S5.out.below b7)
  clear b7 S6
  by_cases h0 : c = 0
  case neg =>
    have hc0 : (c != 0) = true := by simpa using h0
    clear hLc
    go_wp2_with fail
    go_ret
    exact ⟨rfl, B.out⟩
  subst h0
  have hcn : netB n = true ∧ ∃ k : Nat, r = k ∧ k < n.pipes.length ∧ (k : Int) ∉ forest n ∧ cyI n k = Y := by
    unfold ccR at hLc
    split at hLc
    · next h1 =>
      split at hLc
      · next h2 =>
        obtain ⟨k, rfl, h3, h4⟩ := chords_mem.1 (List.contains_iff_mem.1 h2)
        exact ⟨h1, k, rfl, h3, h4, (Prod.mk.inj hLc).1⟩
      · simp at hLc
    · simp at hLc
  obtain ⟨hb, k0, rfl, hk0, hkf, hY⟩ := hcn
  obtain ⟨hc1, hc2, hc3⟩ := cyc_law hb hk0 hkf
  have hD : chords n = D ∧ d = 0 := by
    unfold cdR at hDd
    rw [if_pos hb] at hDd
    exact ⟨(Prod.mk.inj hDd).1, (Prod.mk.inj hDd).2.symm⟩
  obtain ⟨hD, rfl⟩ := hD
  obtain ⟨F, hF⟩ : ∃ F, cfTo n (cyI n k0) (chords n).length = F := ⟨_, rfl⟩
  have hFl : F.length = D.length := by rw [← hF, cfTo_all_len, hD]
  rw [hF, hY] at hc1
  rw [hY] at hc2
  have E3 := hid hc1
  have HC := hid hc2
  have HV : Hid (∀ i (h : i < F.length) (h' : i < D.length), F[i] = if D[i] = (k0 : Int) then 1 else 0) := by
    subst hF hD
    exact hc3
  have HFL := hid hFl
  have hD20 : D.length ≤ 1000 := by
    rw [← hD]
    have := chords_le n
    omega
  clear hLc hDd hY hD hF hFl hc1 hc2 hc3 hb hkf E1 E2
  obtain ⟨X10, X11⟩ := X1.out.two
  go_wp2_with fail
  refine (OutI.eq (impl_ChordFlows_any _ _ _ n Y _ N1.out S2.out.ints Q1.out) E3.out).mono ?_
  rintro e w8 ⟨r8, rfl, o9, b8⟩
  clear X10 X11
  have B := hid (B.out.trans (b8.mono B.out.size))
  have X1 := hid (X1.out.below b8)
  have N1 := hid (N1.out.below b8)
  have S2 := hid (S2.out.below b8)
  have S5 := hid (S5.out.below b8)
  obtain ⟨_, r8a, r8c, r8h, _⟩ := id o9
  subst r8h
  have S8 := hid o9
  clear b8 o9
  obtain ⟨X10, X11⟩ := X1.out.two
  go_wp2_with fail
  refine (OutI.eq (spec_ChordFlows_any _ _ _ n Y _ N1.out S2.out.ints) E3.out).mono ?_
  rintro e w9 ⟨r9, rfl, o9, b9⟩
  clear X10 X11
  have B := hid (B.out.trans (b9.mono B.out.size))
  have X1 := hid (X1.out.below b9)
  have N1 := hid (N1.out.below b9)
  have S2 := hid (S2.out.below b9)
  have S5 := hid (S5.out.below b9)
  have S8 := hid (S8.out.below b9)
  obtain ⟨_, r9a, r9c, r9h, _⟩ := id o9
  subst r9h
  have S9 := hid o9
  clear b9 o9
  go_wp2_with fail
  refine (likeInts_t _ _ F _ S8.out.ints S9.out.ints).mono ?_
  rintro e w10 ⟨rfl, b10⟩
  have B := hid (B.out.trans (b10.mono B.out.size))
  have X1 := hid (X1.out.below b10)
  have N1 := hid (N1.out.below b10)
  have S2 := hid (S2.out.below b10)
  have S5 := hid (S5.out.below b10)
  have S8 := hid (S8.out.below b10)
  clear b10 S9
  have hq : ((F.length : Int) != (D.length : Int)) = false := by simp [HFL.out]
  go_wp2_with fail
  clear hq
  go_loopw [17] (fun i wr => FyRel F.length w10 i wr) (fun i _ => F.length - (intOf i).toNat)
  case atStart => exact ⟨0, rfl, by omega, Below.refl _ _⟩
  case round =>
    obtain ⟨k, rfl, hk, hbel⟩ := hrel
    by_cases hlt : k < F.length
    · have hltI : (k : Int) < F.length := by omega
      have hltD : k < D.length := by have := HFL.out; omega
      have hltDI : (k : Int) < D.length := by omega
      obtain ⟨fb, fo, rfl, _, hfl, _, hfc⟩ := S8.out.at (by omega)
      obtain ⟨db, do_, rfl, _, hdl, _, hdc⟩ := S5.out.at (by omega)
      have q0 := (hbel.cell (p := ⟨fb, fo + k, none⟩) hfl).trans (hfc k hlt)
      have q1 := (hbel.cell (p := ⟨db, do_ + k, none⟩) hdl).trans (hdc k hltD)
      have hv := HV.out k hlt hltD
      have HB := hid hbel
      obtain ⟨G, hG⟩ : ∃ G, D[k] = G := ⟨_, rfl⟩
      rw [hG] at hv q1
      rw [hv] at q0
      clear hbel hfc hdc hv hG
      by_cases he : G = (k0 : Int)
      · subst he
        rw [if_pos rfl] at q0
        go_wp2_with fail
        go_quiet (fail)
        go_wp2_with fail
        go_roundw
        case rel => exact ⟨k + 1, by go_num, by omega, HB.out.trans ⟨rfl, rfl, rfl, Nat.le_refl _, fun _ _ => rfl⟩⟩
        case measure => simp [intOf]; omega
      · rw [if_neg he] at q0
        have heb : (G == (k0 : Int)) = false := by simpa using he
        clear he
        go_wp2_with fail
        go_quiet (fail)
        go_wp2_with fail
        go_roundw
        case rel => exact ⟨k + 1, by go_num, by omega, HB.out.trans ⟨rfl, rfl, rfl, Nat.le_refl _, fun _ _ => rfl⟩⟩
        case measure => simp [intOf]; omega
    · obtain rfl : k = F.length := by omega
      have B := hid (B.out.trans (hbel.mono B.out.size))
      have X1 := hid (X1.out.below hbel)
      have N1 := hid (N1.out.below hbel)
      have S2 := hid (S2.out.below hbel)
      obtain ⟨X10, X11⟩ := X1.out.two
      clear hbel
      go_wp2_with fail
      refine (impl_IsCirculation_any _ _ _ n Y _ N1.out S2.out.ints Q1.out).mono ?_
      rw [HC.out]
      rintro e w11 ⟨rfl, b11⟩
      have B := hid (B.out.trans (b11.mono B.out.size))
      clear b11 X10 X11
      go_wp2_with fail
      go_ret
      exact ⟨rfl, B.out⟩

set_option maxRecDepth 100000 in
theorem lifted (os : Os) (started : os.Started) (H : Type) (enc : TypeId × Value → H) :
    ReturnsInHanded {} Try.checked os 9 .any (Rows.fnCyclesSpec.pre6 enc Try.prog Try.f9 Rows.fnCyclesRow.domain false) (Rows.fnCyclesSpec.post enc Try.prog Try.f9 false true false false) := by
  refine returnsInHanded_of_change (C := Try.checked) own started (by kernel_rfl) Try.func9
    (ChangeSpec.witness6 (enc := enc) (C := Try.checked) false ⟨#[], #[.slice none 0 0], []⟩ 8 (by kernel_rfl) (by kernel_rfl) (by kernel_rfl) (by kernel_rfl)) ?_
  intro W base args ds gs before hval0 hW hcnd _
  have hval : ∀ (j : Nat) t v, Try.f9.params[j]? = some t → args[j]? = some v → Value.okWide Try.prog W .any base t v := hval0
  have hW' := hW
  obtain ⟨p, q, hA0, hV, rfl, hfz, hnd⟩ := hW
  have hA : DataW.TrodAll enc Try.prog W 0 (fun _ => true) true Try.f9.params.toList args.toList ds p := hA0
  rw [Try.params9] at hA hval
  obtain ⟨v0, vs0, d0, ds0, p0, q0, hargs, rfl, rfl, h0, r0⟩ := trodAll_cons hA
  obtain ⟨rfl, rfl, rfl⟩ := trodAll_nil r0
  obtain rfl : args = #[v0] := by cases args; simp_all
  obtain ⟨rfl, rfl⟩ := trodVars_none hV
  obtain ⟨a0, len0, cap0, rfl⟩ := okWide_slice Try.underlying22 (hval 0 22 v0 rfl rfl)
  have k0 := h0
  have lt0 : ∀ x ∈ p0, x.block < W.heap.size := by obtain ⟨m, hm⟩ := k0; exact DataW.trod_lt m _ _ _ hm
  obtain ⟨z0, w0⟩ : ∃ zs, IsRow .u8 W a0 len0 cap0 zs := by
    obtain ⟨fuel, hf⟩ := h0
    rcases open_ints Try.underlying22 Try.underlying5 (by kernel_rfl) hf with ⟨hcs, _⟩ | ⟨x, l, c, zs, hcs, _, hl, hm, hz, _, hcell, hwz⟩
    · simp [Value.cells] at hcs
      obtain ⟨rfl, rfl, rfl⟩ := hcs
      exact ⟨[], .inl ⟨rfl, rfl, rfl, rfl⟩⟩
    · simp [Value.cells] at hcs
      obtain ⟨rfl, rfl, rfl⟩ := hcs
      exact ⟨zs, .inr ⟨_, rfl, hl, hm, by simpa using hz, hcell, hwz⟩⟩
  clear hA0 hval0
  refine (walk a0 len0 cap0 z0 W w0).mono fun e W' ⟨he, bel⟩ => ?_
  subst he
  exact ⟨_, rfl, _, _, _, [], _, [], hW', trodAll_mk1 (shut_bool Try.underlying4 _), (trodAll_cons_mk (Below.trod laidOut (by kernel_rfl) (of_decide_eq_true (by kernel_rfl)) k0 bel lt0) trodAll_mk0), rfl, bel.frame _, fun h => by cases h⟩

theorem cThree : ((Rows.fnCyclesRow.lifted == Try.prog.liftsFinal) && (Try.prog.make == some Rows.fnCyclesRow.make) && Try.prog.mayEnter) = true := by kernel_rfl
theorem cAll : ((Rows.fnCyclesRow.lifted == Try.prog.liftsFinal) = true ∧ (Try.prog.make == some Rows.fnCyclesRow.make) = true) ∧ Try.prog.mayEnter = true := by
  have h := cThree
  simp only [Bool.and_eq_true] at h
  exact h
set_option maxHeartbeats 100000000 in
theorem closed : joinedFacts Try.prog 9 Try.f9 Rows.fnCyclesSpec Rows.fnCyclesRow = true := by
  unfold joinedFacts
  simp only [Bool.and_eq_true]
  repeat' apply And.intro
  all_goals first | with_reducible exact cAll.1.1 | with_reducible exact cAll.1.2 | with_reducible exact cAll.2 | (as_aux_lemma => kernel_rfl)

theorem over : Rows.fnCyclesRow.holds Try.pinned (OpenSpec.ofChange Rows.fnCyclesSpec) :=
  OpenClaim.holds_of_wide 9 Try.f9 rfl rfl rfl rfl rfl rfl rfl ⟨rfl, rfl, rfl, rfl, rfl⟩ rfl rfl rfl rfl rfl (by kernel_rfl) Try.func9 closed
    (of_decide_eq_true (by kernel_rfl)) (by unfold Func.isWrapper; first | (rw [if_pos (by decide +kernel)]; kernel_rfl) | (rw [if_neg (by decide +kernel)]; exact ⟨rfl, rfl⟩))
    (fun os started H enc _ => lifted os started H enc)

theorem proved : Rows.FnCyclesSaid := over
#print axioms proved
end Go.Proofs.Ytdapdaadglaoiaa.fnCycles
