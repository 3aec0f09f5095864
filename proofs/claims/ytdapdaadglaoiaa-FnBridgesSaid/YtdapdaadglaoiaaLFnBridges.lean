/- 'FnBridges' is proved: the law returns true for every input. The frame follows the kit's proof-skeleton. -/
import Derived.Test.YtdapdaadglaoiaaRows
import Derived.WalkKit
import Derived.ProofKit
import Derived.OpenShut
import Derived.ShutString
import Derived.ChangeOld
import Derived.Below
import Derived.Test.YtdapdaadglaoiaaDrI
import Derived.Test.YtdapdaadglaoiaaLikeR
import Derived.Test.YtdapdaadglaoiaaConn
import Derived.Test.YtdapdaadglaoiaaCut
import Derived.Test.YtdapdaadglaoiaaLike2
namespace Go.Proofs.Ytdapdaadglaoiaa.fnBridges
open Go.ChangeShapes Go.WideShapes Go.ChangeAt Go.RowKit
open Go.ChangeMaps (open_string shut_string)
set_option linter.unusedVariables false

theorem own : ownKnob Try.prog.godebug = none := by kernel_rfl
theorem laidOut : laidOutB Try.prog = true := by kernel_rfl

def FcRel (m : Nat) (w1 : World) (i : Value) (wr : World) : Prop := ∃ k : Nat, i = .int .i64 k ∧ k ≤ m ∧ Below w1.heap.size w1 wr
theorem csM_out {n : Net} (hb : netB n = true) {r : List Int} (h : r ∈ csM n) : ∀ x : Nat, x < n.nodes.length → outAt n r x = 0 := by
  obtain ⟨c, hc, rfl⟩ := List.mem_map.1 h
  obtain ⟨i, rfl, hi, hf⟩ := chords_mem.1 hc
  exact (cyI_spec hb hi hf).2.1

set_option maxHeartbeats 1000000 in
theorem walk (a0 : Option Addr) (len0 cap0 : Nat) (z0 : List Int) (w : World) (w0 : IsRow .u8 w a0 len0 cap0 z0) :
    Calls Try.prog 8 #[.slice a0 len0 cap0] w fun e w' => e = .returned (.bool true) ∧ Below w.heap.size w w' := by
  by_cases hl : 4096 < len0
  · go_enter Try.func8, Try.ntmps8
    go_wp2
    go_ret
    exact ⟨rfl, Below.refl _ _⟩
  have hB := hid (w0.bytes (by omega))
  clear w0
  go_enter Try.func8, Try.ntmps8
  go_wp2_with (go_at_call 18; go_in)
  refine (DrawBridgesOf_any a0 len0 cap0 w hB.out).mono ?_
  rintro e w1 ⟨nv, pv, n, rfl, hd⟩
  clear hB
  obtain ⟨a1, k1, rfl⟩ := hd.at.1.shape
  obtain ⟨c1, m1, rfl⟩ := hd.at.2.2.shape
  have B := hid (hd.bel.alloc hd.bel.size (.cells #[.slice a1 n.nodes.length k1, .slice c1 n.pipes.length m1] 27))
  have X1 := hid (Box.new w1 #[.slice a1 n.nodes.length k1, .slice c1 n.pipes.length m1] 27)
  have N1 := hid (hd.at.below (below_new w1 (.cells #[.slice a1 n.nodes.length k1, .slice c1 n.pipes.length m1] 27)))
  have Q1 := hid hd.c1
  have Q2 := hid hd.c2
  have l1 := hd.l1
  have l2 := hd.l2
  clear hd
  obtain ⟨L, c, hLc⟩ : ∃ L c, brR n = (L, c) := ⟨_, _, rfl⟩
  have E1 := hid hLc
  obtain ⟨X10, X11⟩ := X1.out.two
  go_wp2_with fail
  refine (OutI.eq (impl_BridgesOf_any _ _ n _ N1.out Q1.out) E1.out).mono ?_
  rintro e w2 ⟨r2, rfl, o2, b2⟩
  clear X10 X11
  have B := hid (B.out.trans (b2.mono B.out.size))
  have X1 := hid (X1.out.below b2)
  have N1 := hid (N1.out.below b2)
  have S2 := hid o2
  clear b2 o2
  obtain ⟨X10, X11⟩ := X1.out.two
  go_wp2_with fail
  refine (OutI.eq (spec_BridgesOf_any _ _ n _ N1.out Q2.out) E1.out).mono ?_
  rintro e w3 ⟨r3, rfl, o3, b3⟩
  clear X10 X11
  have B := hid (B.out.trans (b3.mono B.out.size))
  have X1 := hid (X1.out.below b3)
  have N1 := hid (N1.out.below b3)
  have S2 := hid (S2.out.below b3)
  obtain ⟨_, ra, rc, hr2, _⟩ := id S2.out
  subst hr2
  obtain ⟨_, sa, sc, hr3, _⟩ := id o3
  subst hr3
  have S3 := hid o3
  clear b3 o3
  obtain ⟨X10, X11⟩ := X1.out.two
  go_wp2_with fail
  go_region_with (first
    | (go_at_call 30; refine (likeInts_t _ _ L _ (S2.out.ints.below (Below.refl _ _).drew) (S3.out.ints.below (Below.refl _ _).drew)).mono ?_; rintro e w4 ⟨rfl, b4⟩; have b4 := below_undrew b4; have B4 := hid b4; obtain ⟨Y10, Y11⟩ := (X1.out.below b4).two; clear b4)
    | (go_at_call 47; refine (impl_IsTree_any _ _ n _ (N1.out.below B4.out) Q1.out).mono ?_; rintro e w5 ⟨rfl, b5⟩; have B5 := hid (B4.out.trans (b5.mono B4.out.size)); obtain ⟨Z10, Z11⟩ := (X1.out.below B5.out).two; clear b5)
    | (go_at_call 48; refine (spec_IsTree_any _ _ n _ (N1.out.below B5.out)).mono ?_; rintro e w6 ⟨rfl, b6⟩; have B6 := hid (B5.out.trans (b6.mono B5.out.size)); clear b6))
  all_goals
    have B := hid (B.out.trans (B6.out.mono B.out.size))
    have X1 := hid (X1.out.below B6.out)
    have N1 := hid (N1.out.below B6.out)
    have S2 := hid (S2.out.below B6.out)
    clear B4 B5 B6 Y10 Y11 Z10 Z11 X10 X11 S3
    by_cases h0 : c = 0
    case neg =>
      have hc0 : (c != 0) = true := by simpa using h0
      clear hLc
      go_wp2_with fail
      go_ret
      exact ⟨rfl, B.out⟩
    subst h0
    have hcn : netB n = true ∧ bridges n = L := by
      unfold brR at hLc
      split at hLc
      · next h1 => exact ⟨h1, (Prod.mk.inj hLc).1⟩
      · simp at hLc
    obtain ⟨hb, hL⟩ := hcn
    have E2 : Hid (cbR n = (csM n, 0)) := by rw [Hid, cbR, if_pos hb]
    have HM : Hid (∀ r ∈ csM n, r.length = n.pipes.length ∧ ∀ k, k < n.pipes.length → r.getD k 0 ≠ 0 → L.contains (k : Int) = false) := fun r hr =>
      ⟨csM_row hb hr, fun k hk hf => by
        have h9 := cycle_bridge hb (csM_out hb hr) hk hf
        rw [hL] at h9
        cases h8 : L.contains (k : Int)
        · rfl
        · exact (h9 (List.contains_iff_mem.1 h8)).elim⟩
    have HT : Hid (itB n = true → L.length = n.pipes.length) := fun h => by
      unfold itB at h
      rw [hb] at h
      simp only [Bool.true_and, Bool.and_eq_true, decide_eq_true_eq] at h
      rw [← hL]
      exact tree_bridges hb h.1 h.2
    have hml : (csM n).length ≤ 1000 := by
      have h1 := chords_le n
      have h2 := csM_len n
      omega
    obtain ⟨M, hMe⟩ : ∃ M, csM n = M := ⟨_, rfl⟩
    rw [hMe] at E2 HM hml
    have hLl : L.length ≤ 1000 := by
      rw [← hL]
      have := bridgesTo_len n n.pipes.length
      unfold bridges
      omega
    clear hLc hL hb hMe
    obtain ⟨X10, X11⟩ := X1.out.two
    go_wp2_with fail
    refine (spec_IsTree_any _ _ n _ N1.out).mono ?_
    rintro e w7 ⟨rfl, b7⟩
    have B := hid (B.out.trans (b7.mono B.out.size))
    have X1 := hid (X1.out.below b7)
    have N1 := hid (N1.out.below b7)
    have S2 := hid (S2.out.below b7)
    clear b7 X10 X11
    obtain ⟨X10, X11⟩ := X1.out.two
    have hTT : itB n = false ∨ (itB n = true ∧ L.length = n.pipes.length) := by
      cases h : itB n
      · exact .inl rfl
      · exact .inr ⟨rfl, HT.out h⟩
    have HTT := hid hTT
    clear hTT
    rcases HTT.out with hT | ⟨hT, hE⟩
    case' inl =>
      rw [hT]
      clear hT
      go_wp2_with fail
    case' inr =>
      rw [hT]
      have hq : ((L.length : Int) != (n.pipes.length : Int)) = false := by simp [hE]
      clear hT hE
      go_wp2_with fail
    all_goals
      refine (impl_CycleBasis_any _ _ n _ N1.out Q1.out).mono ?_
      rw [E2.out]
      rintro e w8 ⟨r8, rfl, ⟨vs8, bs8, m8⟩, b8⟩
      have M8 := hid m8.reads
      have B := hid (B.out.trans (b8.mono B.out.size))
      have X1 := hid (X1.out.below b8)
      have N1 := hid (N1.out.below b8)
      have S2 := hid (S2.out.below b8)
      obtain ⟨ma, mk, hr8, _⟩ := id M8.out
      subst hr8
      clear b8 m8 X10 X11
      obtain ⟨X10, X11⟩ := X1.out.two
      go_wp2_with fail
      refine (spec_CycleBasis_any _ _ n _ N1.out).mono ?_
      rw [E2.out]
      rintro e w9 ⟨r9, rfl, ⟨vs9, bs9, m9⟩, b9⟩
      have M9 := hid m9.reads
      have B := hid (B.out.trans (b9.mono B.out.size))
      have S2 := hid (S2.out.below b9)
      have M8 := hid (M8.out.below b9)
      clear b9 m9 X10 X11 X1 N1
      go_wp2_with fail
      refine (likeRows_t _ _ M _ M8.out M9.out (by omega)).mono ?_
      rintro e w10 ⟨rfl, b10⟩
      have B := hid (B.out.trans (b10.mono B.out.size))
      have S2 := hid (S2.out.below b10)
      have M8 := hid (M8.out.below b10)
      clear b10 M9
      go_wp2_with fail
      go_loopw [12] (fun i wr => FcRel M.length w10 i wr) (fun i _ => M.length - (intOf i).toNat)
      case atStart => exact ⟨0, rfl, by omega, Below.refl _ _⟩
      case round =>
        obtain ⟨k, rfl, hk, hbel⟩ := hrel
        by_cases hlt : k < M.length
        · have hltI : (k : Int) < M.length := by omega
          obtain ⟨hrl, hrc⟩ := HM.out _ (List.getElem_mem hlt)
          obtain ⟨R, hR⟩ : ∃ R, M[k] = R := ⟨_, rfl⟩
          rw [hR] at hrl hrc
          have HR := hid hR
          have HC := hid hrc
          have HL := hid hrl
          have hrl2 : R.length ≤ 1000 := by omega
          have HB := hid hbel
          clear hR hrc hrl hbel
          go_wp2_with fail
          go_loopw [13] (fun i wx => FcRel R.length w10 i wx) (fun i _ => R.length - (intOf i).toNat)
          case atStart => exact ⟨0, rfl, by omega, HB.out⟩
          case round =>
            obtain ⟨j, rfl, hj, hbx⟩ := hrel
            obtain ⟨b0, o0, rfl, hl0, hc0⟩ := (M8.out.below hbx).at (by omega)
            obtain ⟨x0, q0, i0⟩ := hc0 k hlt
            rw [HR.out] at i0
            obtain ⟨_, xa, xc, hx, _⟩ := id i0
            rw [hx] at q0 i0
            have I0 := hid i0
            have HX := hid hbx
            clear hc0 i0 hx hbx
            by_cases hjl : j < R.length
            · have hjlI : (j : Int) < R.length := by omega
              obtain ⟨b1, o1, rfl, hl1, hc1⟩ := I0.out.at (by omega)
              have q1 := hc1 j hjl
              clear hc1
              by_cases hz : R[j] = 0
              · have hz2 : (R[j] != 0) = false := by simp [hz]
                clear hz
                go_wp2_with fail
                go_roundw
                case rel => exact ⟨j + 1, by go_num, by omega, HX.out⟩
                case measure => simp [intOf]; omega
              · have hz2 : (R[j] != 0) = true := by simp [hz]
                have hno : Hid (L.contains (j : Int) = false) := HC.out j (by have := HL.out; omega) (by simpa [List.getD, hjl] using hz)
                clear hz
                go_wp2_with fail
                refine (hasInt_any _ _ L j _ (S2.out.below HX.out)).mono ?_
                rw [hno.out]
                rintro e w11 ⟨rfl, b11⟩
                have HX2 := hid (HX.out.trans (b11.mono HX.out.size))
                clear b11 q1 q0
                go_wp2_with fail
                go_roundw
                case rel => exact ⟨j + 1, by go_num, by omega, HX2.out⟩
                case measure => simp [intOf]; omega
            · obtain rfl : j = R.length := by omega
              go_wp2_with fail
              go_roundw
              case rel => exact ⟨k + 1, by go_num, by omega, HX.out⟩
              case measure => simp [intOf]; omega
        · obtain rfl : k = M.length := by omega
          have HB := hid hbel
          clear hbel
          go_wp2_with fail
          go_ret
          exact ⟨rfl, B.out.trans (HB.out.mono B.out.size)⟩

set_option maxRecDepth 100000 in
theorem lifted (os : Os) (started : os.Started) (H : Type) (enc : TypeId × Value → H) :
    ReturnsInHanded {} Try.checked os 8 .any (Rows.fnBridgesSpec.pre6 enc Try.prog Try.f8 Rows.fnBridgesRow.domain false) (Rows.fnBridgesSpec.post enc Try.prog Try.f8 false true false false) := by
  refine returnsInHanded_of_change (C := Try.checked) own started (by kernel_rfl) Try.func8
    (ChangeSpec.witness6 (enc := enc) (C := Try.checked) false ⟨#[], #[.slice none 0 0], []⟩ 8 (by kernel_rfl) (by kernel_rfl) (by kernel_rfl) (by kernel_rfl)) ?_
  intro W base args ds gs before hval0 hW hcnd _
  have hval : ∀ (j : Nat) t v, Try.f8.params[j]? = some t → args[j]? = some v → Value.okWide Try.prog W .any base t v := hval0
  have hW' := hW
  obtain ⟨p, q, hA0, hV, rfl, hfz, hnd⟩ := hW
  have hA : DataW.TrodAll enc Try.prog W 0 (fun _ => true) true Try.f8.params.toList args.toList ds p := hA0
  rw [Try.params8] at hA hval
  obtain ⟨v0, vs0, d0, ds0, p0, q0, hargs, rfl, rfl, h0, r0⟩ := trodAll_cons hA
  obtain ⟨rfl, rfl, rfl⟩ := trodAll_nil r0
  obtain rfl : args = #[v0] := by cases args; simp_all
  obtain ⟨rfl, rfl⟩ := trodVars_none hV
  obtain ⟨a0, len0, cap0, rfl⟩ := okWide_slice Try.underlying22 (hval 0 22 v0 rfl rfl)
  have k0 := h0
  have lt0 : ∀ x ∈ p0, x.block < W.heap.size := by obtain ⟨m, hm⟩ := k0; exact DataW.trod_lt m _ _ _ hm
  obtain ⟨z0, w0⟩ : ∃ zs, IsRow .u8 W a0 len0 cap0 zs := by
    obtain ⟨fuel, hf⟩ := h0
    rcases open_ints Try.underlying22 Try.underlying5 (by kernel_rfl) hf with ⟨hcs, _⟩ | ⟨x, l, c, zs, hcs, _, hl, hm, hz, _, hcell, hwz⟩
    · simp [Value.cells] at hcs
      obtain ⟨rfl, rfl, rfl⟩ := hcs
      exact ⟨[], .inl ⟨rfl, rfl, rfl, rfl⟩⟩
    · simp [Value.cells] at hcs
      obtain ⟨rfl, rfl, rfl⟩ := hcs
      exact ⟨zs, .inr ⟨_, rfl, hl, hm, by simpa using hz, hcell, hwz⟩⟩
  clear hA0 hval0
  refine (walk a0 len0 cap0 z0 W w0).mono fun e W' ⟨he, bel⟩ => ?_
  subst he
  exact ⟨_, rfl, _, _, _, [], _, [], hW', trodAll_mk1 (shut_bool Try.underlying4 _), (trodAll_cons_mk (Below.trod laidOut (by kernel_rfl) (of_decide_eq_true (by kernel_rfl)) k0 bel lt0) trodAll_mk0), rfl, bel.frame _, fun h => by cases h⟩

theorem cThree : ((Rows.fnBridgesRow.lifted == Try.prog.liftsFinal) && (Try.prog.make == some Rows.fnBridgesRow.make) && Try.prog.mayEnter) = true := by kernel_rfl
theorem cAll : ((Rows.fnBridgesRow.lifted == Try.prog.liftsFinal) = true ∧ (Try.prog.make == some Rows.fnBridgesRow.make) = true) ∧ Try.prog.mayEnter = true := by
  have h := cThree
  simp only [Bool.and_eq_true] at h
  exact h
set_option maxHeartbeats 100000000 in
theorem closed : joinedFacts Try.prog 8 Try.f8 Rows.fnBridgesSpec Rows.fnBridgesRow = true := by
  unfold joinedFacts
  simp only [Bool.and_eq_true]
  repeat' apply And.intro
  all_goals first | with_reducible exact cAll.1.1 | with_reducible exact cAll.1.2 | with_reducible exact cAll.2 | (as_aux_lemma => kernel_rfl)

theorem over : Rows.fnBridgesRow.holds Try.pinned (OpenSpec.ofChange Rows.fnBridgesSpec) :=
  OpenClaim.holds_of_wide 8 Try.f8 rfl rfl rfl rfl rfl rfl rfl ⟨rfl, rfl, rfl, rfl, rfl⟩ rfl rfl rfl rfl rfl (by kernel_rfl) Try.func8 closed
    (of_decide_eq_true (by kernel_rfl)) (by unfold Func.isWrapper; first | (rw [if_pos (by decide +kernel)]; kernel_rfl) | (rw [if_neg (by decide +kernel)]; exact ⟨rfl, rfl⟩))
    (fun os started H enc _ => lifted os started H enc)

theorem proved : Rows.FnBridgesSaid := over
#print axioms proved
end Go.Proofs.Ytdapdaadglaoiaa.fnBridges
