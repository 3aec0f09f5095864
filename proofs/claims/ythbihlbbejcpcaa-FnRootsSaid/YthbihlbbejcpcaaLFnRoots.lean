/- 'FnRoots' is proved: the law returns true for every input; frame by the kit's proof-skeleton. -/
import Derived.Test.YthbihlbbejcpcaaRows
import Derived.WalkKit
import Derived.ProofKit
import Derived.OpenShut
import Derived.Test.YthbihlbbejcpcaaDraw2
import Derived.Test.YthbihlbbejcpcaaNumR
import Derived.ShutString
import Derived.ChangeOld
import Derived.Below
namespace Go.Proofs.Ythbihlbbejcpcaa.fnRoots
open Go.ChangeShapes Go.WideShapes Go.ChangeAt Go.RowKit
open Go.ChangeMaps (open_string shut_string)
set_option linter.unusedVariables false

theorem own : ownKnob Try.prog.godebug = none := by kernel_rfl
theorem laidOut : laidOutB Try.prog = true := by kernel_rfl

theorem walk (a0 : Option Addr) (len0 cap0 : Nat) (z0 : List Int) (w : World) (w0 : IsRow .u8 w a0 len0 cap0 z0) :
    Calls Try.prog 14 #[.slice a0 len0 cap0] w fun e w' => e = .returned (.bool true) ∧ Below w.heap.size w w' := by
  by_cases hl : 4096 < len0
  · go_enter Try.func14, Try.ntmps14
    go_wp2
    go_ret
    exact ⟨rfl, Below.refl _ _⟩
  · have hB := hid (w0.bytes (by omega))
    clear w0
    go_enter Try.func14, Try.ntmps14
    go_wp2_with (go_at_call 24; go_in)
    refine (DrawRootOf_any a0 len0 cap0 w hB.out).mono ?_
    rintro e w1 ⟨x, rfl, x0, x1, hb1⟩
    by_cases hv : inB x 0 1000000000000000000 = true
    · have e1 : rootS x = (root x, 0) := by simp only [rootS, hv, if_true]
      have g1 := inB_t hv
      obtain ⟨q0, q1, q2⟩ := root_sq x g1.1
      obtain ⟨r0, r1⟩ := root_bd g1.1 g1.2
      have e2 : signedSquareS (root x) = (root x * root x, 0) := by
        have : inB (root x) (-1000000000) 1000000000 = true := inB_mk (by omega) (by omega)
        simp only [signedSquareS, this, if_true]
        rw [show ((root x).natAbs : Int) = root x by omega]
      have e3 : signedRootS (-x) = (-root x, 0) := by
        have : inB (-x) (-1000000000000000000) 1000000000000000000 = true := inB_mk (by omega) (by omega)
        simp only [signedRootS, this, if_true]
        unfold sroot
        rcases (by omega : x = 0 ∨ 0 < x) with h | h
        · subst h; rw [if_neg (by omega)]
          have : root 0 = 0 := root_uniq 0 0 (by omega) (by omega) (by omega)
          simp [this]
        · rw [if_pos (by omega), Int.neg_neg]
      have E1 := hid e1
      have E2 := hid e2
      have E3 := hid e3
      clear e1 e2 e3 hv
      have hsq := sq_bd (r := root x + 1) (by omega) (by omega)
      generalize root x = r at *
      go_wp2_with fail
      refine (impl_RootOf_any x _).mono ?_
      rw [E1.out]
      rintro e w' ⟨rfl, rfl⟩
      go_wp2_with fail
      refine (spec_RootOf_any x _).mono ?_
      rw [E1.out]
      rintro e w' ⟨rfl, rfl⟩
      go_wp2_with fail
      refine (impl_SignedSquare_any _ _).mono ?_
      rw [E2.out]
      rintro e w' ⟨rfl, rfl⟩
      go_wp2_with fail
      refine (impl_SignedRoot_any _ _).mono ?_
      rw [E3.out]
      rintro e w' ⟨rfl, rfl⟩
      go_wp2
      all_goals go_ret
      all_goals exact ⟨rfl, hb1⟩
    · have e1 : rootS x = (0, 2) := by simp only [rootS, hv]; rfl
      have E1 := hid e1
      clear e1 hv
      go_wp2_with fail
      refine (impl_RootOf_any x _).mono ?_
      rw [E1.out]
      rintro e w' ⟨rfl, rfl⟩
      go_wp2_with fail
      refine (spec_RootOf_any x _).mono ?_
      rw [E1.out]
      rintro e w' ⟨rfl, rfl⟩
      go_wp2
      go_ret
      exact ⟨rfl, hb1⟩

set_option maxRecDepth 100000 in
theorem lifted (os : Os) (started : os.Started) (H : Type) (enc : TypeId × Value → H) :
    ReturnsInHanded {} Try.checked os 14 .any (Rows.fnRootsSpec.pre6 enc Try.prog Try.f14 Rows.fnRootsRow.domain false) (Rows.fnRootsSpec.post enc Try.prog Try.f14 false true false false) := by
  refine returnsInHanded_of_change (C := Try.checked) own started (by kernel_rfl) Try.func14
    (ChangeSpec.witness6 (enc := enc) (C := Try.checked) false ⟨#[], #[.slice none 0 0], []⟩ 8 (by kernel_rfl) (by kernel_rfl) (by kernel_rfl) (by kernel_rfl)) ?_
  intro W base args ds gs before hval0 hW hcnd _
  have hval : ∀ (j : Nat) t v, Try.f14.params[j]? = some t → args[j]? = some v → Value.okWide Try.prog W .any base t v := hval0
  have hW' := hW
  obtain ⟨p, q, hA0, hV, rfl, hfz, hnd⟩ := hW
  have hA : DataW.TrodAll enc Try.prog W 0 (fun _ => true) true Try.f14.params.toList args.toList ds p := hA0
  rw [Try.params14] at hA hval
  obtain ⟨v0, vs0, d0, ds0, p0, q0, hargs, rfl, rfl, h0, r0⟩ := trodAll_cons hA
  obtain ⟨rfl, rfl, rfl⟩ := trodAll_nil r0
  obtain rfl : args = #[v0] := by cases args; simp_all
  obtain ⟨rfl, rfl⟩ := trodVars_none hV
  obtain ⟨a0, len0, cap0, rfl⟩ := okWide_slice Try.underlying30 (hval 0 30 v0 rfl rfl)
  have k0 := h0
  have lt0 : ∀ x ∈ p0, x.block < W.heap.size := by obtain ⟨m, hm⟩ := k0; exact DataW.trod_lt m _ _ _ hm
  obtain ⟨z0, w0⟩ : ∃ zs, IsRow .u8 W a0 len0 cap0 zs := by
    obtain ⟨fuel, hf⟩ := h0
    rcases open_ints Try.underlying30 Try.underlying5 (by kernel_rfl) hf with ⟨hcs, _⟩ | ⟨x, l, c, zs, hcs, _, hl, hm, hz, _, hcell, hwz⟩
    · simp [Value.cells] at hcs
      obtain ⟨rfl, rfl, rfl⟩ := hcs
      exact ⟨[], .inl ⟨rfl, rfl, rfl, rfl⟩⟩
    · simp [Value.cells] at hcs
      obtain ⟨rfl, rfl, rfl⟩ := hcs
      exact ⟨zs, .inr ⟨_, rfl, hl, hm, by simpa using hz, hcell, hwz⟩⟩
  clear hA0 hval0
  refine (walk a0 len0 cap0 z0 W w0).mono fun e W' ⟨he, bel⟩ => ?_
  subst he
  exact ⟨_, rfl, _, _, _, [], _, [], hW', trodAll_mk1 (shut_bool Try.underlying4 _), (trodAll_cons_mk (Below.trod laidOut (by kernel_rfl) (of_decide_eq_true (by kernel_rfl)) k0 bel lt0) trodAll_mk0), rfl, bel.frame _, fun h => by cases h⟩

theorem over : Rows.fnRootsRow.holds Try.pinned (OpenSpec.ofChange Rows.fnRootsSpec) :=
  OpenClaim.holds_of_wide 14 Try.f14 rfl rfl rfl rfl rfl rfl rfl ⟨rfl, rfl, rfl, rfl, rfl⟩ rfl rfl rfl rfl rfl (by kernel_rfl) Try.func14 (by kernel_rfl)
    (of_decide_eq_true (by kernel_rfl)) (by unfold Func.isWrapper; first | (rw [if_pos (by decide +kernel)]; kernel_rfl) | (rw [if_neg (by decide +kernel)]; exact ⟨rfl, rfl⟩))
    (fun os started H enc _ => lifted os started H enc)

theorem proved : Rows.FnRootsSaid := over
#print axioms proved
end Go.Proofs.Ythbihlbbejcpcaa.fnRoots
