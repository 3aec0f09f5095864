/- 'FnSignedRoots' is proved: the law returns true for every input; frame by the kit's proof-skeleton. -/
import Derived.Test.YthbihlbbejcpcaaRows
import Derived.WalkKit
import Derived.ProofKit
import Derived.OpenShut
import Derived.Test.YthbihlbbejcpcaaDraw2
import Derived.Test.YthbihlbbejcpcaaNumR
import Derived.ShutString
import Derived.ChangeOld
import Derived.Below
namespace Go.Proofs.Ythbihlbbejcpcaa.fnSignedRoots
open Go.ChangeShapes Go.WideShapes Go.ChangeAt Go.RowKit
open Go.ChangeMaps (open_string shut_string)
set_option linter.unusedVariables false

theorem own : ownKnob Try.prog.godebug = none := by kernel_rfl
theorem laidOut : laidOutB Try.prog = true := by kernel_rfl

theorem sroot_square (q : Int) : sroot (q * (q.natAbs : Int)) = q := by
  unfold sroot
  rcases (by omega : q < 0 ∨ 0 ≤ q) with h | h
  · have e : q * (q.natAbs : Int) = -(q * q) := by rw [show (q.natAbs : Int) = -q by omega, Int.mul_neg]
    have hp : 0 < q * q := Int.mul_pos_of_neg_of_neg h h
    rw [e, if_pos (by omega), Int.neg_neg]
    have : q * q = (-q) * (-q) := by rw [Int.neg_mul_neg]
    rw [root_uniq (q * q) (-q) (by omega) (by omega) (by rw [sq_exp]; omega)]
    omega
  · have e : q * (q.natAbs : Int) = q * q := by rw [show (q.natAbs : Int) = q by omega]
    have hp : 0 ≤ q * q := Int.mul_nonneg h h
    rw [e, if_neg (by omega), root_uniq (q * q) q h (by omega) (by rw [sq_exp]; omega)]
theorem walk (a0 : Option Addr) (len0 cap0 : Nat) (z0 : List Int) (w : World) (w0 : IsRow .u8 w a0 len0 cap0 z0) :
    Calls Try.prog 13 #[.slice a0 len0 cap0] w fun e w' => e = .returned (.bool true) ∧ Below w.heap.size w w' := by
  by_cases hl : 4096 < len0
  · go_enter Try.func13, Try.ntmps13
    go_wp2
    go_ret
    exact ⟨rfl, Below.refl _ _⟩
  · have hB := hid (w0.bytes (by omega))
    clear w0
    go_enter Try.func13, Try.ntmps13
    go_wp2_with (go_at_call 24; go_in)
    refine (DrawSignedSquare_any a0 len0 cap0 w hB.out).mono ?_
    rintro e w1 ⟨x, rfl, x0, x1, hb1⟩
    by_cases hv : inB x (-1000000000) 1000000000 = true
    · have e1 : signedSquareS x = (x * (x.natAbs : Int), 0) := by simp only [signedSquareS, hv, if_true]
      have g1 := inB_t hv
      have g4 := mul_bd (a := x) (b := (x.natAbs : Int)) g1.1 g1.2 (by omega) (by omega)
      have e2 : signedRootS (x * (x.natAbs : Int)) = (x, 0) := by
        have : inB (x * (x.natAbs : Int)) (-1000000000000000000) 1000000000000000000 = true := inB_mk g4.1 g4.2
        simp only [signedRootS, this, if_true, sroot_square]
      have e3 : signedSquareS (-x) = (-(x * (x.natAbs : Int)), 0) := by
        have : inB (-x) (-1000000000) 1000000000 = true := inB_mk (by omega) (by omega)
        simp only [signedSquareS, this, if_true, Int.natAbs_neg, Int.neg_mul]
      have E1 := hid e1
      have E2 := hid e2
      have E3 := hid e3
      clear e1 e2 e3 hv
      go_wp2_with fail
      refine (impl_SignedSquare_any x _).mono ?_
      rw [E1.out]
      rintro e w' ⟨rfl, rfl⟩
      go_wp2_with fail
      refine (spec_SignedSquare_any x _).mono ?_
      rw [E1.out]
      rintro e w' ⟨rfl, rfl⟩
      go_wp2_with fail
      refine (impl_SignedRoot_any _ _).mono ?_
      rw [E2.out]
      rintro e w' ⟨rfl, rfl⟩
      go_wp2_with fail
      refine (impl_SignedSquare_any _ _).mono ?_
      rw [E3.out]
      rintro e w' ⟨rfl, rfl⟩
      go_wp2
      go_ret
      exact ⟨rfl, hb1⟩
    · have e1 : signedSquareS x = (0, 2) := by simp only [signedSquareS, hv]; rfl
      have E1 := hid e1
      clear e1 hv
      go_wp2_with fail
      refine (impl_SignedSquare_any x _).mono ?_
      rw [E1.out]
      rintro e w' ⟨rfl, rfl⟩
      go_wp2_with fail
      refine (spec_SignedSquare_any x _).mono ?_
      rw [E1.out]
      rintro e w' ⟨rfl, rfl⟩
      go_wp2
      go_ret
      exact ⟨rfl, hb1⟩

set_option maxRecDepth 100000 in
theorem lifted (os : Os) (started : os.Started) (H : Type) (enc : TypeId × Value → H) :
    ReturnsInHanded {} Try.checked os 13 .any (Rows.fnSignedRootsSpec.pre6 enc Try.prog Try.f13 Rows.fnSignedRootsRow.domain false) (Rows.fnSignedRootsSpec.post enc Try.prog Try.f13 false true false false) := by
  refine returnsInHanded_of_change (C := Try.checked) own started (by kernel_rfl) Try.func13
    (ChangeSpec.witness6 (enc := enc) (C := Try.checked) false ⟨#[], #[.slice none 0 0], []⟩ 8 (by kernel_rfl) (by kernel_rfl) (by kernel_rfl) (by kernel_rfl)) ?_
  intro W base args ds gs before hval0 hW hcnd _
  have hval : ∀ (j : Nat) t v, Try.f13.params[j]? = some t → args[j]? = some v → Value.okWide Try.prog W .any base t v := hval0
  have hW' := hW
  obtain ⟨p, q, hA0, hV, rfl, hfz, hnd⟩ := hW
  have hA : DataW.TrodAll enc Try.prog W 0 (fun _ => true) true Try.f13.params.toList args.toList ds p := hA0
  rw [Try.params13] at hA hval
  obtain ⟨v0, vs0, d0, ds0, p0, q0, hargs, rfl, rfl, h0, r0⟩ := trodAll_cons hA
  obtain ⟨rfl, rfl, rfl⟩ := trodAll_nil r0
  obtain rfl : args = #[v0] := by cases args; simp_all
  obtain ⟨rfl, rfl⟩ := trodVars_none hV
  obtain ⟨a0, len0, cap0, rfl⟩ := okWide_slice Try.underlying30 (hval 0 30 v0 rfl rfl)
  have k0 := h0
  have lt0 : ∀ x ∈ p0, x.block < W.heap.size := by obtain ⟨m, hm⟩ := k0; exact DataW.trod_lt m _ _ _ hm
  obtain ⟨z0, w0⟩ : ∃ zs, IsRow .u8 W a0 len0 cap0 zs := by
    obtain ⟨fuel, hf⟩ := h0
    rcases open_ints Try.underlying30 Try.underlying5 (by kernel_rfl) hf with ⟨hcs, _⟩ | ⟨x, l, c, zs, hcs, _, hl, hm, hz, _, hcell, hwz⟩
    · simp [Value.cells] at hcs
      obtain ⟨rfl, rfl, rfl⟩ := hcs
      exact ⟨[], .inl ⟨rfl, rfl, rfl, rfl⟩⟩
    · simp [Value.cells] at hcs
      obtain ⟨rfl, rfl, rfl⟩ := hcs
      exact ⟨zs, .inr ⟨_, rfl, hl, hm, by simpa using hz, hcell, hwz⟩⟩
  clear hA0 hval0
  refine (walk a0 len0 cap0 z0 W w0).mono fun e W' ⟨he, bel⟩ => ?_
  subst he
  exact ⟨_, rfl, _, _, _, [], _, [], hW', trodAll_mk1 (shut_bool Try.underlying4 _), (trodAll_cons_mk (Below.trod laidOut (by kernel_rfl) (of_decide_eq_true (by kernel_rfl)) k0 bel lt0) trodAll_mk0), rfl, bel.frame _, fun h => by cases h⟩

theorem over : Rows.fnSignedRootsRow.holds Try.pinned (OpenSpec.ofChange Rows.fnSignedRootsSpec) :=
  OpenClaim.holds_of_wide 13 Try.f13 rfl rfl rfl rfl rfl rfl rfl ⟨rfl, rfl, rfl, rfl, rfl⟩ rfl rfl rfl rfl rfl (by kernel_rfl) Try.func13 (by kernel_rfl)
    (of_decide_eq_true (by kernel_rfl)) (by unfold Func.isWrapper; first | (rw [if_pos (by decide +kernel)]; kernel_rfl) | (rw [if_neg (by decide +kernel)]; exact ⟨rfl, rfl⟩))
    (fun os started H enc _ => lifted os started H enc)

theorem proved : Rows.FnSignedRootsSaid := over
#print axioms proved
end Go.Proofs.Ythbihlbbejcpcaa.fnSignedRoots
