/- 'FnDivisions' is proved: the law returns true for every input; frame by the kit's proof-skeleton. -/
import Derived.Test.YthbihlbbejcpcaaRows
import Derived.WalkKit
import Derived.ProofKit
import Derived.OpenShut
import Derived.Test.YthbihlbbejcpcaaDraw2
import Derived.Test.YthbihlbbejcpcaaNumR
import Derived.ShutString
import Derived.ChangeOld
import Derived.Below
namespace Go.Proofs.Ythbihlbbejcpcaa.fnDivisions
open Go.ChangeShapes Go.WideShapes Go.ChangeAt Go.RowKit
open Go.ChangeMaps (open_string shut_string)
set_option linter.unusedVariables false

theorem own : ownKnob Try.prog.godebug = none := by kernel_rfl
theorem laidOut : laidOutB Try.prog = true := by kernel_rfl

theorem size_any (n : Int) (w : World) (h1 : -4000000000000000000 ≤ n) (h2 : n ≤ 4000000000000000000) :
    Calls Try.prog 27 #[.int .i64 n] w fun e w' => e = .returned (.int .i64 (n.natAbs : Int)) ∧ w = w' := by
  by_cases h0 : n < 0 <;> go_enter Try.func27, Try.ntmps27 <;> go_wp2 <;> go_ret <;> exact ⟨ret_int (by omega), rfl⟩

theorem near (a b : Int) (hb : 1 ≤ b) : -b ≤ 2 * (a - (2 * a + b) / (2 * b) * b) ∧ 2 * (a - (2 * a + b) / (2 * b) * b) ≤ b := by
  have h1 := Int.emod_add_mul_ediv (2 * a + b) (2 * b)
  have h2 := Int.emod_nonneg (2 * a + b) (b := 2 * b) (by omega)
  have h3 := Int.emod_lt_of_pos (2 * a + b) (b := 2 * b) (by omega)
  generalize (2 * a + b) / (2 * b) = r at *
  rw [Int.mul_assoc, Int.mul_comm b r] at h1
  omega
theorem floor (a b : Int) (hb : 1 ≤ b) : 0 ≤ a - a / b * b ∧ a - a / b * b < b := by
  have h1 := Int.emod_add_mul_ediv a b
  have h2 := Int.emod_nonneg a (b := b) (by omega)
  have h3 := Int.emod_lt_of_pos a (b := b) (by omega)
  rw [Int.mul_comm b] at h1
  omega
theorem walk (a0 : Option Addr) (len0 cap0 : Nat) (z0 : List Int) (w : World) (w0 : IsRow .u8 w a0 len0 cap0 z0) :
    Calls Try.prog 9 #[.slice a0 len0 cap0] w fun e w' => e = .returned (.bool true) ∧ Below w.heap.size w w' := by
  by_cases hl : 4096 < len0
  · go_enter Try.func9, Try.ntmps9
    go_wp2
    go_ret
    exact ⟨rfl, Below.refl _ _⟩
  · have hB := hid (w0.bytes (by omega))
    clear w0
    go_enter Try.func9, Try.ntmps9
    go_wp2_with (go_at_call 24; go_in)
    refine (DrawFloorDiv_any a0 len0 cap0 w hB.out).mono ?_
    rintro e w1 ⟨x, y, rfl, x0, x1, y0, y1, hb1⟩
    by_cases hv : (inB x (-1000000000000000000) 1000000000000000000 && inB y 1 1000000000) = true
    · have e1 : floorDivS x y = (x / y, 0) := by simp only [floorDivS, hv, if_true]
      have e2 : nearestDivS x y = ((2 * x + y) / (2 * y), 0) := by simp only [nearestDivS, hv, if_true]
      simp only [Bool.and_eq_true] at hv
      have g1 := inB_t hv.1
      have g2 := inB_t hv.2
      have E1 := hid e1
      have E2 := hid e2
      clear e1 e2 hv
      obtain ⟨n1, n2⟩ := near x y (by omega)
      obtain ⟨f1, f2⟩ := floor x y (by omega)
      go_wp2_with fail
      refine (impl_FloorDiv_any x y _).mono ?_
      rw [E1.out]
      rintro e w' ⟨rfl, rfl⟩
      go_wp2_with fail
      refine (spec_FloorDiv_any x y _).mono ?_
      rw [E1.out]
      rintro e w' ⟨rfl, rfl⟩
      go_wp2_with fail
      refine (impl_NearestDiv_any x y _).mono ?_
      rw [E2.out]
      rintro e w' ⟨rfl, rfl⟩
      go_wp2_with fail
      refine (spec_NearestDiv_any x y _).mono ?_
      rw [E2.out]
      rintro e w' ⟨rfl, rfl⟩
      clear E1 E2
      go_wp2_with fail
      refine (size_any x _ (by omega) (by omega)).mono ?_
      rintro e w' ⟨rfl, rfl⟩
      by_cases hs : 1000000000000 < (x.natAbs : Int)
      · go_wp2
        go_ret
        exact ⟨rfl, hb1⟩
      · go_wp2_with fail
        refine (size_any _ _ (by omega) (by omega)).mono ?_
        rintro e w' ⟨rfl, rfl⟩
        have hfin : 2 * ((x - (2 * x + y) / (2 * y) * y).natAbs : Int) ≤ y := by omega
        go_wp2
        go_ret
        exact ⟨rfl, hb1⟩
    · have e1 : floorDivS x y = (0, 2) := by simp only [floorDivS, hv]; rfl
      have e2 : nearestDivS x y = (0, 2) := by simp only [nearestDivS, hv]; rfl
      have E1 := hid e1
      have E2 := hid e2
      clear e1 e2 hv
      go_wp2_with fail
      refine (impl_FloorDiv_any x y _).mono ?_
      rw [E1.out]
      rintro e w' ⟨rfl, rfl⟩
      go_wp2_with fail
      refine (spec_FloorDiv_any x y _).mono ?_
      rw [E1.out]
      rintro e w' ⟨rfl, rfl⟩
      go_wp2_with fail
      refine (impl_NearestDiv_any x y _).mono ?_
      rw [E2.out]
      rintro e w' ⟨rfl, rfl⟩
      go_wp2_with fail
      refine (spec_NearestDiv_any x y _).mono ?_
      rw [E2.out]
      rintro e w' ⟨rfl, rfl⟩
      go_wp2
      go_ret
      exact ⟨rfl, hb1⟩

set_option maxRecDepth 100000 in
theorem lifted (os : Os) (started : os.Started) (H : Type) (enc : TypeId × Value → H) :
    ReturnsInHanded {} Try.checked os 9 .any (Rows.fnDivisionsSpec.pre6 enc Try.prog Try.f9 Rows.fnDivisionsRow.domain false) (Rows.fnDivisionsSpec.post enc Try.prog Try.f9 false true false false) := by
  refine returnsInHanded_of_change (C := Try.checked) own started (by kernel_rfl) Try.func9
    (ChangeSpec.witness6 (enc := enc) (C := Try.checked) false ⟨#[], #[.slice none 0 0], []⟩ 8 (by kernel_rfl) (by kernel_rfl) (by kernel_rfl) (by kernel_rfl)) ?_
  intro W base args ds gs before hval0 hW hcnd _
  have hval : ∀ (j : Nat) t v, Try.f9.params[j]? = some t → args[j]? = some v → Value.okWide Try.prog W .any base t v := hval0
  have hW' := hW
  obtain ⟨p, q, hA0, hV, rfl, hfz, hnd⟩ := hW
  have hA : DataW.TrodAll enc Try.prog W 0 (fun _ => true) true Try.f9.params.toList args.toList ds p := hA0
  rw [Try.params9] at hA hval
  obtain ⟨v0, vs0, d0, ds0, p0, q0, hargs, rfl, rfl, h0, r0⟩ := trodAll_cons hA
  obtain ⟨rfl, rfl, rfl⟩ := trodAll_nil r0
  obtain rfl : args = #[v0] := by cases args; simp_all
  obtain ⟨rfl, rfl⟩ := trodVars_none hV
  obtain ⟨a0, len0, cap0, rfl⟩ := okWide_slice Try.underlying30 (hval 0 30 v0 rfl rfl)
  have k0 := h0
  have lt0 : ∀ x ∈ p0, x.block < W.heap.size := by obtain ⟨m, hm⟩ := k0; exact DataW.trod_lt m _ _ _ hm
  obtain ⟨z0, w0⟩ : ∃ zs, IsRow .u8 W a0 len0 cap0 zs := by
    obtain ⟨fuel, hf⟩ := h0
    rcases open_ints Try.underlying30 Try.underlying5 (by kernel_rfl) hf with ⟨hcs, _⟩ | ⟨x, l, c, zs, hcs, _, hl, hm, hz, _, hcell, hwz⟩
    · simp [Value.cells] at hcs
      obtain ⟨rfl, rfl, rfl⟩ := hcs
      exact ⟨[], .inl ⟨rfl, rfl, rfl, rfl⟩⟩
    · simp [Value.cells] at hcs
      obtain ⟨rfl, rfl, rfl⟩ := hcs
      exact ⟨zs, .inr ⟨_, rfl, hl, hm, by simpa using hz, hcell, hwz⟩⟩
  clear hA0 hval0
  refine (walk a0 len0 cap0 z0 W w0).mono fun e W' ⟨he, bel⟩ => ?_
  subst he
  exact ⟨_, rfl, _, _, _, [], _, [], hW', trodAll_mk1 (shut_bool Try.underlying4 _), (trodAll_cons_mk (Below.trod laidOut (by kernel_rfl) (of_decide_eq_true (by kernel_rfl)) k0 bel lt0) trodAll_mk0), rfl, bel.frame _, fun h => by cases h⟩

theorem over : Rows.fnDivisionsRow.holds Try.pinned (OpenSpec.ofChange Rows.fnDivisionsSpec) :=
  OpenClaim.holds_of_wide 9 Try.f9 rfl rfl rfl rfl rfl rfl rfl ⟨rfl, rfl, rfl, rfl, rfl⟩ rfl rfl rfl rfl rfl (by kernel_rfl) Try.func9 (by kernel_rfl)
    (of_decide_eq_true (by kernel_rfl)) (by unfold Func.isWrapper; first | (rw [if_pos (by decide +kernel)]; kernel_rfl) | (rw [if_neg (by decide +kernel)]; exact ⟨rfl, rfl⟩))
    (fun os started H enc _ => lifted os started H enc)

theorem proved : Rows.FnDivisionsSaid := over
#print axioms proved
end Go.Proofs.Ythbihlbbejcpcaa.fnDivisions
