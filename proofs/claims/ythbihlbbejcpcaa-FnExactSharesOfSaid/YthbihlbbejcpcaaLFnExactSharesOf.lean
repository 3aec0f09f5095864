/- 'FnExactSharesOf' is proved: the law returns true for every input; frame by the kit's proof-skeleton. -/
import Derived.Test.YthbihlbbejcpcaaRows
import Derived.WalkKit
import Derived.ProofKit
import Derived.OpenShut
import Derived.Test.YthbihlbbejcpcaaShareT
import Derived.ShutString
import Derived.ChangeOld
import Derived.Below
namespace Go.Proofs.Ythbihlbbejcpcaa.fnExactSharesOf
open Go.ChangeShapes Go.WideShapes Go.ChangeAt Go.RowKit
open Go.ChangeMaps (open_string shut_string)
set_option linter.unusedVariables false

theorem own : ownKnob Try.prog.godebug = none := by kernel_rfl
theorem laidOut : laidOutB Try.prog = true := by kernel_rfl

theorem walk (a0 : Int) (a1 : Option Addr) (len1 cap1 : Nat) (z1 : List Int) (w : World) (w0 : (Lit.int .i64 a0).wf = true) (w1 : IsRow .i64 w a1 len1 cap1 z1) :
    Calls Try.prog 12 #[.int .i64 a0, .slice a1 len1 cap1] w fun e w' => e = .returned (.bool true) ∧ Below w.heap.size w w' := by
  by_cases hl : 1048576 < len1
  · go_enter Try.func12, Try.ntmps12
    go_wp2
    go_ret
    exact ⟨rfl, Below.refl _ _⟩
  · obtain ⟨hI, hI2, _⟩ := w1.ints (by omega)
    generalize z1.take len1 = ws at *
    have HL := hid hI2
    clear hI2 w1
    obtain ⟨p, hp⟩ : ∃ p, p = sharesS a0 ws := ⟨_, rfl⟩
    have hlw : ws.length ≤ 1048576 := by have := HL.out; omega
    have hlp : p.1.length ≤ 1048576 := by rw [hp]; exact sharesS_len a0 ws
    have HP := hid hp
    clear hp
    go_enter Try.func12, Try.ntmps12
    go_wp2_with fail
    refine (toInt64S_any _ ws _ (hI) (by omega)).mono ?_
    rintro e A1 ⟨vy0, rfl, y0, b1⟩
    have s1 := b1.size
    have B := b1
    go_wp2_with fail
    refine (spec_SharesOf_any a0 _ ws _ y0.ints).mono ?_
    rw [← HP.out]
    rintro e A2 ⟨vw0, rfl, w0, b2⟩
    have y0 := y0.below b2
    have s2 := b2.size
    have B := B.trans (b2.mono B.size)
    go_wp2_with fail
    refine (toInt64S_any _ ws _ (hI.below B) (by omega)).mono ?_
    rintro e A3 ⟨vx1, rfl, x1, b3⟩
    have y0 := y0.below b3
    have w0 := w0.below b3
    have s3 := b3.size
    have B := B.trans (b3.mono B.size)
    go_wp2_with fail
    refine (impl_SharesOf_any a0 _ ws _ x1.ints).mono ?_
    rw [← HP.out]
    rintro e A4 ⟨vg0, rfl, g0, b4⟩
    have y0 := y0.below b4
    have w0 := w0.below b4
    have x1 := x1.below b4
    have s4 := b4.size
    have B := B.trans (b4.mono B.size)
    go_wp2_with fail
    refine (eqInt64S_t _ _ _ _ g0.ints w0.ints).mono ?_
    rintro e A5 ⟨rfl, b5⟩
    have y0 := y0.below b5
    have w0 := w0.below b5
    have x1 := x1.below b5
    have g0 := g0.below b5
    have s5 := b5.size
    have B := B.trans (b5.mono B.size)
    go_wp2_with fail
    refine (toInt64S_any _ ws _ (hI.below B) (by omega)).mono ?_
    rintro e A6 ⟨vy2, rfl, y2, b6⟩
    have y0 := y0.below b6
    have w0 := w0.below b6
    have x1 := x1.below b6
    have g0 := g0.below b6
    have s6 := b6.size
    have B := B.trans (b6.mono B.size)
    go_wp2_with fail
    refine (eqInt64S_t _ _ _ _ x1.ints y2.ints).mono ?_
    rintro e A7 ⟨rfl, b7⟩
    have y0 := y0.below b7
    have w0 := w0.below b7
    have x1 := x1.below b7
    have g0 := g0.below b7
    have y2 := y2.below b7
    have s7 := b7.size
    have B := B.trans (b7.mono B.size)
    go_wp2_with fail
    refine (markInt64S_any _ _ _ 1 _ x1 (by omega) (by omega)).mono ?_
    rintro e A8 ⟨rfl, x1', b8⟩
    have y0 := y0.kept b8 (fun b _ hp hx => by have h1 := hp.1; have h2 := hp.2; have h3 := hx.1; have h4 := hx.2; omega)
    have w0 := w0.kept b8 (fun b _ hp hx => by have h1 := hp.1; have h2 := hp.2; have h3 := hx.1; have h4 := hx.2; omega)
    have g0 := g0.kept b8 (fun b _ hp hx => by have h1 := hp.1; have h2 := hp.2; have h3 := hx.1; have h4 := hx.2; omega)
    have y2 := y2.kept b8 (fun b _ hp hx => by have h1 := hp.1; have h2 := hp.2; have h3 := hx.1; have h4 := hx.2; omega)
    have s8 := b8.size
    have B := B.trans (b8.below (B := w.heap.size) B.size (fun k hx => by have h3 := hx.1; omega))
    clear x1
    have x1 := x1'
    clear x1'
    go_wp2_with fail
    refine (eqInt64S_t _ _ _ _ g0.ints w0.ints).mono ?_
    rintro e A9 ⟨rfl, b9⟩
    have y0 := y0.below b9
    have w0 := w0.below b9
    have x1 := x1.below b9
    have g0 := g0.below b9
    have y2 := y2.below b9
    have s9 := b9.size
    have B := B.trans (b9.mono B.size)
    go_wp2_with fail
    refine (markInt64S_any _ _ _ 1 _ g0 (by omega) (by omega)).mono ?_
    rintro e A10 ⟨rfl, g0', b10⟩
    have y0 := y0.kept b10 (fun b _ hp hx => by have h1 := hp.1; have h2 := hp.2; have h3 := hx.1; have h4 := hx.2; omega)
    have w0 := w0.kept b10 (fun b _ hp hx => by have h1 := hp.1; have h2 := hp.2; have h3 := hx.1; have h4 := hx.2; omega)
    have x1 := x1.kept b10 (fun b _ hp hx => by have h1 := hp.1; have h2 := hp.2; have h3 := hx.1; have h4 := hx.2; omega)
    have y2 := y2.kept b10 (fun b _ hp hx => by have h1 := hp.1; have h2 := hp.2; have h3 := hx.1; have h4 := hx.2; omega)
    have s10 := b10.size
    have B := B.trans (b10.below (B := w.heap.size) B.size (fun k hx => by have h3 := hx.1; omega))
    clear g0
    have g0 := g0'
    clear g0'
    go_wp2_with fail
    refine (heldInt64S_any _ _ 1 _ g0.ints (by omega) (by omega)).mono ?_
    rintro e w' ⟨rfl, rfl⟩
    go_wp2_with fail
    refine (toInt64S_any _ ws _ (hI.below B) (by omega)).mono ?_
    rintro e A11 ⟨vy3, rfl, y3, b11⟩
    have y0 := y0.below b11
    have w0 := w0.below b11
    have x1 := x1.below b11
    have g0 := g0.below b11
    have y2 := y2.below b11
    have s11 := b11.size
    have B := B.trans (b11.mono B.size)
    go_wp2_with fail
    refine (impl_SharesOf_any a0 _ ws _ y3.ints).mono ?_
    rw [← HP.out]
    rintro e A12 ⟨vh0, rfl, h0, b12⟩
    have y0 := y0.below b12
    have w0 := w0.below b12
    have x1 := x1.below b12
    have g0 := g0.below b12
    have y2 := y2.below b12
    have y3 := y3.below b12
    have s12 := b12.size
    have B := B.trans (b12.mono B.size)
    go_wp2_with fail
    refine (eqInt64S_t _ _ _ _ h0.ints w0.ints).mono ?_
    rintro e A13 ⟨rfl, b13⟩
    have y0 := y0.below b13
    have w0 := w0.below b13
    have x1 := x1.below b13
    have g0 := g0.below b13
    have y2 := y2.below b13
    have y3 := y3.below b13
    have h0 := h0.below b13
    have s13 := b13.size
    have B := B.trans (b13.mono B.size)
    go_wp2_with fail
    refine (heldInt64S_any _ _ 1 _ g0.ints (by omega) (by omega)).mono ?_
    rintro e w' ⟨rfl, rfl⟩
    go_wp2_with fail
    go_ret
    exact ⟨rfl, B⟩

set_option maxRecDepth 100000 in
theorem lifted (os : Os) (started : os.Started) (H : Type) (enc : TypeId × Value → H) :
    ReturnsInHanded {} Try.checked os 12 .any (Rows.fnExactSharesOfSpec.pre6 enc Try.prog Try.f12 Rows.fnExactSharesOfRow.domain false) (Rows.fnExactSharesOfSpec.post enc Try.prog Try.f12 false true false false) := by
  refine returnsInHanded_of_change (C := Try.checked) own started (by kernel_rfl) Try.func12
    (ChangeSpec.witness6 (enc := enc) (C := Try.checked) false ⟨#[], #[.int .i64 0, .slice none 0 0], []⟩ 8 (by kernel_rfl) (by kernel_rfl) (by kernel_rfl) (by kernel_rfl)) ?_
  intro W base args ds gs before hval0 hW hcnd _
  have hval : ∀ (j : Nat) t v, Try.f12.params[j]? = some t → args[j]? = some v → Value.okWide Try.prog W .any base t v := hval0
  have hW' := hW
  obtain ⟨p, q, hA0, hV, rfl, hfz, hnd⟩ := hW
  have hA : DataW.TrodAll enc Try.prog W 0 (fun _ => true) true Try.f12.params.toList args.toList ds p := hA0
  rw [Try.params12] at hA hval
  obtain ⟨v0, vs0, d0, ds0, p0, q0, hargs, rfl, rfl, h0, r0⟩ := trodAll_cons hA
  obtain ⟨v1, vs1, d1, ds1, p1, q1, rfl, rfl, rfl, h1, r1⟩ := trodAll_cons r0
  obtain ⟨rfl, rfl, rfl⟩ := trodAll_nil r1
  obtain rfl : args = #[v0, v1] := by cases args; simp_all
  obtain ⟨rfl, rfl⟩ := trodVars_none hV
  obtain ⟨a0, rfl, rfl, rfl, w0⟩ := open_int Try.underlying2 (hval 0 2 v0 rfl rfl) h0
  obtain ⟨a1, len1, cap1, rfl⟩ := okWide_slice Try.underlying36 (hval 1 36 v1 rfl rfl)
  have k1 := h1
  have lt1 : ∀ x ∈ p1, x.block < W.heap.size := by obtain ⟨m, hm⟩ := k1; exact DataW.trod_lt m _ _ _ hm
  obtain ⟨z1, w1⟩ : ∃ zs, IsRow .i64 W a1 len1 cap1 zs := by
    obtain ⟨fuel, hf⟩ := h1
    rcases open_ints Try.underlying36 Try.underlying2 (by kernel_rfl) hf with ⟨hcs, _⟩ | ⟨x, l, c, zs, hcs, _, hl, hm, hz, _, hcell, hwz⟩
    · simp [Value.cells] at hcs
      obtain ⟨rfl, rfl, rfl⟩ := hcs
      exact ⟨[], .inl ⟨rfl, rfl, rfl, rfl⟩⟩
    · simp [Value.cells] at hcs
      obtain ⟨rfl, rfl, rfl⟩ := hcs
      exact ⟨zs, .inr ⟨_, rfl, hl, hm, by simpa using hz, hcell, hwz⟩⟩
  clear hA0 hval0
  refine (walk a0 a1 len1 cap1 z1 W w0 w1).mono fun e W' ⟨he, bel⟩ => ?_
  subst he
  exact ⟨_, rfl, _, _, _, [], _, [], hW', trodAll_mk1 (shut_bool Try.underlying4 _), (trodAll_cons_mk (shut_int Try.underlying2 w0) (trodAll_cons_mk (Below.trod laidOut (by kernel_rfl) (of_decide_eq_true (by kernel_rfl)) k1 bel lt1) trodAll_mk0)), rfl, bel.frame _, fun h => by cases h⟩

theorem over : Rows.fnExactSharesOfRow.holds Try.pinned (OpenSpec.ofChange Rows.fnExactSharesOfSpec) :=
  OpenClaim.holds_of_wide 12 Try.f12 rfl rfl rfl rfl rfl rfl rfl ⟨rfl, rfl, rfl, rfl, rfl⟩ rfl rfl rfl rfl rfl (by kernel_rfl) Try.func12 (by kernel_rfl)
    (of_decide_eq_true (by kernel_rfl)) (by unfold Func.isWrapper; first | (rw [if_pos (by decide +kernel)]; kernel_rfl) | (rw [if_neg (by decide +kernel)]; exact ⟨rfl, rfl⟩))
    (fun os started H enc _ => lifted os started H enc)

theorem proved : Rows.FnExactSharesOfSaid := over
#print axioms proved
end Go.Proofs.Ythbihlbbejcpcaa.fnExactSharesOf
