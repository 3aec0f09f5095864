/- 'FnShares' is proved: the law returns true for every input; frame by the kit's proof-skeleton. -/
import Derived.Test.YthbihlbbejcpcaaRows
import Derived.WalkKit
import Derived.ProofKit
import Derived.OpenShut
import Derived.Test.YthbihlbbejcpcaaShareT
import Derived.Test.YthbihlbbejcpcaaShareL
import Derived.Test.YthbihlbbejcpcaaDrawSh
import Derived.Test.YthbihlbbejcpcaaLaw
import Derived.ShutString
import Derived.ChangeOld
import Derived.Below
namespace Go.Proofs.Ythbihlbbejcpcaa.fnShares
open Go.ChangeShapes Go.WideShapes Go.ChangeAt Go.RowKit
open Go.ChangeMaps (open_string shut_string)
set_option linter.unusedVariables false

theorem own : ownKnob Try.prog.godebug = none := by kernel_rfl
theorem laidOut : laidOutB Try.prog = true := by kernel_rfl

def FRel (i : Value) (wr w1 : World) (n : Nat) : Prop := ∃ k : Nat, i = .int .i64 k ∧ k ≤ n ∧ Below w1.heap.size w1 wr
theorem walk (a0 : Option Addr) (len0 cap0 : Nat) (z0 : List Int) (w : World) (w0 : IsRow .u8 w a0 len0 cap0 z0) :
    Calls Try.prog 15 #[.slice a0 len0 cap0] w fun e w' => e = .returned (.bool true) ∧ Below w.heap.size w w' := by
  by_cases hl : 4096 < len0
  · go_enter Try.func15, Try.ntmps15
    go_wp2
    go_ret
    exact ⟨rfl, Below.refl _ _⟩
  · have hB := hid (w0.bytes (by omega))
    clear w0
    go_enter Try.func15, Try.ntmps15
    go_wp2_with (go_at_call 24; go_in)
    refine (DrawSharesOf_any a0 len0 cap0 w hB.out).mono ?_
    rintro e w1 ⟨t, r, ws, rfl, hI, hlen, b1⟩
    by_cases hv : (sharesS t ws).2 = 0
    · have hval : inB ws.length 1 64 = true ∧ inB t 0 1000000000 = true ∧ allB 0 1000000000 ws = true ∧ (ws.sum == 0) = false ∧ sharesS t ws = (Sh.shares t ws, 0) := by
        unfold sharesS at hv ⊢
        cases h1 : inB ws.length 1 64 <;> cases h2 : inB t 0 1000000000 <;> cases h3 : allB 0 1000000000 ws <;> cases h4 : (ws.sum == 0) <;> simp [h1, h2, h3, h4] at hv ⊢
      clear hv
      obtain ⟨v1, v2', v3', v4, hval⟩ := hval
      have l12 := inB_t v1
      have t12 := inB_t v2'
      have hw := allB_t v3'
      have hsp : 0 < ws.sum := by
        have h0 := Sh.sum_nonneg (fun x hx => (hw x hx).1)
        have h1 : ws.sum ≠ 0 := by simpa using v4
        omega
      obtain ⟨g1, g2, g3⟩ := Sh.shares_law t ws t12.1 (fun x hx => (hw x hx).1) hsp
      have HL := hid (rfl : Sh.shares t ws = Sh.shares t ws)
      generalize hLL : Sh.shares t ws = L at *
      have HP : Hid (sharesS t ws = (L, 0)) := hval
      clear hval hLL HL
      have hpart := part_bd hw (by omega)
      have hSle : ws.sum ≤ 100000000000 := by have := (hpart ws.length).2; rw [List.take_of_length_le (Nat.le_refl _)] at this; exact this
      have hLpart : ∀ i, 0 ≤ (L.take i).sum ∧ (L.take i).sum ≤ 100000000000 := by
        intro i
        have hn : ∀ x ∈ L, 0 ≤ x := by
          intro x hx
          obtain ⟨j, hj, rfl⟩ := List.getElem_of_mem hx
          exact (g3 j hj (by omega)).2.2.2.1
        refine ⟨Sh.sum_nonneg (fun x hx => hn x (List.mem_of_mem_take hx)), ?_⟩
        have := Sh.take_sum_le hn i
        omega
      have HG2 := hid g2
      have HG3 := hid g3
      have HG1 := hid g1
      have HW := hid hw
      have HPA := hid hpart
      have HLP := hid hLpart
      clear g2 g3 g1 hw hpart hLpart v1 v2' v3' v4
      have hLlen : L.length ≤ 64 := by have := HG1.out; omega
      go_wp2_with fail
      refine (impl_SharesOf_any t _ ws _ hI).mono ?_
      rw [HP.out]
      rintro e w2 ⟨v2, rfl, hs2, b2⟩
      have hI := hI.below b2
      go_wp2_with fail
      refine (spec_SharesOf_any t _ ws _ hI).mono ?_
      rw [HP.out]
      rintro e w3 ⟨v3, rfl, hs3, b3⟩
      have hI := hI.below b3
      have hs2 := hs2.below b3
      go_wp2_with fail
      refine (likeInts_t _ _ _ _ hs2.ints hs3.ints).mono ?_
      rintro e w4 ⟨rfl, b4⟩
      have hI := hI.below b4
      have hs2 := hs2.below b4
      have B := (b1.trans (b2.mono b1.size))
      have B := B.trans (b3.mono B.size)
      have B := B.trans (b4.mono B.size)
      clear b1 b2 b3 b4 hs3 HP
      go_wp2_with fail
      refine (lawsSum_any _ ws _ hI HPA.out).mono ?_
      rintro e w' ⟨rfl, rfl⟩
      obtain ⟨S, hS⟩ : ∃ S, S = ws.sum := ⟨_, rfl⟩
      rw [← hS] at hsp hSle HG3 ⊢
      clear hS
      have HI := hid hI
      have HS2 := hid hs2
      obtain ⟨_, aw, capw, rfl, hcw⟩ := hI
      obtain ⟨_, al, capl, rfl, hcl⟩ := hs2
      have HCW := hid hcw
      have HCL := hid hcl
      clear hcw hcl
      go_wp2_with fail
      go_loopw [10] (fun i wr => FRel i wr w4 L.length) (fun i _ => L.length - (intOf i).toNat)
      case atStart => exact ⟨0, rfl, by omega, Below.refl _ _⟩
      case round =>
        obtain ⟨k, rfl, hk, hbr⟩ := hrel
        by_cases hlt : k < L.length
        · have hlt2 : k < ws.length := by have := HG1.out; omega
          obtain ⟨b, off, rfl, hcc⟩ := HCW.out.resolve_left (by intro e; simp [e] at hlt2)
          obtain ⟨b', off', rfl, _, _, hcc'⟩ := HCL.out.resolve_left (by intro e; simp [e] at hlt)
          have c1 := hcc k hlt2
          have c2 := hcc' k hlt
          have c1 := (hbr.cell (p := ⟨b, off + k, none⟩) (World.block_lt_of_cell? _ _ c1)).trans c1
          have c2 := (hbr.cell (p := ⟨b', off' + k, none⟩) (World.block_lt_of_cell? _ _ c2)).trans c2
          obtain ⟨q1, q2, q3, q4, q5⟩ := HG3.out k hlt hlt2
          obtain ⟨x0, x1⟩ := HW.out ws[k] (List.getElem_mem hlt2)
          have hlti : (k : Int) < L.length := by omega
          have hlti2 : (k : Int) < ws.length := by omega
          have hm1 : Hid (0 ≤ t * ws[k] ∧ t * ws[k] ≤ 1000000000000000000) := ⟨Int.mul_nonneg t12.1 x0, by have := Int.mul_le_mul t12.2 x1 x0 (by omega); omega⟩
          have HBR := hid hbr
          clear hcc hcc' HCW HCL hbr
          obtain ⟨Lk, hLk⟩ : ∃ Lk, Lk = L[k] := ⟨_, rfl⟩
          obtain ⟨wk, hwk⟩ : ∃ wk, wk = ws[k] := ⟨_, rfl⟩
          rw [← hLk] at c2 q1 q2 q3 q4 q5
          rw [← hwk] at c1 q1 q2 q3 x0 x1 hm1
          clear hLk hwk
          have hbz : Hid (wk = 0 → (Lk != 0) = false) := fun e => by simp [q1 e]
          have HQ1 := hid q1
          clear q1
          have hmm := hm1.out
          have qa : -4000000000000000000 ≤ Lk * S - t * wk := by omega
          have qb : Lk * S - t * wk ≤ 4000000000000000000 := by omega
          have qc : -4000000000000000000 ≤ Lk * S := by omega
          have qd : Lk * S ≤ 4000000000000000000 := by omega
          have qe : ((Lk * S - t * wk).natAbs : Int) < S := by omega
          clear q2 q3
          have hd : decide (S ≤ ((Lk * S - t * wk).natAbs : Int)) = false := decide_eq_false (by omega)
          cases hwb : (wk == 0)
          case true =>
            have hb2 := hbz.out (by simpa using hwb)
            clear hbz HQ1
            by_cases hS1 : S < 100000
            · go_wp2_with fail
              go_quiet ((go_at_call 27; exact Calls.quiet_of_same ((size_any _ _ (by omega) (by omega)).mono fun _ _ ⟨h, h'⟩ => ⟨h, h'.symm⟩)))
              go_wp2_with fail
              go_roundw
              case rel => exact ⟨k + 1, by go_num, by omega, below_drewN HBR.out _⟩
              case measure => simp [intOf]; omega
            · have hS2 : decide (S < 100000) = false := decide_eq_false hS1
              go_wp2_with fail
              go_quiet (fail)
              go_wp2_with fail
              go_roundw
              case rel => exact ⟨k + 1, by go_num, by omega, below_drewN HBR.out _⟩
              case measure => simp [intOf]; omega
          case false =>
            clear hbz HQ1
            by_cases hS1 : S < 100000
            · go_wp2_with fail
              go_quiet ((go_at_call 27; exact Calls.quiet_of_same ((size_any _ _ (by omega) (by omega)).mono fun _ _ ⟨h, h'⟩ => ⟨h, h'.symm⟩)))
              go_wp2_with fail
              go_roundw
              case rel => exact ⟨k + 1, by go_num, by omega, below_drewN HBR.out _⟩
              case measure => simp [intOf]; omega
            · have hS2 : decide (S < 100000) = false := decide_eq_false hS1
              go_wp2_with fail
              go_quiet (fail)
              go_wp2_with fail
              go_roundw
              case rel => exact ⟨k + 1, by go_num, by omega, below_drewN HBR.out _⟩
              case measure => simp [intOf]; omega
        · have HEQ : Hid (L.sum = t) := HG2
          have HBR := hid hbr
          clear hbr
          go_wp2_with fail
          refine (lawsSum_any _ L _ (Slc.ints (HS2.out.below HBR.out)) HLP.out).mono ?_
          rw [HEQ.out]
          rintro e w' ⟨rfl, rfl⟩
          go_wp2_with fail
          go_ret
          exact ⟨rfl, B.trans (HBR.out.mono B.size)⟩
    · obtain ⟨p, hp⟩ : ∃ p, p = sharesS t ws := ⟨_, rfl⟩
      rw [← hp] at hv
      have HP := hid hp
      have hv2 : (p.2 != 0) = true := by simp [hv]
      clear hp hv
      go_wp2_with fail
      refine (impl_SharesOf_any t _ ws _ hI).mono ?_
      rw [← HP.out]
      rintro e w2 ⟨v2, rfl, hs2, b2⟩
      have hI := hI.below b2
      go_wp2_with fail
      refine (spec_SharesOf_any t _ ws _ hI).mono ?_
      rw [← HP.out]
      rintro e w3 ⟨v3, rfl, hs3, b3⟩
      have hs2 := hs2.below b3
      go_wp2_with fail
      refine (likeInts_t _ _ _ _ hs2.ints hs3.ints).mono ?_
      rintro e w4 ⟨rfl, b4⟩
      have B := (b1.trans (b2.mono b1.size))
      have B := B.trans (b3.mono B.size)
      have B := B.trans (b4.mono B.size)
      go_wp2_with fail
      go_ret
      exact ⟨rfl, B⟩

set_option maxRecDepth 100000 in
theorem lifted (os : Os) (started : os.Started) (H : Type) (enc : TypeId × Value → H) :
    ReturnsInHanded {} Try.checked os 15 .any (Rows.fnSharesSpec.pre6 enc Try.prog Try.f15 Rows.fnSharesRow.domain false) (Rows.fnSharesSpec.post enc Try.prog Try.f15 false true false false) := by
  refine returnsInHanded_of_change (C := Try.checked) own started (by kernel_rfl) Try.func15
    (ChangeSpec.witness6 (enc := enc) (C := Try.checked) false ⟨#[], #[.slice none 0 0], []⟩ 8 (by kernel_rfl) (by kernel_rfl) (by kernel_rfl) (by kernel_rfl)) ?_
  intro W base args ds gs before hval0 hW hcnd _
  have hval : ∀ (j : Nat) t v, Try.f15.params[j]? = some t → args[j]? = some v → Value.okWide Try.prog W .any base t v := hval0
  have hW' := hW
  obtain ⟨p, q, hA0, hV, rfl, hfz, hnd⟩ := hW
  have hA : DataW.TrodAll enc Try.prog W 0 (fun _ => true) true Try.f15.params.toList args.toList ds p := hA0
  rw [Try.params15] at hA hval
  obtain ⟨v0, vs0, d0, ds0, p0, q0, hargs, rfl, rfl, h0, r0⟩ := trodAll_cons hA
  obtain ⟨rfl, rfl, rfl⟩ := trodAll_nil r0
  obtain rfl : args = #[v0] := by cases args; simp_all
  obtain ⟨rfl, rfl⟩ := trodVars_none hV
  obtain ⟨a0, len0, cap0, rfl⟩ := okWide_slice Try.underlying30 (hval 0 30 v0 rfl rfl)
  have k0 := h0
  have lt0 : ∀ x ∈ p0, x.block < W.heap.size := by obtain ⟨m, hm⟩ := k0; exact DataW.trod_lt m _ _ _ hm
  obtain ⟨z0, w0⟩ : ∃ zs, IsRow .u8 W a0 len0 cap0 zs := by
    obtain ⟨fuel, hf⟩ := h0
    rcases open_ints Try.underlying30 Try.underlying5 (by kernel_rfl) hf with ⟨hcs, _⟩ | ⟨x, l, c, zs, hcs, _, hl, hm, hz, _, hcell, hwz⟩
    · simp [Value.cells] at hcs
      obtain ⟨rfl, rfl, rfl⟩ := hcs
      exact ⟨[], .inl ⟨rfl, rfl, rfl, rfl⟩⟩
    · simp [Value.cells] at hcs
      obtain ⟨rfl, rfl, rfl⟩ := hcs
      exact ⟨zs, .inr ⟨_, rfl, hl, hm, by simpa using hz, hcell, hwz⟩⟩
  clear hA0 hval0
  refine (walk a0 len0 cap0 z0 W w0).mono fun e W' ⟨he, bel⟩ => ?_
  subst he
  exact ⟨_, rfl, _, _, _, [], _, [], hW', trodAll_mk1 (shut_bool Try.underlying4 _), (trodAll_cons_mk (Below.trod laidOut (by kernel_rfl) (of_decide_eq_true (by kernel_rfl)) k0 bel lt0) trodAll_mk0), rfl, bel.frame _, fun h => by cases h⟩

theorem over : Rows.fnSharesRow.holds Try.pinned (OpenSpec.ofChange Rows.fnSharesSpec) :=
  OpenClaim.holds_of_wide 15 Try.f15 rfl rfl rfl rfl rfl rfl rfl ⟨rfl, rfl, rfl, rfl, rfl⟩ rfl rfl rfl rfl rfl (by kernel_rfl) Try.func15 (by kernel_rfl)
    (of_decide_eq_true (by kernel_rfl)) (by unfold Func.isWrapper; first | (rw [if_pos (by decide +kernel)]; kernel_rfl) | (rw [if_neg (by decide +kernel)]; exact ⟨rfl, rfl⟩))
    (fun os started H enc _ => lifted os started H enc)

theorem proved : Rows.FnSharesSaid := over
#print axioms proved
end Go.Proofs.Ythbihlbbejcpcaa.fnShares
