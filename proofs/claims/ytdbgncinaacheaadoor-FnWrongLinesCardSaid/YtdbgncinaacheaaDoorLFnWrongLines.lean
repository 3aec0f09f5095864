/- 'FnWrongLines' is proved: the law returns true for every input, where the listed variables of the library read as the library lays them. The frame follows the kit's proof-skeleton. -/
import Derived.Test.YtdbgncinaacheaaDoorRows
import Derived.WalkKit
import Derived.ProofKit
import Derived.OpenShut
import Derived.ShutString
import Derived.ChangeOld
import Derived.Below
import Derived.Test.YtdbgncinaacheaaDoorTied3
import Derived.Test.YtdbgncinaacheaaDoorTie
import Derived.Test.YtdbgncinaacheaaDoorCards
import Derived.SevenTiedAt
import Derived.Test.YtdbgncinaacheaaDoorDrFw
import Derived.Test.YtdbgncinaacheaaDoorFwl
namespace Go.Proofs.YtdbgncinaacheaaDoor.fnWrongLines
open Go.ChangeShapes Go.WideShapes Go.ChangeAt Go.RowKit
open Go.ChangeMaps (open_string shut_string)
set_option linter.unusedVariables false

theorem own : ownKnob Tryd.prog.godebug = none := by kernel_rfl
theorem laidOut : laidOutB Tryd.prog = true := by kernel_rfl

/-- The rounds that look for the place behind k lines. -/
def WlRel (T : Txt) (k : Nat) (_ : World) (i j : Value) : Prop :=
  ∃ a m : Nat, i = .int .i64 a ∧ j = .int .i64 m ∧ a ≤ (pre T k).length ∧ m = (T.take a).count 10
theorem cnt_succ (T : Txt) (a : Nat) (h : a < T.length) : (T.take (a + 1)).count 10 = (T.take a).count 10 + (if T[a] = 10 then 1 else 0) := by
  rw [List.take_succ_eq_append_getElem h, List.count_append]
  by_cases e : T[a] = 10
  · simp [e]
  · simp [e]
theorem fw_k (T : Txt) : fwB T = 3 ∨ (fwB T = 0 ∧ (fwA T = -1 ∨ ∃ k : Nat, fwA T = k)) := by
  unfold fwB fwA
  by_cases h : 4000 < T.length
  · exact Or.inl (if_pos h)
  · refine Or.inr ⟨if_neg h, ?_⟩
    rw [if_neg h]
    by_cases h0 : T = []
    · exact Or.inr ⟨0, if_pos h0⟩
    · rw [if_neg h0]
      rcases fwL_cases T with ⟨k, _, _, _, e⟩ | ⟨_, e⟩
      · exact Or.inr ⟨k, e⟩
      · rw [e]
        by_cases hR : lnR T = []
        · exact Or.inl (if_pos hR)
        · exact Or.inr ⟨(lnL T).length, if_neg hR⟩

set_option maxHeartbeats 1000000 in
theorem walk (a0 : Option Addr) (len0 cap0 : Nat) (z0 : List Int) (w : World) (w0 : IsRow .u8 w a0 len0 cap0 z0) (hy : Lay w) :
    Calls Tryd.prog 6 #[.slice a0 len0 cap0] w fun e w' => e = .returned (.bool true) ∧ Below w.heap.size w w' := by
  have HY := hid hy
  by_cases hl : 4096 < len0
  · go_enter Tryd.func6, Tryd.ntmps6
    go_wp2
    go_ret
    exact ⟨rfl, Below.refl _ _⟩
  have hB := hid (w0.bytes (by omega))
  clear w0 hy
  go_enter Tryd.func6, Tryd.ntmps6
  go_wp2_with (go_at_call 25; go_in)
  refine (DrawFirstWrongLine_any a0 len0 cap0 w hB.out).mono ?_
  rintro e w1 ⟨s, rfl, hs, b1⟩
  have B := hid b1
  clear b1 hB
  obtain ⟨T, hT⟩ : ∃ T, s.data.toList = T := ⟨_, rfl⟩
  have hTl : T.length = s.size := by rw [← hT]; exact data_len s
  have C1 : Hid (∀ W, Below w.heap.size w W → _) := fun W hW => impl_FirstWrongLine_any s W (by omega) (HY.out.below hW)
  have C2 : Hid (∀ W : World, _) := fun W => spec_FirstWrongLine_any s W (by omega)
  obtain ⟨K, hK⟩ : ∃ K, fwA T = K := ⟨_, rfl⟩
  obtain ⟨D, hD⟩ : ∃ D, fwB T = D := ⟨_, rfl⟩
  simp only [Hid, hT, hK, hD] at C1 C2
  replace C1 := hid C1
  replace C2 := hid C2
  have hfk := fw_k T
  rw [hK, hD] at hfk
  have HTL := hid hTl
  clear hTl
  go_wp2_with fail
  refine (C1.out _ B.out).mono ?_
  rintro e w2 ⟨rfl, b2⟩
  have B2 := hid (B.out.trans (b2.mono B.out.size))
  clear b2
  go_wp2_with fail
  refine (C2.out _).mono ?_
  rintro e w3 ⟨rfl, b3⟩
  have B3 := hid (B2.out.trans (b3.mono B2.out.size))
  clear b3 C1 C2
  rcases hfk with h3 | ⟨h0, hm⟩
  · subst h3
    clear hK hD
    go_wp2_with fail
    go_ret
    exact ⟨rfl, B3.out⟩
  subst h0
  rcases hm with hm | ⟨k, hk⟩
  · subst hm
    clear hK hD
    go_wp2_with fail
    go_ret
    exact ⟨rfl, B3.out⟩
  subst hk
  obtain ⟨hkl, hok1, hok2⟩ := fw_facts hD hK
  have HK := hid hkl
  have hpl := pre_len T k
  rw [HTL.out] at hpl
  have HPL := hid hpl
  have R1 : Hid (∀ W, Below w.heap.size w W → _) := fun W hW => outR_ok (b := decide (0 < k)) (impl_ReadNetwork_any (tb (pre T k)) W (by rw [tb_size]; omega) (HY.out.below hW)) (by rw [tb_data]; exact hok1)
  have R2 : Hid (∀ W, Below w.heap.size w W → _) := fun W hW => outR_ok (b := false) (impl_ReadNetwork_any s W (by omega) (HY.out.below hW)) (by rw [hT]; exact hok2)
  have hk10 : k ≤ 10000 := by
    have h1 := pieces_len 10 T
    rw [ln_eq] at h1
    simp at h1
    have := HTL.out
    omega
  clear hkl hpl hK hD hok1 hok2
  go_wp2_with fail
  go_loop [8, 9] (fun i j => WlRel T k w3 i j) (fun i _ => s.size - (intOf i).toNat)
  case atStart => exact ⟨0, 0, rfl, rfl, by omega, by simp⟩
  case round =>
    obtain ⟨a, m, rfl, rfl, ha, hm⟩ := hrel
    have hap := HPL.out
    by_cases hlt : a < (pre T k).length
    · have hmk : m < k := by rw [hm]; exact cnt_lt HK.out hlt
      have has : a < s.size := by omega
      have haT : a < T.length := by rw [HTL.out]; exact has
      have HC := hid (cnt_succ T a haT)
      have HBK : Hid (s[a] = T[a]) := by
        have : s.data.toList[a]'(by rw [hT]; exact haT) = T[a] := by congr 1
        rw [Hid, ← this, Array.getElem_toList]; rfl
      have HM := hid hm
      clear hm ha hap
      by_cases h10 : s[a] = 10
      · have d10 : ((s[a].toNat : Int) == 10) = true := by rw [h10]; rfl
        have HE : Hid (m + 1 = (T.take (a + 1)).count 10) := by rw [Hid, HC.out, HM.out, if_pos (by rw [← HBK.out, h10])]
        clear h10
        go_wp2_with fail
        go_round
        case rel => exact ⟨a + 1, m + 1, by go_num, by go_num, by omega, HE.out⟩
        case measure => simp [intOf]; omega
      · have d10 : ((s[a].toNat : Int) == 10) = false := beq_false_of_ne (fun e => h10 (UInt8.toNat_inj.1 (by show s[a].toNat = 10; omega)))
        have HE : Hid (m = (T.take (a + 1)).count 10) := by rw [Hid, HC.out, if_neg (by rw [← HBK.out]; exact h10), Nat.add_zero]; exact HM.out
        clear h10
        go_wp2_with fail
        go_round
        case rel => exact ⟨a + 1, m, by go_num, rfl, by omega, HE.out⟩
        case measure => simp [intOf]; omega
    · obtain rfl : a = (pre T k).length := by omega
      obtain rfl : m = k := by rw [hm, pre_take, cnt_pre HK.out]
      have hXs : s.extract 0 (pre T m).length = tb (pre T m) := by rw [ext_tb', hT, List.drop_zero, pre_take]
      clear hm ha
      go_wp2_with fail
      all_goals
        refine (R1.out _ B3.out).mono ?_
        rintro e w4 ⟨x0, x1, n0, k0, n1, k1, rfl, b4⟩
        have B4 := hid (B3.out.trans ((b4.trans ((below_new w4 (.cells #[.slice x0 n0 k0, .slice x1 n1 k1] 25)).mono b4.size)).mono B3.out.size))
        clear b4
        go_wp2_with fail
        refine (R2.out _ B4.out).mono ?_
        rintro e w5 ⟨y0, y1, p0, l0, p1, l1, rfl, b5⟩
        have B5 := hid (B4.out.trans ((b5.trans ((below_new w5 (.cells #[.slice y0 p0 l0, .slice y1 p1 l1] 25)).mono b5.size)).mono B4.out.size))
        clear b5
        rcases Nat.eq_zero_or_pos m with hm0 | hm0
        · have hmI : ¬ ((0 : Int) < (m : Int)) := by omega
          have hmd : decide (0 < m) = false := decide_eq_false (by omega)
          go_wp2_with fail
          go_ret
          exact ⟨rfl, B5.out⟩
        · have hmI : (0 : Int) < (m : Int) := by omega
          go_wp2_with fail
          go_ret
          exact ⟨rfl, B5.out⟩

set_option maxRecDepth 100000 in
theorem lifted (os : Os) (started : os.Started) (H : Type) (enc : TypeId × Value → H) :
    ReturnsInHanded {} Tryd.checked os 6 .any (fun w args => (Rows.fnWrongLinesSpec.pre enc Tryd.prog Tryd.f6 [] false w args ∧ laidMetH Tryd.prog laidF w) ∧ sizedMet enc Tryd.prog Tryd.f6 (OpenSpec.ofChange Rows.fnWrongLinesSpec) false w args) (Rows.fnWrongLinesSpec.post enc Tryd.prog Tryd.f6 false true false false) := by
  refine returns_and_shaped (C := Tryd.checked) (X := fun w _ => laidMetH Tryd.prog laidF w) (fun _ _ _ hh h => h.of_heap hh) own started (by kernel_rfl) Tryd.func6
    (ChangeSpec.witness_shaped (enc := enc) (C := Tryd.checked) (os := os) (X := fun w _ => laidMetH Tryd.prog laidF w) false (World.laidAll Tryd.prog os laidF) #[.slice none 0 0] 8 (World.laidAll_os _ _ _) (World.shaped_of_ZipB (by kernel_rfl) (by kernel_rfl)) (by kernel_rfl) (by kernel_rfl) (by kernel_rfl) (doorF_met os _)) ?_
  intro W base args ds gs before hval0 hW hL hsh
  have hval : ∀ (j : Nat) t v, Tryd.f6.params[j]? = some t → args[j]? = some v → Value.okWide Tryd.prog W .any base t v := hval0
  have hW' := hW
  obtain ⟨p, q, hA0, hV, rfl, hfz, hnd⟩ := hW
  have hA : DataW.TrodAll enc Tryd.prog W 0 (fun _ => true) true Tryd.f6.params.toList args.toList ds p := hA0
  rw [Tryd.params6] at hA hval
  obtain ⟨v0, vs0, d0, ds0, p0, q0, hargs, rfl, rfl, h0, r0⟩ := trodAll_cons hA
  obtain ⟨rfl, rfl, rfl⟩ := trodAll_nil r0
  obtain rfl : args = #[v0] := by cases args; simp_all
  obtain ⟨rfl, rfl⟩ := trodVars_none hV
  obtain ⟨a0, len0, cap0, rfl⟩ := okWide_slice Tryd.underlying40 (hval 0 40 v0 rfl rfl)
  have k0 := h0
  have lt0 : ∀ x ∈ p0, x.block < W.heap.size := by obtain ⟨m, hm⟩ := k0; exact DataW.trod_lt m _ _ _ hm
  obtain ⟨z0, w0⟩ : ∃ zs, IsRow .u8 W a0 len0 cap0 zs := by
    obtain ⟨fuel, hf⟩ := h0
    rcases open_ints Tryd.underlying40 Tryd.underlying5 (by kernel_rfl) hf with ⟨hcs, _⟩ | ⟨x, l, c, zs, hcs, _, hl, hm, hz, _, hcell, hwz⟩
    · simp [Value.cells] at hcs
      obtain ⟨rfl, rfl, rfl⟩ := hcs
      exact ⟨[], .inl ⟨rfl, rfl, rfl, rfl⟩⟩
    · simp [Value.cells] at hcs
      obtain ⟨rfl, rfl, rfl⟩ := hcs
      exact ⟨zs, .inr ⟨_, rfl, hl, hm, by simpa using hz, hcell, hwz⟩⟩
  clear hA0 hval0
  refine (walk a0 len0 cap0 z0 W w0 (lay_of_laidF hsh hL)).mono fun e W' ⟨he, bel⟩ => ?_
  subst he
  exact ⟨_, rfl, _, _, _, [], _, [], hW', trodAll_mk1 (shut_bool Tryd.underlying4 _), (trodAll_cons_mk (Below.trod laidOut (by kernel_rfl) (of_decide_eq_true (by kernel_rfl)) k0 bel lt0) trodAll_mk0), rfl, bel.frame _, fun h => by cases h⟩

theorem row : Rows.FnWrongLinesSaid :=
  OpenClaim.holds_of_wide 6 Tryd.f6 rfl rfl rfl rfl rfl rfl rfl ⟨rfl, rfl, rfl, rfl, rfl⟩ rfl rfl rfl rfl rfl (by kernel_rfl) Tryd.func6 (by kernel_rfl)
    (of_decide_eq_true (by kernel_rfl)) (by unfold Func.isWrapper; first | (rw [if_pos (by decide +kernel)]; kernel_rfl) | (rw [if_neg (by decide +kernel)]; exact ⟨rfl, rfl⟩))
    (fun os started H enc _ => lifted os started H enc)

theorem proved : Rows.FnWrongLinesCardSaid :=
  Claim7.holds_tied_plain_at .later [] [.data, .data, .data, .data, .sentinel, .sentinel, .pinned] true (true, "1258e6a8963d9642433132aed7ff89507273dc909a22a34a2029c36c120267fa") true
    row (fun _ h => by cases h) (by kernel_rfl) (fun _ h => by cases h) fnWrongLines_row_tie rfl ⟨rfl, rfl⟩ (by kernel_rfl) rfl
    (fun f fn hf hfn => by
      obtain rfl : f = 6 := Option.some.inj ((show Tryd.prog.funcNamed "loop.example/g00852/laws.FnWrongLines" = some 6 by kernel_rfl).symm.trans hf) |>.symm
      obtain rfl : fn = Tryd.f6 := (Option.some.inj (Tryd.func6.symm.trans hfn)).symm
      exact ⟨by kernel_rfl, fun j t ht => by
        rw [Tryd.params6] at ht
        have hm : t ∈ [40] := by simpa using Array.mem_of_getElem? ht
        have hall : ([40].all fun u => !Tryd.prog.wantsStandIn u) = true := by kernel_rfl
        exact (show Tryd.prog.wantsStandIn t = false by simpa using List.all_eq_true.1 hall t hm)⟩)
    (by kernel_rfl)
end Go.Proofs.YtdbgncinaacheaaDoor.fnWrongLines
