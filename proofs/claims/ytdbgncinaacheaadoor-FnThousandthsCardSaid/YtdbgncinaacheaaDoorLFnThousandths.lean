/- 'FnThousandths' is proved: the law returns true for every input, where the listed variables of the library read as the library lays them. The frame follows the kit's proof-skeleton. -/
import Derived.Test.YtdbgncinaacheaaDoorRows
import Derived.WalkKit
import Derived.ProofKit
import Derived.OpenShut
import Derived.ShutString
import Derived.ChangeOld
import Derived.Below
import Derived.Test.YtdbgncinaacheaaDoorTied3
import Derived.Test.YtdbgncinaacheaaDoorTie
import Derived.Test.YtdbgncinaacheaaDoorCards
import Derived.SevenTiedAt
import Derived.Test.YtdbgncinaacheaaDoorDmg
namespace Go.Proofs.YtdbgncinaacheaaDoor.fnThousandths
open Go.ChangeShapes Go.WideShapes Go.ChangeAt Go.RowKit
open Go.ChangeMaps (open_string shut_string)
set_option linter.unusedVariables false

theorem own : ownKnob Tryd.prog.godebug = none := by kernel_rfl
theorem laidOut : laidOutB Tryd.prog = true := by kernel_rfl

theorem bytes_up {w : World} {a : Option Addr} {len B B' : Nat} (h : Bytes w a len B) (hB : B ≤ B') : Bytes w a len B' := by
  obtain ⟨hm, h⟩ := h
  refine ⟨hm, h.imp id ?_⟩
  rintro ⟨b, off, ha, hb, h⟩
  exact ⟨b, off, ha, by omega, h⟩
theorem back_num (n : Int) : ∃ (ok : Bool) (x : Int), (rdTh (thS n)).isSome = ok ∧ (rdTh (thS n)).getD 0 = x ∧ ((thS n).toList == ([] : List UInt8)) = !ok ∧ (ok = true → x = n) := by
  rcases Classical.em (inT n) with h | h
  · exact ⟨true, n, by rw [rdTh_th h]; rfl, by rw [rdTh_th h]; rfl, by rw [ByteArray.toList_eq]; exact beq_false_of_ne (thS_ne h), fun _ => rfl⟩
  · have e : rdTh (⟨#[]⟩ : ByteArray) = none := rdTh_none fun v hv e => thS_ne hv (by rw [e])
    rw [thS_out h, e]
    exact ⟨false, 0, rfl, rfl, by rw [ByteArray.toList_eq]; rfl, fun h => by cases h⟩

set_option maxHeartbeats 1000000 in
theorem walk (a0 : Option Addr) (len0 cap0 : Nat) (z0 : List Int) (w : World) (w0 : IsRow .u8 w a0 len0 cap0 z0) (hy : Lay w) :
    Calls Tryd.prog 10 #[.slice a0 len0 cap0] w fun e w' => e = .returned (.bool true) ∧ Below w.heap.size w w' := by
  have HY := hid hy
  by_cases hl : 4096 < len0
  · go_enter Tryd.func10, Tryd.ntmps10
    go_wp2
    go_ret
    exact ⟨rfl, Below.refl _ _⟩
  have hB := hid (w0.bytes (by omega))
  clear w0 hy
  go_enter Tryd.func10, Tryd.ntmps10
  go_wp2_with (go_at_call 25; go_in)
  refine (DrawThousandthsText_any a0 len0 cap0 w hB.out).mono ?_
  rintro e w1 ⟨n, rfl, b1⟩
  have B := hid b1
  clear b1
  obtain ⟨ok, x, hok, hx, hT, hn⟩ := back_num n
  obtain ⟨T, hTT⟩ : ∃ T, thS n = T := ⟨_, rfl⟩
  have hTz := thS_size n
  have CT1 : Hid (∀ W, Below w.heap.size w W → _) := fun W hW => impl_ThousandthsText_any n W (HY.out.below hW).tab
  have CT2 : Hid (∀ W : World, _) := fun W => spec_ThousandthsText_any n W
  have CR : Hid (∀ W, Below w.heap.size w W → _) := fun W hW => impl_ReadThousandths_any (thS n) W (Nat.le_trans hTz (by omega)) (HY.out.below hW)
  rw [hTT] at hok hx hT hTz
  simp only [Hid, ← thS_eq, hTT, hok, hx] at CT1 CT2 CR
  replace CT1 := hid CT1
  replace CT2 := hid CT2
  replace CR := hid CR
  clear hok hx hTT hTz
  go_wp2_with fail
  refine (CT1.out _ B.out).mono ?_
  rintro e w2 ⟨rfl, b2⟩
  have B := hid (B.out.trans (b2.mono B.out.size))
  clear b2
  go_wp2_with fail
  refine (CR.out _ B.out).mono ?_
  rintro e w3 ⟨rfl, b3⟩
  have B := hid (B.out.trans (b3.mono B.out.size))
  clear b3
  go_wp2_with fail
  refine (DrawReadThousandths_any a0 len0 cap0 _ (bytes_up (hB.out.kept (Kept.of_below (X := fun _ => False) B.out) (fun k e => e.elim)) B.out.size)).mono ?_
  rintro e w4 ⟨u, rfl, hu, b4⟩
  have B := hid (B.out.trans (b4.mono B.out.size))
  clear b4
  obtain ⟨r, hr⟩ : ∃ r, rdTh u = r := ⟨_, rfl⟩
  have CU1 : Hid (∀ W, Below w.heap.size w W → _) := fun W hW => impl_ReadThousandths_any u W (by omega) (HY.out.below hW)
  have CU2 : Hid (∀ W : World, _) := fun W => spec_ReadThousandths_any u W (by omega)
  simp only [Hid, hr] at CU1 CU2
  replace CU1 := hid CU1
  replace CU2 := hid CU2
  go_wp2_with fail
  refine (CU1.out _ B.out).mono ?_
  rintro e w5 ⟨rfl, b5⟩
  have B := hid (B.out.trans (b5.mono B.out.size))
  clear b5
  go_wp2_with fail
  refine (CU2.out _).mono ?_
  rintro e w6 ⟨rfl, b6⟩
  have B := hid (B.out.trans (b6.mono B.out.size))
  clear b6
  cases r with
  | none =>
    cases ok
    · go_wp2_with fail
      refine (CT2.out _).mono ?_
      rintro e w7 ⟨rfl, b7⟩
      have B := hid (B.out.trans (b7.mono B.out.size))
      clear b7
      go_wp2_with fail
      go_ret
      exact ⟨rfl, B.out⟩
    · obtain rfl := hn rfl
      go_wp2_with fail
      refine (CT2.out _).mono ?_
      rintro e w7 ⟨rfl, b7⟩
      have B := hid (B.out.trans (b7.mono B.out.size))
      clear b7
      go_wp2_with fail
      go_ret
      exact ⟨rfl, B.out⟩
  | some y =>
    have hy2 := (rdTh_t hr).2
    have CY : Hid (∀ W, Below w.heap.size w W → _) := fun W hW => impl_ThousandthsText_any y W (HY.out.below hW).tab
    simp only [Hid, ← thS_eq, hy2] at CY
    replace CY := hid CY
    clear hy2 hr
    cases ok
    · go_wp2_with fail
      refine (CT2.out _).mono ?_
      rintro e w7 ⟨rfl, b7⟩
      have B := hid (B.out.trans (b7.mono B.out.size))
      clear b7
      go_wp2_with fail
      refine (CY.out _ B.out).mono ?_
      rintro e w8 ⟨rfl, b8⟩
      have B := hid (B.out.trans (b8.mono B.out.size))
      clear b8
      go_wp2_with fail
      go_ret
      exact ⟨rfl, B.out⟩
    · obtain rfl := hn rfl
      go_wp2_with fail
      refine (CT2.out _).mono ?_
      rintro e w7 ⟨rfl, b7⟩
      have B := hid (B.out.trans (b7.mono B.out.size))
      clear b7
      go_wp2_with fail
      refine (CY.out _ B.out).mono ?_
      rintro e w8 ⟨rfl, b8⟩
      have B := hid (B.out.trans (b8.mono B.out.size))
      clear b8
      go_wp2_with fail
      go_ret
      exact ⟨rfl, B.out⟩

set_option maxRecDepth 100000 in
theorem lifted (os : Os) (started : os.Started) (H : Type) (enc : TypeId × Value → H) :
    ReturnsInHanded {} Tryd.checked os 10 .any (fun w args => (Rows.fnThousandthsSpec.pre enc Tryd.prog Tryd.f10 [] false w args ∧ laidMetH Tryd.prog laidE w) ∧ sizedMet enc Tryd.prog Tryd.f10 (OpenSpec.ofChange Rows.fnThousandthsSpec) false w args) (Rows.fnThousandthsSpec.post enc Tryd.prog Tryd.f10 false true false false) := by
  refine returns_and_shaped (C := Tryd.checked) (X := fun w _ => laidMetH Tryd.prog laidE w) (fun _ _ _ hh h => h.of_heap hh) own started (by kernel_rfl) Tryd.func10
    (ChangeSpec.witness_shaped (enc := enc) (C := Tryd.checked) (os := os) (X := fun w _ => laidMetH Tryd.prog laidE w) false (World.doorLaid Tryd.prog 400 os) #[.slice none 0 0] 8 rfl (World.shaped_of_RefB (by kernel_rfl) (by kernel_rfl)) (by kernel_rfl) (by kernel_rfl) (by kernel_rfl) (doorE_met os _)) ?_
  intro W base args ds gs before hval0 hW hL hsh
  have hval : ∀ (j : Nat) t v, Tryd.f10.params[j]? = some t → args[j]? = some v → Value.okWide Tryd.prog W .any base t v := hval0
  have hW' := hW
  obtain ⟨p, q, hA0, hV, rfl, hfz, hnd⟩ := hW
  have hA : DataW.TrodAll enc Tryd.prog W 0 (fun _ => true) true Tryd.f10.params.toList args.toList ds p := hA0
  rw [Tryd.params10] at hA hval
  obtain ⟨v0, vs0, d0, ds0, p0, q0, hargs, rfl, rfl, h0, r0⟩ := trodAll_cons hA
  obtain ⟨rfl, rfl, rfl⟩ := trodAll_nil r0
  obtain rfl : args = #[v0] := by cases args; simp_all
  obtain ⟨rfl, rfl⟩ := trodVars_none hV
  obtain ⟨a0, len0, cap0, rfl⟩ := okWide_slice Tryd.underlying40 (hval 0 40 v0 rfl rfl)
  have k0 := h0
  have lt0 : ∀ x ∈ p0, x.block < W.heap.size := by obtain ⟨m, hm⟩ := k0; exact DataW.trod_lt m _ _ _ hm
  obtain ⟨z0, w0⟩ : ∃ zs, IsRow .u8 W a0 len0 cap0 zs := by
    obtain ⟨fuel, hf⟩ := h0
    rcases open_ints Tryd.underlying40 Tryd.underlying5 (by kernel_rfl) hf with ⟨hcs, _⟩ | ⟨x, l, c, zs, hcs, _, hl, hm, hz, _, hcell, hwz⟩
    · simp [Value.cells] at hcs
      obtain ⟨rfl, rfl, rfl⟩ := hcs
      exact ⟨[], .inl ⟨rfl, rfl, rfl, rfl⟩⟩
    · simp [Value.cells] at hcs
      obtain ⟨rfl, rfl, rfl⟩ := hcs
      exact ⟨zs, .inr ⟨_, rfl, hl, hm, by simpa using hz, hcell, hwz⟩⟩
  clear hA0 hval0
  refine (walk a0 len0 cap0 z0 W w0 (lay_of_laidE hsh hL)).mono fun e W' ⟨he, bel⟩ => ?_
  subst he
  exact ⟨_, rfl, _, _, _, [], _, [], hW', trodAll_mk1 (shut_bool Tryd.underlying4 _), (trodAll_cons_mk (Below.trod laidOut (by kernel_rfl) (of_decide_eq_true (by kernel_rfl)) k0 bel lt0) trodAll_mk0), rfl, bel.frame _, fun h => by cases h⟩

theorem row : Rows.FnThousandthsSaid :=
  OpenClaim.holds_of_wide 10 Tryd.f10 rfl rfl rfl rfl rfl rfl rfl ⟨rfl, rfl, rfl, rfl, rfl⟩ rfl rfl rfl rfl rfl (by kernel_rfl) Tryd.func10 (by kernel_rfl)
    (of_decide_eq_true (by kernel_rfl)) (by unfold Func.isWrapper; first | (rw [if_pos (by decide +kernel)]; kernel_rfl) | (rw [if_neg (by decide +kernel)]; exact ⟨rfl, rfl⟩))
    (fun os started H enc _ => lifted os started H enc)

theorem proved : Rows.FnThousandthsCardSaid :=
  Claim7.holds_tied_plain_at .later [] [.data, .data, .data, .sentinel, .sentinel] true (true, "1258e6a8963d9642433132aed7ff89507273dc909a22a34a2029c36c120267fa") true
    row (fun _ h => by cases h) (by kernel_rfl) (fun _ h => by cases h) fnThousandths_row_tie rfl ⟨rfl, rfl⟩ (by kernel_rfl) rfl
    (fun f fn hf hfn => by
      obtain rfl : f = 10 := Option.some.inj ((show Tryd.prog.funcNamed "loop.example/g00852/laws.FnThousandths" = some 10 by kernel_rfl).symm.trans hf) |>.symm
      obtain rfl : fn = Tryd.f10 := (Option.some.inj (Tryd.func10.symm.trans hfn)).symm
      exact ⟨by kernel_rfl, fun j t ht => by
        rw [Tryd.params10] at ht
        have hm : t ∈ [40] := by simpa using Array.mem_of_getElem? ht
        have hall : ([40].all fun u => !Tryd.prog.wantsStandIn u) = true := by kernel_rfl
        exact (show Tryd.prog.wantsStandIn t = false by simpa using List.all_eq_true.1 hall t hm)⟩)
    (by kernel_rfl)
end Go.Proofs.YtdbgncinaacheaaDoor.fnThousandths
