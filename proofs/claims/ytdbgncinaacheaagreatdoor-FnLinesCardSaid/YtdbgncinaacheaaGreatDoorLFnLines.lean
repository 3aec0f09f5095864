/- 'FnLines' is proved: the law returns true for every input, where the listed variables of the library read as the library lays them. The frame follows the kit's proof-skeleton. -/
import Derived.Test.YtdbgncinaacheaaGreatDoorRows
import Derived.WalkKit
import Derived.ProofKit
import Derived.OpenShut
import Derived.ShutString
import Derived.ChangeOld
import Derived.Below
import Derived.Test.YtdbgncinaacheaaGreatDoorTied3
import Derived.Test.YtdbgncinaacheaaGreatDoorTie
import Derived.Test.YtdbgncinaacheaaGreatDoorCards
import Derived.SevenTiedAt
import Derived.Test.YtdbgncinaacheaaGreatDoorDrL
import Derived.Test.YtdbgncinaacheaaGreatDoorPline
import Derived.Test.YtdbgncinaacheaaGreatDoorRnl
namespace Go.Proofs.YtdbgncinaacheaaGreatDoor.fnLines
open Go.ChangeShapes Go.WideShapes Go.ChangeAt Go.RowKit
open Go.ChangeMaps (open_string shut_string)
set_option linter.unusedVariables false

theorem own : ownKnob Tryz.prog.godebug = none := by kernel_rfl
theorem laidOut : laidOutB Tryz.prog = true := by kernel_rfl

theorem rdNode_nil : rdNode [] = none := rdNode_words (by simp [pieces])
/-- What is read back of the line of a node, valid or not. -/
theorem back_node (x : Nd) : rdNode (ndS x).data.toList = (if nodeB x = true then some x else none) ∧ ((ndS x).toList == ([] : List UInt8)) = !(nodeB x) := by
  cases h : nodeB x
  · have e : ndS x = ⟨#[]⟩ := by rw [ndS, h]; rfl
    rw [e, ByteArray.toList_eq]
    exact ⟨rdNode_nil, rfl⟩
  · have e : ndS x = tb (ndL x) := by rw [ndS, if_pos h]
    rw [e, tb_data]
    refine ⟨rdNode_some h rfl, tb_beq (fun e2 => ?_)⟩
    have := congrArg List.length e2
    rw [ndL_app] at this
    simp at this

set_option maxHeartbeats 1000000 in
theorem walk (a0 : Option Addr) (len0 cap0 : Nat) (z0 : List Int) (w : World) (w0 : IsRow .u8 w a0 len0 cap0 z0) (hy : Lay w) :
    Calls Tryz.prog 3 #[.slice a0 len0 cap0] w fun e w' => e = .returned (.bool true) ∧ Below w.heap.size w w' := by
  have HY := hid hy
  by_cases hl : 4096 < len0
  · go_enter Tryz.func3, Tryz.ntmps3
    go_wp2
    go_ret
    exact ⟨rfl, Below.refl _ _⟩
  have hB := hid (w0.bytes (by omega))
  clear w0 hy
  go_enter Tryz.func3, Tryz.ntmps3
  go_wp2_with (go_at_call 4; go_in)
  refine (DrawNodeLine_any a0 len0 cap0 w hB.out).mono ?_
  rintro e w1 ⟨x, rfl, hx, b1⟩
  have B := hid (b1.trans ((below_new w1 (.cells #[.string x.name, .int .i64 x.low, .int .i64 x.high] 25)).mono b1.size))
  have X1 := hid (Blk3.new w1 (.string x.name) (.int .i64 x.low) (.int .i64 x.high) 25)
  have z1 : w1.heap.size < (w1.alloc (.cells #[.string x.name, .int .i64 x.low, .int .i64 x.high] 25)).heap.size := by simp
  clear b1
  obtain ⟨hrd, hT⟩ := back_node x
  have hTl := ndS_sz x
  have CT1 : Hid (∀ W, Below w.heap.size w W → _) := fun W hW => impl_NodeLine_any x W hx (HY.out.below hW).tab
  have CT2 : Hid (∀ W : World, _) := fun W => spec_NodeLine_any x W hx
  have CI : Hid (∀ W : World, _) := fun W => impl_IsNode_any x W hx
  have CR : Hid (∀ W, Below w.heap.size w W → _) := fun W hW => impl_ReadNodeLine_any (ndS x) W (by omega) (HY.out.below hW)
  obtain ⟨T, hTT⟩ : ∃ T, ndS x = T := ⟨_, rfl⟩
  rw [hTT] at hrd hT
  simp only [Hid, hTT, hrd] at CT1 CT2 CR
  replace CT1 := hid CT1
  replace CT2 := hid CT2
  replace CR := hid CR
  clear hrd hTl hTT
  obtain ⟨X10, X11, X12, _, _, _⟩ := X1.out
  go_wp2_with fail
  refine (CT1.out _ B.out).mono ?_
  rintro e w2 ⟨rfl, b2⟩
  clear X10 X11 X12
  have B := hid (B.out.trans (b2.mono B.out.size))
  have X1 := hid (X1.out.below b2)
  have z2 : w1.heap.size < w2.heap.size := Nat.lt_of_lt_of_le z1 b2.size
  clear b2 CT1
  obtain ⟨ok, hok⟩ : ∃ ok, nodeB x = ok := ⟨_, rfl⟩
  rw [hok] at hT
  simp only [Hid, hok] at CI CR
  replace CI := hid CI
  replace CR := hid CR
  clear hok
  go_wp2_with fail
  refine (CR.out _ B.out).mono ?_
  rintro e w3 ⟨rfl, b3⟩
  obtain ⟨y, hyy⟩ : ∃ y, (if ok = true then some x else none : Option Nd).getD zN = y := ⟨_, rfl⟩
  have hy2 : (if ok = true then some x else none : Option Nd).isSome = ok := by cases ok <;> rfl
  have hyx : ok = true → y = x := fun h => by rw [← hyy, if_pos h]; rfl
  simp only [rnV, hyy, hy2]
  have b3' := b3.trans ((below_new w3 (.cells #[.string y.name, .int .i64 y.low, .int .i64 y.high] 25)).mono b3.size)
  have B := hid (B.out.trans (b3'.mono B.out.size))
  have X1 := hid (X1.out.below b3')
  have Y1 := hid (Blk3.new w3 (.string y.name) (.int .i64 y.low) (.int .i64 y.high) 25)
  have z3 : w1.heap.size < w3.heap.size := Nat.lt_of_lt_of_le z2 b3.size
  clear b3 b3' hyy hy2 CR
  obtain ⟨X10, X11, X12, _, _, _⟩ := X1.out
  go_wp2_with fail
  refine (CT2.out _).mono ?_
  rintro e w4 ⟨rfl, b4⟩
  clear X10 X11 X12
  have B := hid (B.out.trans (b4.mono B.out.size))
  have X1 := hid (X1.out.below b4)
  have Y1 := hid (Y1.out.below b4)
  have z4 : w3.heap.size < w4.heap.size := Nat.lt_of_lt_of_le (by simp) b4.size
  have z5 : w1.heap.size < w4.heap.size := Nat.lt_trans z3 z4
  clear b4
  obtain ⟨X10, X11, X12, _, _, _⟩ := X1.out
  obtain ⟨Y10, Y11, Y12, _, _, _⟩ := Y1.out
  have BZ := hid B.out
  cases ok
  · go_wp2_with fail
    refine (CI.out _).mono ?_
    rintro e w5 ⟨rfl, b5⟩
    have B5 := hid (BZ.out.trans (b5.mono BZ.out.size))
    clear b5 CI CT2 BZ
    go_wp2_with fail
    refine (DrawPipeLine_any a0 len0 cap0 _ (bytes_at hB.out B5.out)).mono ?_
    rintro e w6 ⟨nv, pv, n, r, rfl, hd⟩
    obtain ⟨a1, k1, rfl⟩ := hd.at.1.shape
    obtain ⟨c1, m1, rfl⟩ := hd.at.2.2.shape
    have B6 := hid (B5.out.trans ((hd.bel.alloc hd.bel.size (.cells #[.slice a1 n.nodes.length k1, .slice c1 n.pipes.length m1] 34)).mono B5.out.size))
    have X6 := hid (Box.new w6 #[.slice a1 n.nodes.length k1, .slice c1 n.pipes.length m1] 34)
    have N6 := hid (hd.at.below (below_new w6 (.cells #[.slice a1 n.nodes.length k1, .slice c1 n.pipes.length m1] 34)))
    have Q6 := hid hd.c1
    clear hd
    obtain ⟨X60, X61⟩ := X6.out.two
    go_wp2_with fail
    refine (impl_PipeLine_any _ _ n r _ N6.out Q6.out (HY.out.below B6.out).tab).mono ?_
    rintro e w7 ⟨rfl, b7⟩
    clear X60 X61
    have B7 := hid (B6.out.trans (b7.mono B6.out.size))
    have X7 := hid (X6.out.below b7)
    have N7 := hid (N6.out.below b7)
    clear b7
    obtain ⟨X70, X71⟩ := X7.out.two
    go_wp2_with fail
    refine (spec_PipeLine_any _ _ n r _ N7.out).mono ?_
    rintro e w8 ⟨rfl, b8⟩
    have B8 := hid (B7.out.trans (b8.mono B7.out.size))
    clear b8 X70 X71
    go_wp2_with fail
    refine (DrawReadNodeLine_any a0 len0 cap0 _ (bytes_at hB.out B8.out)).mono ?_
    rintro e w9 ⟨u, rfl, hu, b9⟩
    have B9 := hid (B8.out.trans (b9.mono B8.out.size))
    clear b9
    have CU1 : Hid (∀ W, Below w.heap.size w W → _) := fun W hW => impl_ReadNodeLine_any u W (by omega) (HY.out.below hW)
    have CU2 : Hid (∀ W : World, _) := fun W => spec_ReadNodeLine_any u W (by omega)
    obtain ⟨z, hz⟩ : ∃ z, (rdNode u.data.toList).getD zN = z := ⟨_, rfl⟩
    obtain ⟨bo, hbo⟩ : ∃ bo, (rdNode u.data.toList).isSome = bo := ⟨_, rfl⟩
    simp only [Hid, rnV, hz, hbo] at CU1 CU2
    replace CU1 := hid CU1
    replace CU2 := hid CU2
    clear hz hbo
    go_wp2_with fail
    refine (CU1.out _ B9.out).mono ?_
    rintro e w10 ⟨rfl, b10⟩
    have B10 := hid (B9.out.trans ((b10.trans ((below_new w10 (.cells #[.string z.name, .int .i64 z.low, .int .i64 z.high] 25)).mono b10.size)).mono B9.out.size))
    have Z1 := hid (Blk3.new w10 (.string z.name) (.int .i64 z.low) (.int .i64 z.high) 25)
    clear b10
    go_wp2_with fail
    refine (CU2.out _).mono ?_
    rintro e w11 ⟨rfl, b11⟩
    have B11 := hid (B10.out.trans ((b11.trans ((below_new w11 (.cells #[.string z.name, .int .i64 z.low, .int .i64 z.high] 25)).mono b11.size)).mono B10.out.size))
    have Z2 := hid (Z1.out.below b11)
    have z11 : w10.heap.size < w11.heap.size := Nat.lt_of_lt_of_le (by simp) b11.size
    clear b11
    obtain ⟨Z20, Z21, Z22, _, _, _⟩ := Z2.out
    cases bo
    all_goals
      go_wp2_with fail
      go_ret
      exact ⟨rfl, B11.out⟩
  · obtain rfl := hyx rfl
    go_wp2_with fail
    refine (CI.out _).mono ?_
    rintro e w5 ⟨rfl, b5⟩
    have B5 := hid (BZ.out.trans (b5.mono BZ.out.size))
    clear b5 CI CT2 BZ
    go_wp2_with fail
    refine (DrawPipeLine_any a0 len0 cap0 _ (bytes_at hB.out B5.out)).mono ?_
    rintro e w6 ⟨nv, pv, n, r, rfl, hd⟩
    obtain ⟨a1, k1, rfl⟩ := hd.at.1.shape
    obtain ⟨c1, m1, rfl⟩ := hd.at.2.2.shape
    have B6 := hid (B5.out.trans ((hd.bel.alloc hd.bel.size (.cells #[.slice a1 n.nodes.length k1, .slice c1 n.pipes.length m1] 34)).mono B5.out.size))
    have X6 := hid (Box.new w6 #[.slice a1 n.nodes.length k1, .slice c1 n.pipes.length m1] 34)
    have N6 := hid (hd.at.below (below_new w6 (.cells #[.slice a1 n.nodes.length k1, .slice c1 n.pipes.length m1] 34)))
    have Q6 := hid hd.c1
    clear hd
    obtain ⟨X60, X61⟩ := X6.out.two
    go_wp2_with fail
    refine (impl_PipeLine_any _ _ n r _ N6.out Q6.out (HY.out.below B6.out).tab).mono ?_
    rintro e w7 ⟨rfl, b7⟩
    clear X60 X61
    have B7 := hid (B6.out.trans (b7.mono B6.out.size))
    have X7 := hid (X6.out.below b7)
    have N7 := hid (N6.out.below b7)
    clear b7
    obtain ⟨X70, X71⟩ := X7.out.two
    go_wp2_with fail
    refine (spec_PipeLine_any _ _ n r _ N7.out).mono ?_
    rintro e w8 ⟨rfl, b8⟩
    have B8 := hid (B7.out.trans (b8.mono B7.out.size))
    clear b8 X70 X71
    go_wp2_with fail
    refine (DrawReadNodeLine_any a0 len0 cap0 _ (bytes_at hB.out B8.out)).mono ?_
    rintro e w9 ⟨u, rfl, hu, b9⟩
    have B9 := hid (B8.out.trans (b9.mono B8.out.size))
    clear b9
    have CU1 : Hid (∀ W, Below w.heap.size w W → _) := fun W hW => impl_ReadNodeLine_any u W (by omega) (HY.out.below hW)
    have CU2 : Hid (∀ W : World, _) := fun W => spec_ReadNodeLine_any u W (by omega)
    obtain ⟨z, hz⟩ : ∃ z, (rdNode u.data.toList).getD zN = z := ⟨_, rfl⟩
    obtain ⟨bo, hbo⟩ : ∃ bo, (rdNode u.data.toList).isSome = bo := ⟨_, rfl⟩
    simp only [Hid, rnV, hz, hbo] at CU1 CU2
    replace CU1 := hid CU1
    replace CU2 := hid CU2
    clear hz hbo
    go_wp2_with fail
    refine (CU1.out _ B9.out).mono ?_
    rintro e w10 ⟨rfl, b10⟩
    have B10 := hid (B9.out.trans ((b10.trans ((below_new w10 (.cells #[.string z.name, .int .i64 z.low, .int .i64 z.high] 25)).mono b10.size)).mono B9.out.size))
    have Z1 := hid (Blk3.new w10 (.string z.name) (.int .i64 z.low) (.int .i64 z.high) 25)
    clear b10
    go_wp2_with fail
    refine (CU2.out _).mono ?_
    rintro e w11 ⟨rfl, b11⟩
    have B11 := hid (B10.out.trans ((b11.trans ((below_new w11 (.cells #[.string z.name, .int .i64 z.low, .int .i64 z.high] 25)).mono b11.size)).mono B10.out.size))
    have Z2 := hid (Z1.out.below b11)
    have z11 : w10.heap.size < w11.heap.size := Nat.lt_of_lt_of_le (by simp) b11.size
    clear b11
    obtain ⟨Z20, Z21, Z22, _, _, _⟩ := Z2.out
    cases bo
    all_goals
      go_wp2_with fail
      go_ret
      exact ⟨rfl, B11.out⟩

set_option maxRecDepth 100000 in
theorem lifted (os : Os) (started : os.Started) (H : Type) (enc : TypeId × Value → H) :
    ReturnsInHanded {} Tryz.checked os 3 .any (fun w args => (Rows.fnLinesSpec.pre enc Tryz.prog Tryz.f3 [] false w args ∧ laidMetH Tryz.prog laidF w) ∧ sizedMet enc Tryz.prog Tryz.f3 (OpenSpec.ofChange Rows.fnLinesSpec) false w args) (Rows.fnLinesSpec.post enc Tryz.prog Tryz.f3 false true false false) := by
  refine returns_and_shaped (C := Tryz.checked) (X := fun w _ => laidMetH Tryz.prog laidF w) (fun _ _ _ hh h => h.of_heap hh) own started (by kernel_rfl) Tryz.func3
    (ChangeSpec.witness_shaped (enc := enc) (C := Tryz.checked) (os := os) (X := fun w _ => laidMetH Tryz.prog laidF w) false (World.laidAll Tryz.prog os laidF) #[.slice none 0 0] 8 (World.laidAll_os _ _ _) (World.shaped_of_ZipB (by kernel_rfl) (by kernel_rfl)) (by kernel_rfl) (by kernel_rfl) (by kernel_rfl) (doorF_met os _)) ?_
  intro W base args ds gs before hval0 hW hL hsh
  have hval : ∀ (j : Nat) t v, Tryz.f3.params[j]? = some t → args[j]? = some v → Value.okWide Tryz.prog W .any base t v := hval0
  have hW' := hW
  obtain ⟨p, q, hA0, hV, rfl, hfz, hnd⟩ := hW
  have hA : DataW.TrodAll enc Tryz.prog W 0 (fun _ => true) true Tryz.f3.params.toList args.toList ds p := hA0
  rw [Tryz.params3] at hA hval
  obtain ⟨v0, vs0, d0, ds0, p0, q0, hargs, rfl, rfl, h0, r0⟩ := trodAll_cons hA
  obtain ⟨rfl, rfl, rfl⟩ := trodAll_nil r0
  obtain rfl : args = #[v0] := by cases args; simp_all
  obtain ⟨rfl, rfl⟩ := trodVars_none hV
  obtain ⟨a0, len0, cap0, rfl⟩ := okWide_slice Tryz.underlying22 (hval 0 22 v0 rfl rfl)
  have k0 := h0
  have lt0 : ∀ x ∈ p0, x.block < W.heap.size := by obtain ⟨m, hm⟩ := k0; exact DataW.trod_lt m _ _ _ hm
  obtain ⟨z0, w0⟩ : ∃ zs, IsRow .u8 W a0 len0 cap0 zs := by
    obtain ⟨fuel, hf⟩ := h0
    rcases open_ints Tryz.underlying22 Tryz.underlying5 (by kernel_rfl) hf with ⟨hcs, _⟩ | ⟨x, l, c, zs, hcs, _, hl, hm, hz, _, hcell, hwz⟩
    · simp [Value.cells] at hcs
      obtain ⟨rfl, rfl, rfl⟩ := hcs
      exact ⟨[], .inl ⟨rfl, rfl, rfl, rfl⟩⟩
    · simp [Value.cells] at hcs
      obtain ⟨rfl, rfl, rfl⟩ := hcs
      exact ⟨zs, .inr ⟨_, rfl, hl, hm, by simpa using hz, hcell, hwz⟩⟩
  clear hA0 hval0
  refine (walk a0 len0 cap0 z0 W w0 (lay_of_laidF hsh hL)).mono fun e W' ⟨he, bel⟩ => ?_
  subst he
  exact ⟨_, rfl, _, _, _, [], _, [], hW', trodAll_mk1 (shut_bool Tryz.underlying4 _), (trodAll_cons_mk (Below.trod laidOut (by kernel_rfl) (of_decide_eq_true (by kernel_rfl)) k0 bel lt0) trodAll_mk0), rfl, bel.frame _, fun h => by cases h⟩

theorem row : Rows.FnLinesSaid :=
  OpenClaim.holds_of_wide 3 Tryz.f3 rfl rfl rfl rfl rfl rfl rfl ⟨rfl, rfl, rfl, rfl, rfl⟩ rfl rfl rfl rfl rfl (by kernel_rfl) Tryz.func3 (by kernel_rfl)
    (of_decide_eq_true (by kernel_rfl)) (by unfold Func.isWrapper; first | (rw [if_pos (by decide +kernel)]; kernel_rfl) | (rw [if_neg (by decide +kernel)]; exact ⟨rfl, rfl⟩))
    (fun os started H enc _ => lifted os started H enc)

theorem proved : Rows.FnLinesCardSaid :=
  Claim7.holds_tied_plain_at .later [] [.data, .data, .data, .data, .sentinel, .sentinel, .pinned] true (true, "bb62f8dc656c44ddbfe6a797dadff609f828f0fb47b00d2c27c62061ab8e7b4c") true
    row (fun _ h => by cases h) (by kernel_rfl) (fun _ h => by cases h) fnLines_row_tie rfl ⟨rfl, rfl⟩ (by kernel_rfl) rfl
    (fun f fn hf hfn => by
      obtain rfl : f = 3 := Option.some.inj ((show Tryz.prog.funcNamed "loop.example/g00852/laws.FnLines" = some 3 by kernel_rfl).symm.trans hf) |>.symm
      obtain rfl : fn = Tryz.f3 := (Option.some.inj (Tryz.func3.symm.trans hfn)).symm
      exact ⟨by kernel_rfl, fun j t ht => by
        rw [Tryz.params3] at ht
        have hm : t ∈ [22] := by simpa using Array.mem_of_getElem? ht
        have hall : ([22].all fun u => !Tryz.prog.wantsStandIn u) = true := by kernel_rfl
        exact (show Tryz.prog.wantsStandIn t = false by simpa using List.all_eq_true.1 hall t hm)⟩)
    (by kernel_rfl)
end Go.Proofs.YtdbgncinaacheaaGreatDoor.fnLines
