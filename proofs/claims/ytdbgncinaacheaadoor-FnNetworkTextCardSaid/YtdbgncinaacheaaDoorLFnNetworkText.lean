/- 'FnNetworkText' is proved: the law returns true for every input, where the listed variables of the library read as the library lays them. The frame follows the kit's proof-skeleton. -/
import Derived.Test.YtdbgncinaacheaaDoorRows
import Derived.WalkKit
import Derived.ProofKit
import Derived.OpenShut
import Derived.ShutString
import Derived.ChangeOld
import Derived.Below
import Derived.Test.YtdbgncinaacheaaDoorTied3
import Derived.Test.YtdbgncinaacheaaDoorTie
import Derived.Test.YtdbgncinaacheaaDoorCards
import Derived.SevenTiedAt
import Derived.Test.YtdbgncinaacheaaDoorDrFw
import Derived.Test.YtdbgncinaacheaaDoorFwl
import Derived.Test.YtdbgncinaacheaaDoorLike
namespace Go.Proofs.YtdbgncinaacheaaDoor.fnNetworkText
open Go.ChangeShapes Go.WideShapes Go.ChangeAt Go.RowKit
open Go.ChangeMaps (open_string shut_string)
set_option linter.unusedVariables false

theorem own : ownKnob Tryd.prog.godebug = none := by kernel_rfl
theorem laidOut : laidOutB Tryd.prog = true := by kernel_rfl

/-- A reader's answer, with its network and its flag named. -/
def OutB (w : World) (n : Net) (b : Bool) (e : Ending) (w' : World) : Prop :=
  ∃ nv pv, e = .returned (.tuple #[.agg #[nv, pv], .bool b]) ∧ NetAt w' nv pv n ∧ Below w.heap.size w w'
theorem outB {f : Nat} {args : Array Value} {w : World} {r : Option Net} {n : Net} {b : Bool} (h : Calls Tryd.prog f args w (OutR w r)) (hn : r.getD zNet' = n) (hb : r.isSome = b) : Calls Tryd.prog f args w (OutB w n b) :=
  h.mono fun e w' ⟨nv, pv, he, ha, _, _, hB⟩ => ⟨nv, pv, by rw [he, hb], by rw [← hn]; exact ha.at, hB⟩
/-- What is read back of the text of a network, valid or not. -/
theorem back_net (n : Net) : ∃ (ok : Bool) (x : Net) (k : Int), (rdNet (txN n)).isSome = ok ∧ (rdNet (txN n)).getD zNet' = x ∧ fwA (txN n) = k ∧ fwB (txN n) = 0 ∧ ((tb (txN n)).toList == ([] : List UInt8)) = !ok ∧ (ok = true → x = n ∧ k = -1) := by
  obtain ⟨h1, h2⟩ := fw_txN n
  have h3 := rd_txN n
  by_cases h : netB n = true
  · rw [if_pos h] at h2 h3
    refine ⟨true, n, -1, by rw [h3]; rfl, by rw [h3]; rfl, h2, h1, ?_, fun _ => ⟨rfl, rfl⟩⟩
    exact tb_beq (by rw [txN, if_pos h]; exact netTx_ne h)
  · rw [if_neg h] at h2 h3
    refine ⟨false, zNet', 0, by rw [h3]; rfl, by rw [h3]; rfl, h2, h1, ?_, fun h => by cases h⟩
    exact tb_beq_t (by rw [txN, if_neg h])

set_option maxHeartbeats 1000000 in
theorem walk (a0 : Option Addr) (len0 cap0 : Nat) (z0 : List Int) (w : World) (w0 : IsRow .u8 w a0 len0 cap0 z0) (hy : Lay w) :
    Calls Tryd.prog 13 #[.slice a0 len0 cap0] w fun e w' => e = .returned (.bool true) ∧ Below w.heap.size w w' := by
  have HY := hid hy
  by_cases hl : 4096 < len0
  · go_enter Tryd.func13, Tryd.ntmps13
    go_wp2
    go_ret
    exact ⟨rfl, Below.refl _ _⟩
  have hB := hid (w0.bytes (by omega))
  clear w0 hy
  go_enter Tryd.func13, Tryd.ntmps13
  go_wp2_with (go_at_call 25; go_in)
  refine (DrawNetworkText_any a0 len0 cap0 w hB.out).mono ?_
  rintro e w1 ⟨nv, pv, n, rfl, hd⟩
  clear hB
  obtain ⟨a1, k1, rfl⟩ := hd.at.1.shape
  obtain ⟨c1, m1, rfl⟩ := hd.at.2.2.shape
  have B := hid (hd.bel.alloc hd.bel.size (.cells #[.slice a1 n.nodes.length k1, .slice c1 n.pipes.length m1] 25))
  have X1 := hid (Box.new w1 #[.slice a1 n.nodes.length k1, .slice c1 n.pipes.length m1] 25)
  have N1 := hid (hd.at.below (below_new w1 (.cells #[.slice a1 n.nodes.length k1, .slice c1 n.pipes.length m1] 25)))
  have Q1 := hid hd.c1
  clear hd
  obtain ⟨ok, x, k, hok, hx, hA, hBn, hT, hxn⟩ := back_net n
  have hTl := txN_le n
  have CT1 : Hid (∀ W, Below w.heap.size w W → NetAt W (.slice a1 n.nodes.length k1) (.slice c1 n.pipes.length m1) n → _) := fun W hW hN => impl_NetworkText_any _ _ n W hN Q1.out (HY.out.below hW).tab
  have CT2 : Hid (∀ W, NetAt W (.slice a1 n.nodes.length k1) (.slice c1 n.pipes.length m1) n → _) := fun W hN => spec_NetworkText_any _ _ n W hN
  have CR : Hid (∀ W, Below w.heap.size w W → _) := fun W hW => outB (n := x) (b := ok) (impl_ReadNetwork_any (tb (txN n)) W (by rw [tb_size]; omega) (HY.out.below hW)) (by rw [tb_data, hx]) (by rw [tb_data, hok])
  have CF : Hid (∀ W, Below w.heap.size w W → _) := fun W hW => impl_FirstWrongLine_any (tb (txN n)) W (by rw [tb_size]; omega) (HY.out.below hW)
  simp only [Hid, tb_data, hA, hBn] at CF
  replace CF := hid CF
  obtain ⟨T, hTT⟩ : ∃ T, tb (txN n) = T := ⟨_, rfl⟩
  simp only [Hid, hTT] at CT1 CT2 CR CF
  replace CT1 := hid CT1
  replace CT2 := hid CT2
  replace CR := hid CR
  replace CF := hid CF
  rw [hTT] at hT
  clear hok hx hA hBn hTl hTT
  obtain ⟨X10, X11⟩ := X1.out.two
  go_wp2_with fail
  refine (CT1.out _ B.out N1.out).mono ?_
  rintro e w2 ⟨rfl, b2⟩
  clear X10 X11
  have B := hid (B.out.trans (b2.mono B.out.size))
  have X1 := hid (X1.out.below b2)
  have N1 := hid (N1.out.below b2)
  clear b2
  obtain ⟨X10, X11⟩ := X1.out.two
  go_wp2_with fail
  refine (CT2.out _ N1.out).mono ?_
  rintro e w3 ⟨rfl, b3⟩
  clear X10 X11
  have B := hid (B.out.trans (b3.mono B.out.size))
  have X1 := hid (X1.out.below b3)
  have N1 := hid (N1.out.below b3)
  clear b3
  go_wp2_with fail
  refine (CR.out _ B.out).mono ?_
  rintro e w4 ⟨n2, p2, rfl, o2, b4⟩
  obtain ⟨a2, k2, rfl⟩ := o2.1.shape
  obtain ⟨c2, m2, rfl⟩ := o2.2.2.shape
  have b4' := b4.alloc b4.size (.cells #[.slice a2 x.nodes.length k2, .slice c2 x.pipes.length m2] 25)
  have B := hid (B.out.trans (b4'.mono B.out.size))
  have X1 := hid (X1.out.below b4')
  have N1 := hid (N1.out.below b4')
  have X2 := hid (Box.new w4 #[.slice a2 x.nodes.length k2, .slice c2 x.pipes.length m2] 25)
  have N2 := hid (o2.below (below_new w4 (.cells #[.slice a2 x.nodes.length k2, .slice c2 x.pipes.length m2] 25)))
  clear b4 b4' o2
  go_wp2_with fail
  refine (CF.out _ B.out).mono ?_
  rintro e w5 ⟨rfl, b5⟩
  have B := hid (B.out.trans (b5.mono B.out.size))
  have X1 := hid (X1.out.below b5)
  have N1 := hid (N1.out.below b5)
  have X2 := hid (X2.out.below b5)
  have N2 := hid (N2.out.below b5)
  clear b5
  obtain ⟨X10, X11⟩ := X1.out.two
  obtain ⟨X20, X21⟩ := X2.out.two
  have BZ := hid B.out
  have NZ1 := hid N1.out
  have NZ2 := hid N2.out
  cases ok
  · go_wp2_with fail
    go_ret
    exact ⟨rfl, BZ.out⟩
  · obtain ⟨rfl, rfl⟩ := hxn rfl
    clear hxn
    go_wp2_with fail
    refine (likeNet_t _ _ _ _ _ _ NZ2.out NZ1.out).mono ?_
    rintro e w6 ⟨rfl, b6⟩
    have BZ := hid (BZ.out.trans (b6.mono BZ.out.size))
    clear b6
    go_wp2_with fail
    go_ret
    exact ⟨rfl, BZ.out⟩

set_option maxRecDepth 100000 in
theorem lifted (os : Os) (started : os.Started) (H : Type) (enc : TypeId × Value → H) :
    ReturnsInHanded {} Tryd.checked os 13 .any (fun w args => (Rows.fnNetworkTextSpec.pre enc Tryd.prog Tryd.f13 [] false w args ∧ laidMetH Tryd.prog laidF w) ∧ sizedMet enc Tryd.prog Tryd.f13 (OpenSpec.ofChange Rows.fnNetworkTextSpec) false w args) (Rows.fnNetworkTextSpec.post enc Tryd.prog Tryd.f13 false true false false) := by
  refine returns_and_shaped (C := Tryd.checked) (X := fun w _ => laidMetH Tryd.prog laidF w) (fun _ _ _ hh h => h.of_heap hh) own started (by kernel_rfl) Tryd.func13
    (ChangeSpec.witness_shaped (enc := enc) (C := Tryd.checked) (os := os) (X := fun w _ => laidMetH Tryd.prog laidF w) false (World.laidAll Tryd.prog os laidF) #[.slice none 0 0] 8 (World.laidAll_os _ _ _) (World.shaped_of_ZipB (by kernel_rfl) (by kernel_rfl)) (by kernel_rfl) (by kernel_rfl) (by kernel_rfl) (doorF_met os _)) ?_
  intro W base args ds gs before hval0 hW hL hsh
  have hval : ∀ (j : Nat) t v, Tryd.f13.params[j]? = some t → args[j]? = some v → Value.okWide Tryd.prog W .any base t v := hval0
  have hW' := hW
  obtain ⟨p, q, hA0, hV, rfl, hfz, hnd⟩ := hW
  have hA : DataW.TrodAll enc Tryd.prog W 0 (fun _ => true) true Tryd.f13.params.toList args.toList ds p := hA0
  rw [Tryd.params13] at hA hval
  obtain ⟨v0, vs0, d0, ds0, p0, q0, hargs, rfl, rfl, h0, r0⟩ := trodAll_cons hA
  obtain ⟨rfl, rfl, rfl⟩ := trodAll_nil r0
  obtain rfl : args = #[v0] := by cases args; simp_all
  obtain ⟨rfl, rfl⟩ := trodVars_none hV
  obtain ⟨a0, len0, cap0, rfl⟩ := okWide_slice Tryd.underlying40 (hval 0 40 v0 rfl rfl)
  have k0 := h0
  have lt0 : ∀ x ∈ p0, x.block < W.heap.size := by obtain ⟨m, hm⟩ := k0; exact DataW.trod_lt m _ _ _ hm
  obtain ⟨z0, w0⟩ : ∃ zs, IsRow .u8 W a0 len0 cap0 zs := by
    obtain ⟨fuel, hf⟩ := h0
    rcases open_ints Tryd.underlying40 Tryd.underlying5 (by kernel_rfl) hf with ⟨hcs, _⟩ | ⟨x, l, c, zs, hcs, _, hl, hm, hz, _, hcell, hwz⟩
    · simp [Value.cells] at hcs
      obtain ⟨rfl, rfl, rfl⟩ := hcs
      exact ⟨[], .inl ⟨rfl, rfl, rfl, rfl⟩⟩
    · simp [Value.cells] at hcs
      obtain ⟨rfl, rfl, rfl⟩ := hcs
      exact ⟨zs, .inr ⟨_, rfl, hl, hm, by simpa using hz, hcell, hwz⟩⟩
  clear hA0 hval0
  refine (walk a0 len0 cap0 z0 W w0 (lay_of_laidF hsh hL)).mono fun e W' ⟨he, bel⟩ => ?_
  subst he
  exact ⟨_, rfl, _, _, _, [], _, [], hW', trodAll_mk1 (shut_bool Tryd.underlying4 _), (trodAll_cons_mk (Below.trod laidOut (by kernel_rfl) (of_decide_eq_true (by kernel_rfl)) k0 bel lt0) trodAll_mk0), rfl, bel.frame _, fun h => by cases h⟩

theorem row : Rows.FnNetworkTextSaid :=
  OpenClaim.holds_of_wide 13 Tryd.f13 rfl rfl rfl rfl rfl rfl rfl ⟨rfl, rfl, rfl, rfl, rfl⟩ rfl rfl rfl rfl rfl (by kernel_rfl) Tryd.func13 (by kernel_rfl)
    (of_decide_eq_true (by kernel_rfl)) (by unfold Func.isWrapper; first | (rw [if_pos (by decide +kernel)]; kernel_rfl) | (rw [if_neg (by decide +kernel)]; exact ⟨rfl, rfl⟩))
    (fun os started H enc _ => lifted os started H enc)

theorem proved : Rows.FnNetworkTextCardSaid :=
  Claim7.holds_tied_plain_at .later [] [.data, .data, .data, .data, .sentinel, .sentinel, .pinned] true (true, "1258e6a8963d9642433132aed7ff89507273dc909a22a34a2029c36c120267fa") true
    row (fun _ h => by cases h) (by kernel_rfl) (fun _ h => by cases h) fnNetworkText_row_tie rfl ⟨rfl, rfl⟩ (by kernel_rfl) rfl
    (fun f fn hf hfn => by
      obtain rfl : f = 13 := Option.some.inj ((show Tryd.prog.funcNamed "loop.example/g00852/laws.FnNetworkText" = some 13 by kernel_rfl).symm.trans hf) |>.symm
      obtain rfl : fn = Tryd.f13 := (Option.some.inj (Tryd.func13.symm.trans hfn)).symm
      exact ⟨by kernel_rfl, fun j t ht => by
        rw [Tryd.params13] at ht
        have hm : t ∈ [40] := by simpa using Array.mem_of_getElem? ht
        have hall : ([40].all fun u => !Tryd.prog.wantsStandIn u) = true := by kernel_rfl
        exact (show Tryd.prog.wantsStandIn t = false by simpa using List.all_eq_true.1 hall t hm)⟩)
    (by kernel_rfl)
end Go.Proofs.YtdbgncinaacheaaDoor.fnNetworkText
