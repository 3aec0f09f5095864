/- 'FnExactReadNetwork' is proved: the law returns true for every input, where the listed variables of the library read as the library lays them. The frame follows the kit's proof-skeleton. -/
import Derived.Test.YtdbgncinaacheaaDoorRows
import Derived.WalkKit
import Derived.ProofKit
import Derived.OpenShut
import Derived.ShutString
import Derived.ChangeOld
import Derived.Below
import Derived.Test.YtdbgncinaacheaaDoorTied3
import Derived.Test.YtdbgncinaacheaaDoorTie
import Derived.Test.YtdbgncinaacheaaDoorCards
import Derived.SevenTiedAt
import Derived.Test.YtdbgncinaacheaaDoorRnI
import Derived.Test.YtdbgncinaacheaaDoorRnS
import Derived.Test.YtdbgncinaacheaaDoorNetEq
import Derived.Test.YtdbgncinaacheaaDoorHeld
namespace Go.Proofs.YtdbgncinaacheaaDoor.fnExactReadNetwork
open Go.ChangeShapes Go.WideShapes Go.ChangeAt Go.RowKit
open Go.ChangeMaps (open_string shut_string)
set_option linter.unusedVariables false

theorem own : ownKnob Tryd.prog.godebug = none := by kernel_rfl
theorem laidOut : laidOutB Tryd.prog = true := by kernel_rfl

/-- A reader's answer, with its network and its flag named. -/
def OutB (w : World) (n : Net) (b : Bool) (e : Ending) (w' : World) : Prop :=
  ∃ nv pv, e = .returned (.tuple #[.agg #[nv, pv], .bool b]) ∧ NetApart w.heap.size w'.heap.size w' nv pv n ∧ Below w.heap.size w w'
theorem outB {f : Nat} {args : Array Value} {w : World} {r : Option Net} {n : Net} {b : Bool} (h : Calls Tryd.prog f args w (OutR w r)) (hn : r.getD zNet' = n) (hb : r.isSome = b) : Calls Tryd.prog f args w (OutB w n b) :=
  h.mono fun e w' ⟨nv, pv, he, ha, _, _, hB⟩ => ⟨nv, pv, by rw [he, hb], by rw [← hn]; exact ha, hB⟩
theorem rdNet_len (s : Txt) : ((rdNet s).getD zNet').nodes.length ≤ 2000000 ∧ ((rdNet s).getD zNet').pipes.length ≤ 2000000 := by
  cases h : rdNet s with
  | none => simp [zNet']
  | some n =>
    have h1 := netB_t (rdNet_t h).1
    simp only [Option.getD_some]
    omega

set_option maxHeartbeats 1000000 in
theorem walk (s0 : ByteArray) (w : World) (w0 : s0.size ≤ 9223372036854775807) (hy : Lay w) :
    Calls Tryd.prog 3 #[.string s0] w fun e w' => e = .returned (.bool true) ∧ Below w.heap.size w w' := by
  have HY := hid hy
  by_cases hl : (s0.size : Int) ≤ 1048576
  · obtain ⟨N, hN⟩ : ∃ N, (rdNet s0.data.toList).getD zNet' = N := ⟨_, rfl⟩
    obtain ⟨ok, hok⟩ : ∃ ok, (rdNet s0.data.toList).isSome = ok := ⟨_, rfl⟩
    have hq := rdNet_len s0.data.toList
    rw [hN] at hq
    obtain ⟨hq1, hq2⟩ := hq
    have C1 := outB (spec_ReadNetwork_any s0 w (by omega)) hN hok
    have C2 : Hid (∀ W, Below w.heap.size w W → _) := fun W hW => outB (impl_ReadNetwork_any s0 W (by omega) (HY.out.below hW)) hN hok
    have hk1 : ¬ (((mkEnd 1 N : Nat) : Int) < 0) := by omega
    clear hN hok
    cases ok
    all_goals
      go_enter Tryd.func3, Tryd.ntmps3
      go_wp2_with fail
      refine C1.mono ?_
      rintro e w3 ⟨rnw, rpw, rfl, W0, b3⟩
      obtain ⟨wa, wc, rfl⟩ := W0.at.1.shape
      obtain ⟨wb, wd, rfl⟩ := W0.at.2.2.shape
      have B := (b3.alloc b3.size (.cells #[.slice wa N.nodes.length wc, .slice wb N.pipes.length wd] 25))
      have byw := Box.new w3 #[.slice wa N.nodes.length wc, .slice wb N.pipes.length wd] 25
      have W0 := W0.below (below_new w3 (.cells #[.slice wa N.nodes.length wc, .slice wb N.pipes.length wd] 25))
      have z3 := b3.size
      clear b3 C1
      go_wp2_with fail
      refine (C2.out _ B).mono ?_
      rintro e w5 ⟨rng, rpg, rfl, G0, b5⟩
      obtain ⟨ga, gc, rfl⟩ := G0.at.1.shape
      obtain ⟨gb, gd, rfl⟩ := G0.at.2.2.shape
      have b5' := (b5.alloc b5.size (.cells #[.slice ga N.nodes.length gc, .slice gb N.pipes.length gd] 25))
      have B := B.trans (b5'.mono B.size)
      have byw := byw.below b5'
      have W0 := W0.below b5'
      have byg := Box.new w5 #[.slice ga N.nodes.length gc, .slice gb N.pipes.length gd] 25
      have G0 := G0.below (below_new w5 (.cells #[.slice ga N.nodes.length gc, .slice gb N.pipes.length gd] 25))
      have z5 := b5.size
      simp only [World.size_alloc] at z5
      clear b5 b5'
      obtain ⟨d0, d1⟩ := byg.two
      obtain ⟨e0, e1⟩ := byw.two
      go_wp2_with fail
      refine (eqNetwork_t _ _ _ _ N _ G0.at W0.at).mono ?_
      rintro e w6 ⟨rfl, b6⟩
      clear d0 d1 e0 e1
      have B := B.trans (b6.mono B.size)
      have byw := byw.below b6
      have byg := byg.below b6
      have W0 := W0.below b6
      have G0 := G0.below b6
      have z6 := b6.size
      simp only [World.size_alloc] at z6
      clear b6
      obtain ⟨d0, d1⟩ := byg.two
      go_wp2_with fail
      refine (markNetwork_apart _ _ _ _ N 1 _ G0 (by omega) (by omega) hq1 hq2 (by omega)).mono ?_
      rintro e w11 ⟨rfl, M1, M2, k11⟩
      have z11 := k11.size
      clear d0 d1 G0
      simp only [World.size_alloc] at k11
      have byw := byw.kept k11 (by omega)
      have byg := byg.kept k11 (by omega)
      have W0 := W0.kept k11 (fun b h1 h2 hx => by omega)
      have B := B.trans (k11.below (B := w.heap.size) B.size (fun k hx => by omega))
      clear k11
      obtain ⟨d0, d1⟩ := byg.two
      go_wp2_with fail
      refine (heldNetwork_any _ _ N 1 _ M1.at M2.at (by omega) hq1 hq2 (by omega)).mono ?_
      rintro e w12 ⟨rfl, b12⟩
      clear d0 d1
      have B := B.trans (b12.mono B.size)
      have byw := byw.below b12
      have byg := byg.below b12
      have W0 := W0.below b12
      have M1 := M1.below b12
      have M2 := M2.below b12
      clear b12
      go_wp2_with fail
      refine (C2.out _ B).mono ?_
      rintro e w14 ⟨rnh, rph, rfl, H0, b14⟩
      obtain ⟨ha, hc, rfl⟩ := H0.at.1.shape
      obtain ⟨hb, hd, rfl⟩ := H0.at.2.2.shape
      have b14' := (b14.alloc b14.size (.cells #[.slice ha N.nodes.length hc, .slice hb N.pipes.length hd] 25))
      have B := B.trans (b14'.mono B.size)
      have byw := byw.below b14'
      have byg := byg.below b14'
      have W0 := W0.below b14'
      have M1 := M1.below b14'
      have M2 := M2.below b14'
      have byh := Box.new w14 #[.slice ha N.nodes.length hc, .slice hb N.pipes.length hd] 25
      have H0 := H0.below (below_new w14 (.cells #[.slice ha N.nodes.length hc, .slice hb N.pipes.length hd] 25))
      clear b14 b14'
      obtain ⟨d0, d1⟩ := byh.two
      obtain ⟨e0, e1⟩ := byw.two
      go_wp2_with fail
      refine (eqNetwork_t _ _ _ _ N _ H0.at W0.at).mono ?_
      rintro e w15 ⟨rfl, b15⟩
      clear d0 d1 e0 e1
      have B := B.trans (b15.mono B.size)
      have byg := byg.below b15
      have M1 := M1.below b15
      have M2 := M2.below b15
      clear b15
      obtain ⟨d0, d1⟩ := byg.two
      go_wp2_with fail
      refine (heldNetwork_any _ _ N 1 _ M1.at M2.at (by omega) hq1 hq2 (by omega)).mono ?_
      rintro e w16 ⟨rfl, b16⟩
      have B := B.trans (b16.mono B.size)
      clear b16 d0 d1
      go_wp2_with fail
      go_ret
      exact ⟨rfl, B⟩
  · go_enter Tryd.func3, Tryd.ntmps3
    go_wp2_with fail
    go_ret
    exact ⟨rfl, Below.refl _ _⟩

set_option maxRecDepth 100000 in
theorem lifted (os : Os) (started : os.Started) (H : Type) (enc : TypeId × Value → H) :
    ReturnsInHanded {} Tryd.checked os 3 .any (fun w args => (Rows.fnExactReadNetworkSpec.pre enc Tryd.prog Tryd.f3 [] false w args ∧ laidMetH Tryd.prog laidF w) ∧ sizedMet enc Tryd.prog Tryd.f3 (OpenSpec.ofChange Rows.fnExactReadNetworkSpec) false w args) (Rows.fnExactReadNetworkSpec.post enc Tryd.prog Tryd.f3 false true false false) := by
  refine returns_and_shaped (C := Tryd.checked) (X := fun w _ => laidMetH Tryd.prog laidF w) (fun _ _ _ hh h => h.of_heap hh) own started (by kernel_rfl) Tryd.func3
    (ChangeSpec.witness_shaped (enc := enc) (C := Tryd.checked) (os := os) (X := fun w _ => laidMetH Tryd.prog laidF w) false (World.laidAll Tryd.prog os laidF) #[.string ByteArray.empty] 8 (World.laidAll_os _ _ _) (World.shaped_of_ZipB (by kernel_rfl) (by kernel_rfl)) (by kernel_rfl) (by kernel_rfl) (by kernel_rfl) (doorF_met os _)) ?_
  intro W base args ds gs before hval0 hW hL hsh
  have hval : ∀ (j : Nat) t v, Tryd.f3.params[j]? = some t → args[j]? = some v → Value.okWide Tryd.prog W .any base t v := hval0
  have hW' := hW
  obtain ⟨p, q, hA0, hV, rfl, hfz, hnd⟩ := hW
  have hA : DataW.TrodAll enc Tryd.prog W 0 (fun _ => true) true Tryd.f3.params.toList args.toList ds p := hA0
  rw [Tryd.params3] at hA hval
  obtain ⟨v0, vs0, d0, ds0, p0, q0, hargs, rfl, rfl, h0, r0⟩ := trodAll_cons hA
  obtain ⟨rfl, rfl, rfl⟩ := trodAll_nil r0
  obtain rfl : args = #[v0] := by cases args; simp_all
  obtain ⟨rfl, rfl⟩ := trodVars_none hV
  obtain ⟨s0, rfl, rfl, rfl, w0⟩ := open_string Tryd.underlying9 (hval 0 9 v0 rfl rfl) h0
  clear hA0 hval0
  refine (walk s0 W (by unfold maxLen at w0; omega) (lay_of_laidF hsh hL)).mono fun e W' ⟨he, bel⟩ => ?_
  subst he
  exact ⟨_, rfl, _, _, _, [], _, [], hW', trodAll_mk1 (shut_bool Tryd.underlying4 _), (trodAll_cons_mk (shut_string Tryd.underlying9 w0) trodAll_mk0), rfl, bel.frame _, fun h => by cases h⟩

theorem row : Rows.FnExactReadNetworkSaid :=
  OpenClaim.holds_of_wide 3 Tryd.f3 rfl rfl rfl rfl rfl rfl rfl ⟨rfl, rfl, rfl, rfl, rfl⟩ rfl rfl rfl rfl rfl (by kernel_rfl) Tryd.func3 (by kernel_rfl)
    (of_decide_eq_true (by kernel_rfl)) (by unfold Func.isWrapper; first | (rw [if_pos (by decide +kernel)]; kernel_rfl) | (rw [if_neg (by decide +kernel)]; exact ⟨rfl, rfl⟩))
    (fun os started H enc _ => lifted os started H enc)

theorem proved : Rows.FnExactReadNetworkCardSaid :=
  Claim7.holds_tied_plain_at .later [] [.data, .data, .data, .data, .sentinel, .sentinel, .pinned] true (true, "1258e6a8963d9642433132aed7ff89507273dc909a22a34a2029c36c120267fa") true
    row (fun _ h => by cases h) (by kernel_rfl) (fun _ h => by cases h) fnExactReadNetwork_row_tie rfl ⟨rfl, rfl⟩ (by kernel_rfl) rfl
    (fun f fn hf hfn => by
      obtain rfl : f = 3 := Option.some.inj ((show Tryd.prog.funcNamed "loop.example/g00852/laws.FnExactReadNetwork" = some 3 by kernel_rfl).symm.trans hf) |>.symm
      obtain rfl : fn = Tryd.f3 := (Option.some.inj (Tryd.func3.symm.trans hfn)).symm
      exact ⟨by kernel_rfl, fun j t ht => by
        rw [Tryd.params3] at ht
        have hm : t ∈ [9] := by simpa using Array.mem_of_getElem? ht
        have hall : ([9].all fun u => !Tryd.prog.wantsStandIn u) = true := by kernel_rfl
        exact (show Tryd.prog.wantsStandIn t = false by simpa using List.all_eq_true.1 hall t hm)⟩)
    (by kernel_rfl)
end Go.Proofs.YtdbgncinaacheaaDoor.fnExactReadNetwork
