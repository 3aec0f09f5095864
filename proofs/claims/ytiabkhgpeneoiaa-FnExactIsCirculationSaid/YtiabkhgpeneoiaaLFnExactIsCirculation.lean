/- 'FnExactIsCirculation' is proved: the law returns true for every input. The frame follows the kit's proof-skeleton. -/
import Derived.Test.YtiabkhgpeneoiaaRows
import Derived.WalkKit
import Derived.ProofKit
import Derived.OpenShut
import Derived.ShutString
import Derived.ChangeOld
import Derived.Below
import Derived.Test.YtiabkhgpeneoiaaOpen
import Derived.Test.YtiabkhgpeneoiaaCirc
import Derived.Test.YtiabkhgpeneoiaaNetEq
import Derived.Test.YtiabkhgpeneoiaaEx
namespace Go.Proofs.Ytiabkhgpeneoiaa.fnExactIsCirculation
open Go.ChangeShapes Go.WideShapes Go.ChangeAt Go.RowKit
open Go.ChangeMaps (open_string shut_string)
open Go.Joins
set_option linter.unusedVariables false

theorem own : ownKnob Try.prog.godebug = none := by kernel_rfl
theorem laidOut : laidOutB Try.prog = true := by kernel_rfl

set_option maxRecDepth 100000 in
theorem open_net {H : Type} {enc : TypeId × Value → H} {W : World} {base : Nat} {v : Value} {d : DataW H} {p : List MemPlace} (hv : Value.okWide Try.prog W .any base 32 v) (h : DataW.Trod enc Try.prog W 0 (fun _ => true) true 32 v d p) :
    ∃ nv pv n, v = .agg #[nv, pv] ∧ NetAt W nv pv n := by
  obtain ⟨v0, v1, y0, y1, m, rfl, _, _, h0, h1⟩ := open_agg2 Try.underlying32 (by kernel_rfl) (by kernel_rfl) hv h
  obtain ⟨ns, hn, hq⟩ := open_rows encN 3 (by decide) (fun _ => rfl) (fun x => x.name.size ≤ 9223372036854775807) Try.underlying29 (by kernel_rfl) (node_cells Try.underlying23 rfl rfl rfl (by kernel_rfl) (by kernel_rfl) (by kernel_rfl) Try.underlying9 Try.underlying2 Try.underlying2) h0
  obtain ⟨ps, hp, _⟩ := open_rows encP 5 (by decide) (fun _ => rfl) (fun _ => True) Try.underlying30 (by kernel_rfl) (pipe_cells Try.underlying100 rfl rfl rfl rfl rfl (by kernel_rfl) (by kernel_rfl) (by kernel_rfl) (by kernel_rfl) (by kernel_rfl) Try.underlying2 Try.underlying2 Try.underlying2 Try.underlying2 Try.underlying2) h1
  exact ⟨v0, v1, ⟨ns, ps⟩, rfl, hn, hq, hp⟩


set_option maxHeartbeats 1000000 in
theorem walk (nv0 pv0 : Value) (n0 : Net) (a1 : Option Addr) (len1 cap1 : Nat) (z1 : List Int) (w : World) (w0 : NetAt w nv0 pv0 n0) (w1 : IsRow .i64 w a1 len1 cap1 z1) :
    Calls Try.prog 9 #[.agg #[nv0, pv0], .slice a1 len1 cap1] w fun e w' => e = .returned (.bool true) ∧ Below w.heap.size w w' := by
  by_cases hl : 1048576 < len1
  · go_enter Try.func9, Try.ntmps9
    go_wp2
    go_ret
    exact ⟨rfl, below_new _ _⟩
  obtain ⟨hI, hI2, _⟩ := w1.ints (by omega)
  generalize z1.take len1 = ws at *
  obtain rfl : len1 = ws.length := hI2.symm
  clear hI2 w1
  have hlI : ¬ ((1048576 : Int) < (ws.length : Int)) := by omega
  by_cases h : (netSz n0 : Int) ≤ 1048576
  case neg =>
    have hr : Hid (szL 1048576 (netSz n0) = -1) := if_neg h
    have NA := w0.below (below_new w (.cells #[nv0, pv0] 32))
    go_enter Try.func9, Try.ntmps9
    go_wp2_with fail
    refine (szNetwork_any nv0 pv0 n0 1048576 _ NA (by omega) (by omega)).mono ?_
    rw [hr.out]
    rintro e w1 ⟨rfl, b1⟩
    have B := (below_new w _).trans (b1.mono (by simp))
    go_wp2_with fail
    go_ret
    exact ⟨rfl, B⟩
  have hr : Hid (szL 1048576 (netSz n0) = 1048576 - netSz n0) := if_pos h
  have hneg : ¬ (1048576 - (netSz n0 : Int) < 0) := by omega
  have hl1 : n0.nodes.length ≤ 2000000 := by unfold netSz at h; omega
  have hl2 : n0.pipes.length ≤ 2000000 := by unfold netSz at h; omega
  obtain ⟨P, hP⟩ : ∃ P, P = cirB n0 ws := ⟨_, rfl⟩
  have HP := hid hP
  clear hP
  have NA := w0.below (below_new w (.cells #[nv0, pv0] 32))
  go_enter Try.func9, Try.ntmps9
  go_wp2_with fail
  refine (szNetwork_any nv0 pv0 n0 1048576 _ NA (by omega) (by omega)).mono ?_
  rw [hr.out]
  rintro e w1 ⟨rfl, b1⟩
  have B := (below_new w _).trans (b1.mono (by simp))
  have bx := (Box.new w _ _).below b1
  clear NA b1
  obtain ⟨c0, c1⟩ := bx.two
  go_wp2_with fail
  refine (toNetwork_any nv0 pv0 n0 _ (w0.below B) hl1 hl2).mono ?_
  rintro e w2 ⟨nv1, pv1, rfl, o1, q1, b2⟩
  clear c0 c1
  have B := B.trans (b2.mono B.size)
  have bx := bx.below b2
  clear b2
  go_wp2_with fail
  refine (toInt64S_any _ ws _ (hI.below B) (by omega)).mono ?_
  rintro e w3 ⟨y0, rfl, Y0, b3⟩
  have B := B.trans (b3.mono B.size)
  have bx := bx.below b3
  have o1 := o1.below b3
  clear b3
  go_wp2_with fail
  refine (spec_IsCirculation_any _ _ _ n0 ws _ o1.at Y0.ints).mono ?_
  rw [← HP.out]
  rintro e w4 ⟨rfl, b4⟩
  have B := B.trans (b4.mono B.size)
  have bx := bx.below b4
  clear b4 o1 q1 Y0
  obtain ⟨c0, c1⟩ := bx.two
  go_wp2_with fail
  refine (toNetwork_any nv0 pv0 n0 _ (w0.below B) hl1 hl2).mono ?_
  rintro e w5 ⟨nv2, pv2, rfl, o2, q2, b5⟩
  clear c0 c1
  obtain ⟨aa2, kk2, rfl⟩ := o2.at.1.shape
  obtain ⟨aa3, kk3, rfl⟩ := o2.at.2.2.shape
  have b5' := (b5.alloc b5.size (.cells #[.slice aa2 n0.nodes.length kk2, .slice aa3 n0.pipes.length kk3] 38))
  have B := B.trans (b5'.mono B.size)
  have bx := bx.below b5'
  have by5 := Box.new w5 #[.slice aa2 n0.nodes.length kk2, .slice aa3 n0.pipes.length kk3] 38
  have NX := o2.at.below (below_new w5 (.cells #[.slice aa2 n0.nodes.length kk2, .slice aa3 n0.pipes.length kk3] 38))
  clear b5 b5' o2
  go_wp2_with fail
  refine (toInt64S_any _ ws _ (hI.below B) (by omega)).mono ?_
  rintro e w6 ⟨x1, rfl, X1, b6⟩
  have B := B.trans (b6.mono B.size)
  have bx := bx.below b6
  have by5 := by5.below b6
  have NX := NX.below b6
  clear b6
  obtain ⟨d0, d1⟩ := by5.two
  obtain ⟨_, xa, xc, rfl, _⟩ := id X1
  go_wp2_with fail
  refine (impl_IsCirculation_any _ _ _ n0 ws _ NX X1.ints q2.1).mono ?_
  rw [← HP.out]
  rintro e w7 ⟨rfl, b7⟩
  clear d0 d1
  have B := B.trans (b7.mono B.size)
  have bx := bx.below b7
  have by5 := by5.below b7
  have NX := NX.below b7
  have X1 := X1.below b7
  clear b7
  obtain ⟨c0, c1⟩ := bx.two
  obtain ⟨d0, d1⟩ := by5.two
  cases P
  all_goals
    go_wp2_with fail
    go_region_with (first
      | (go_at_call 21; refine (toNetwork_any nv0 pv0 n0 _ ((w0.below B).below (Below.refl _ _).drew) hl1 hl2).mono ?_; rintro e w8 ⟨nv6, pv6, rfl, o6, q6, b8⟩; have b8 := below_undrew b8; have NX6 := NX.below b8; obtain ⟨d6, d7⟩ := (by5.below b8).two; have B8 := B.trans (b8.mono B.size); have X8 := X1.below b8; clear c0 c1 d0 d1 q6)
      | (go_at_call 23; refine (eqNetwork_t _ _ nv6 pv6 n0 _ NX6 o6.at).mono ?_; rintro e w9 ⟨rfl, b9⟩))
    all_goals
      have B9 := B8.trans (b9.mono B8.size)
      have X9 := X8.below b9
      go_wp2_with fail
      refine (toInt64S_any _ ws _ (hI.below B9) (by omega)).mono ?_
      rintro e w10 ⟨y2, rfl, Y2, b10⟩
      have B10 := B9.trans (b10.mono B9.size)
      have X10 := X9.below b10
      obtain ⟨_, ya, yc, rfl, _⟩ := id Y2
      go_wp2_with fail
      refine (eqInt64S_t _ _ _ _ X10.ints Y2.ints).mono ?_
      rintro e w11 ⟨rfl, b11⟩
      go_wp2_with fail
      go_ret
      exact ⟨rfl, B10.trans (b11.mono B10.size)⟩

set_option maxRecDepth 100000 in
theorem lifted (os : Os) (started : os.Started) (H : Type) (enc : TypeId × Value → H) :
    ReturnsInHanded {} Try.checked os 9 .any (Rows.fnExactIsCirculationSpec.pre6 enc Try.prog Try.f9 Rows.fnExactIsCirculationRow.domain false) (Rows.fnExactIsCirculationSpec.post enc Try.prog Try.f9 false true false false) := by
  refine returnsInHanded_of_change (C := Try.checked) own started (by kernel_rfl) Try.func9
    (ChangeSpec.witness6 (enc := enc) (C := Try.checked) false ⟨#[], #[.agg #[.slice none 0 0, .slice none 0 0], .slice none 0 0], []⟩ 8 (by kernel_rfl) (by kernel_rfl) (by kernel_rfl) (by kernel_rfl)) ?_
  intro W base args ds gs before hval0 hW hcnd _
  have hval : ∀ (j : Nat) t v, Try.f9.params[j]? = some t → args[j]? = some v → Value.okWide Try.prog W .any base t v := hval0
  have hW' := hW
  obtain ⟨p, q, hA0, hV, rfl, hfz, hnd⟩ := hW
  have hA : DataW.TrodAll enc Try.prog W 0 (fun _ => true) true Try.f9.params.toList args.toList ds p := hA0
  rw [Try.params9] at hA hval
  obtain ⟨v0, vs0, d0, ds0, p0, q0, hargs, rfl, rfl, h0, r0⟩ := trodAll_cons hA
  obtain ⟨v1, vs1, d1, ds1, p1, q1, rfl, rfl, rfl, h1, r1⟩ := trodAll_cons r0
  obtain ⟨rfl, rfl, rfl⟩ := trodAll_nil r1
  obtain rfl : args = #[v0, v1] := by cases args; simp_all
  obtain ⟨rfl, rfl⟩ := trodVars_none hV
  have k0 := h0
  have lt0 : ∀ x ∈ p0, x.block < W.heap.size := by obtain ⟨m, hm⟩ := k0; exact DataW.trod_lt m _ _ _ hm
  obtain ⟨nv0, pv0, n0, rfl, w0⟩ := open_net (hval 0 32 v0 rfl rfl) h0
  obtain ⟨a1, len1, cap1, rfl⟩ := okWide_slice Try.underlying55 (hval 1 55 v1 rfl rfl)
  have k1 := h1
  have lt1 : ∀ x ∈ p1, x.block < W.heap.size := by obtain ⟨m, hm⟩ := k1; exact DataW.trod_lt m _ _ _ hm
  obtain ⟨z1, w1⟩ : ∃ zs, IsRow .i64 W a1 len1 cap1 zs := by
    obtain ⟨fuel, hf⟩ := h1
    rcases open_ints Try.underlying55 Try.underlying2 (by kernel_rfl) hf with ⟨hcs, _⟩ | ⟨x, l, c, zs, hcs, _, hl, hm, hz, _, hcell, hwz⟩
    · simp [Value.cells] at hcs
      obtain ⟨rfl, rfl, rfl⟩ := hcs
      exact ⟨[], .inl ⟨rfl, rfl, rfl, rfl⟩⟩
    · simp [Value.cells] at hcs
      obtain ⟨rfl, rfl, rfl⟩ := hcs
      exact ⟨zs, .inr ⟨_, rfl, hl, hm, by simpa using hz, hcell, hwz⟩⟩
  clear hA0 hval0
  refine (walk nv0 pv0 n0 a1 len1 cap1 z1 W w0 w1).mono fun e W' ⟨he, bel⟩ => ?_
  subst he
  exact ⟨_, rfl, _, _, _, [], _, [], hW', trodAll_mk1 (shut_bool Try.underlying4 _), (trodAll_cons_mk (Below.trod laidOut (by kernel_rfl) (of_decide_eq_true (by kernel_rfl)) k0 bel lt0) (trodAll_cons_mk (Below.trod laidOut (by kernel_rfl) (of_decide_eq_true (by kernel_rfl)) k1 bel lt1) trodAll_mk0)), rfl, bel.frame _, fun h => by cases h⟩

theorem over : Rows.fnExactIsCirculationRow.holds Try.pinned (OpenSpec.ofChange Rows.fnExactIsCirculationSpec) :=
  OpenClaim.holds_of_wide 9 Try.f9 rfl rfl rfl rfl rfl rfl rfl ⟨rfl, rfl, rfl, rfl, rfl⟩ rfl rfl rfl rfl rfl (by kernel_rfl) Try.func9 (by kernel_rfl)
    (of_decide_eq_true (by kernel_rfl)) (by unfold Func.isWrapper; first | (rw [if_pos (by decide +kernel)]; kernel_rfl) | (rw [if_neg (by decide +kernel)]; exact ⟨rfl, rfl⟩))
    (fun os started H enc _ => lifted os started H enc)

theorem proved : Rows.FnExactIsCirculationSaid := over
#print axioms proved
end Go.Proofs.Ytiabkhgpeneoiaa.fnExactIsCirculation
