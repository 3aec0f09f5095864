/- 'FnShortestPaths' is proved: the law returns true for every input. The frame follows the kit's proof-skeleton. -/
import Derived.Test.YtdapdaadglaoiaaRows
import Derived.WalkKit
import Derived.ProofKit
import Derived.OpenShut
import Derived.ShutString
import Derived.ChangeOld
import Derived.Below
import Derived.Test.YtdapdaadglaoiaaDrI
import Derived.Test.YtdapdaadglaoiaaLawT
import Derived.Test.YtdapdaadglaoiaaLawP
import Derived.Test.YtdapdaadglaoiaaLike2
import Derived.Test.YtdapdaadglaoiaaPathS
import Derived.Test.YtdapdaadglaoiaaPathA
namespace Go.Proofs.Ytdapdaadglaoiaa.fnShortestPaths
open Go.ChangeShapes Go.WideShapes Go.ChangeAt Go.RowKit
open Go.ChangeMaps (open_string shut_string)
set_option linter.unusedVariables false

theorem own : ownKnob Try.prog.godebug = none := by kernel_rfl
theorem laidOut : laidOutB Try.prog = true := by kernel_rfl

def ShRel (n : Net) (v : Int) (L : List Int) (W : World) (i y : Value) (wr : World) : Prop := ∃ k : Nat, i = .int .i64 k ∧ y = .int .i64 (atK n v L k) ∧ k ≤ L.length ∧ Below W.heap.size W wr

set_option maxHeartbeats 1000000 in
theorem walk (a0 : Option Addr) (len0 cap0 : Nat) (z0 : List Int) (w : World) (w0 : IsRow .u8 w a0 len0 cap0 z0) :
    Calls Try.prog 16 #[.slice a0 len0 cap0] w fun e w' => e = .returned (.bool true) ∧ Below w.heap.size w w' := by
  by_cases hl : 4096 < len0
  · go_enter Try.func16, Try.ntmps16
    go_wp2
    go_ret
    exact ⟨rfl, Below.refl _ _⟩
  have hB := hid (w0.bytes (by omega))
  clear w0
  go_enter Try.func16, Try.ntmps16
  go_wp2_with (go_at_call 18; go_in)
  refine (DrawShortestPath_any a0 len0 cap0 w hB.out).mono ?_
  rintro e w1 ⟨nv, pv, n, v, u, rfl, hd⟩
  clear hB
  obtain ⟨a1, k1, rfl⟩ := hd.at.1.shape
  obtain ⟨c1, m1, rfl⟩ := hd.at.2.2.shape
  have B := hid (hd.bel.alloc hd.bel.size (.cells #[.slice a1 n.nodes.length k1, .slice c1 n.pipes.length m1] 27))
  have X1 := hid (Box.new w1 #[.slice a1 n.nodes.length k1, .slice c1 n.pipes.length m1] 27)
  have N1 := hid (hd.at.below (below_new w1 (.cells #[.slice a1 n.nodes.length k1, .slice c1 n.pipes.length m1] 27)))
  have Q1 := hid hd.c1
  have l1 := hd.l1
  have l2 := hd.l2
  clear hd
  obtain ⟨L, c, hLc⟩ : ∃ L c, spR n v u = (L, c) := ⟨_, _, rfl⟩
  have E1 := hid hLc
  obtain ⟨X10, X11⟩ := X1.out.two
  go_wp2_with fail
  refine (OutI.eq (impl_ShortestPath_any _ _ n v u _ N1.out Q1.out) E1.out).mono ?_
  rintro e w2 ⟨r2, rfl, o2, b2⟩
  clear X10 X11
  have B := hid (B.out.trans (b2.mono B.out.size))
  have X1 := hid (X1.out.below b2)
  have N1 := hid (N1.out.below b2)
  have S2 := hid o2
  clear b2 o2
  obtain ⟨X10, X11⟩ := X1.out.two
  go_wp2_with fail
  refine (OutI.eq (spec_ShortestPath_any _ _ n v u _ N1.out) E1.out).mono ?_
  rintro e w3 ⟨r3, rfl, o3, b3⟩
  clear X10 X11
  have B := hid (B.out.trans (b3.mono B.out.size))
  have X1 := hid (X1.out.below b3)
  have N1 := hid (N1.out.below b3)
  have S2 := hid (S2.out.below b3)
  obtain ⟨_, ra, rc, hr2, _⟩ := id S2.out
  subst hr2
  have S3 := hid o3
  clear b3 o3
  go_wp2_with fail
  refine (likeInts_t _ _ L _ S2.out.ints S3.out.ints).mono ?_
  rintro e w4 ⟨rfl, b4⟩
  have B := hid (B.out.trans (b4.mono B.out.size))
  have X1 := hid (X1.out.below b4)
  have N1 := hid (N1.out.below b4)
  have S2 := hid (S2.out.below b4)
  clear b4 S3
  by_cases h0 : c = 0
  case neg =>
    have hc0 : (c != 0) = true := by simpa using h0
    clear hLc
    go_wp2_with fail
    go_ret
    exact ⟨rfl, B.out⟩
  subst h0
  have hcn : codeNs n [v, u] = 0 ∧ ¬ (srch n v).dist.getD u.toNat 0 < 0 ∧ pathOf n v u = L := by
    unfold spR at hLc
    split at hLc
    · next h1 =>
      split at hLc
      · simp at hLc
      · next h2 => exact ⟨h1, h2, (Prod.mk.inj hLc).1⟩
    · next h1 => simp only [Prod.mk.injEq] at hLc; exact absurd hLc.2 h1
  obtain ⟨hcn, hneg, hL⟩ := hcn
  obtain ⟨hb, v0, v1, u0, u1⟩ := codeNs_two hcn
  have g := good_srch hb v0 v1
  obtain ⟨x, rfl⟩ : ∃ x : Nat, u = x := ⟨u.toNat, by omega⟩
  obtain ⟨d, hd⟩ : ∃ d : Nat, (srch n v).dist.getD x 0 = d := ⟨((srch n v).dist.getD x 0).toNat, by rw [Int.toNat_natCast] at hneg; omega⟩
  have hxo : (x : Int) ∈ (srch n v).order := (g.mem x u0 u1).1 (by rw [Int.toNat_natCast, hd]; omega)
  have hPd : (pb n (srch n v) d x).reverse = L := by rw [← hL]; unfold pathOf; rw [Int.toNat_natCast, hd, Int.toNat_natCast]
  have hLl : L.length = d := by rw [← hPd]; simp [pb_len]
  have hok := path_ok hb g d x hxo hd
  rw [hPd, ← hLl] at hok
  obtain ⟨hend, hok⟩ := hok
  have HE : Hid (atK n v L L.length = x) := hend
  have HOK := hid hok
  have hdl : d ≤ 100 := by have h1 := g.hi x; have h2 := g.le_nodes; omega
  have HCN : Hid (codeNs n [v] = 0) := by
    have := inB_mk (n := v) (lo := 0) (hi := (n.nodes.length : Int) - 1) (by omega) (by omega)
    unfold Hid codeNs
    simp [hb, this]
  obtain ⟨F, hF⟩ : ∃ F, efR n v = (F, 0) := ⟨_, by rw [efR, if_pos HCN.out]⟩
  have E2 := hid hF
  clear hLc hcn hL g hb hd hPd hend hok hxo hF hneg
  obtain ⟨X10, X11⟩ := X1.out.two
  have h00 : atK n v L 0 = v := rfl
  have H00 := hid h00
  clear h00
  go_wp2_with fail
  clear X10 X11
  go_loopw [11, 10] (fun i y wr => ShRel n v L w4 i y wr) (fun i _ _ => L.length - (intOf i).toNat)
  case atStart => exact ⟨0, rfl, by rw [H00.out], by omega, Below.refl _ _⟩
  case round =>
    obtain ⟨k, rfl, rfl, hk, hbel⟩ := hrel
    have B := hid (B.out.trans (hbel.mono B.out.size))
    have X1 := hid (X1.out.below hbel)
    have N1 := hid (N1.out.below hbel)
    have S2 := hid (S2.out.below hbel)
    have HBL := hid hbel
    obtain ⟨y0, y1, hst⟩ := HOK.out k hk
    obtain ⟨A, hA⟩ : ∃ A, atK n v L k = A := ⟨_, rfl⟩
    rw [hA] at y0 y1 hst ⊢
    clear hbel
    by_cases hlt : k < L.length
    · have hltI : (k : Int) < L.length := by omega
      obtain ⟨s1, s2⟩ := hst hlt
      have hgd : L.getD k 0 = L[k] := by simp [List.getD, hlt]
      rw [hgd] at s1 s2
      have S1 := hid s1
      have SS2 := hid s2
      obtain ⟨db, doff, rfl, hdb, hdbl, _, hdc⟩ := S2.out.at (by omega)
      have q0 := hdc k hlt
      obtain ⟨Z, hZ⟩ : ∃ Z, L[k] = Z := ⟨_, rfl⟩
      rw [hZ] at q0 S1 SS2
      obtain ⟨X10, X11⟩ := X1.out.two
      have zx := X1.out.1
      have NP := N1
      clear hdc hst hgd s1 s2 hZ hA
      go_wp2_with fail
      have KP : Hid (∀ W, Below wr.heap.size wr W → W.cell? ⟨w1.heap.size, 0, none⟩ = some (.slice a1 n.nodes.length k1) ∧ W.cell? ⟨w1.heap.size, 1, none⟩ = some (.slice c1 n.pipes.length m1) ∧ W.cell? ⟨db, doff + k, none⟩ = some (.int .i64 Z)) := fun W hW =>
        ⟨(hW.cell (p := ⟨w1.heap.size, 0, none⟩) zx).trans X10, (hW.cell (p := ⟨w1.heap.size, 1, none⟩) zx).trans X11, (hW.cell (p := ⟨db, doff + k, none⟩) hdbl).trans q0⟩
      go_region_held3 (fun W => W.cell? ⟨w1.heap.size, 0, none⟩ = some (.slice a1 n.nodes.length k1) ∧ W.cell? ⟨w1.heap.size, 1, none⟩ = some (.slice c1 n.pipes.length m1) ∧ W.cell? ⟨db, doff + k, none⟩ = some (.int .i64 Z))
        (first | exact KP.out _ (Below.refl _ _).drew | exact KP.out _ b5)
        (first
          | (go_at_call 20; refine (impl_OtherEnd_any _ _ n Z A _ (NP.out.below (Below.refl _ _).drew) Q1.out).mono ?_; rw [SS2.out, S1.out]; rintro e w5 ⟨rfl, b5⟩; have b5 := below_undrew b5))
      all_goals
        have HBL5 := hid (HBL.out.trans (b5.mono HBL.out.size))
        clear b5 KP X10 X11 q0
        go_wp2_with fail
        go_roundw
        case rel => exact ⟨k + 1, by go_num, rfl, by omega, HBL5.out⟩
        case measure => simp [intOf]; omega
    · obtain rfl : k = L.length := by omega
      rw [HE.out] at hA
      subst hA
      obtain ⟨X10, X11⟩ := X1.out.two
      clear hst y0 y1 HBL
      go_wp2_with fail
      refine (OutI.eq (impl_EntriesFrom_any _ _ n v _ N1.out Q1.out) E2.out).mono ?_
      rintro e w5 ⟨r5, rfl, o5, b5⟩
      clear X10 X11
      have B := hid (B.out.trans (b5.mono B.out.size))
      have X1 := hid (X1.out.below b5)
      have N1 := hid (N1.out.below b5)
      have S5 := hid o5
      clear b5 o5
      obtain ⟨X10, X11⟩ := X1.out.two
      go_wp2_with fail
      refine (OutI.eq (spec_EntriesFrom_any _ _ n v _ N1.out) E2.out).mono ?_
      rintro e w6 ⟨r6, rfl, o6, b6⟩
      clear X10 X11
      have B := hid (B.out.trans (b6.mono B.out.size))
      have S5 := hid (S5.out.below b6)
      have S6 := hid o6
      clear b6 o6
      go_wp2_with fail
      refine (likeInts_t _ _ F _ S5.out.ints S6.out.ints).mono ?_
      rintro e w7 ⟨rfl, b7⟩
      have B := hid (B.out.trans (b7.mono B.out.size))
      clear b7
      go_wp2_with fail
      go_ret
      exact ⟨rfl, B.out⟩

set_option maxRecDepth 100000 in
theorem lifted (os : Os) (started : os.Started) (H : Type) (enc : TypeId × Value → H) :
    ReturnsInHanded {} Try.checked os 16 .any (Rows.fnShortestPathsSpec.pre6 enc Try.prog Try.f16 Rows.fnShortestPathsRow.domain false) (Rows.fnShortestPathsSpec.post enc Try.prog Try.f16 false true false false) := by
  refine returnsInHanded_of_change (C := Try.checked) own started (by kernel_rfl) Try.func16
    (ChangeSpec.witness6 (enc := enc) (C := Try.checked) false ⟨#[], #[.slice none 0 0], []⟩ 8 (by kernel_rfl) (by kernel_rfl) (by kernel_rfl) (by kernel_rfl)) ?_
  intro W base args ds gs before hval0 hW hcnd _
  have hval : ∀ (j : Nat) t v, Try.f16.params[j]? = some t → args[j]? = some v → Value.okWide Try.prog W .any base t v := hval0
  have hW' := hW
  obtain ⟨p, q, hA0, hV, rfl, hfz, hnd⟩ := hW
  have hA : DataW.TrodAll enc Try.prog W 0 (fun _ => true) true Try.f16.params.toList args.toList ds p := hA0
  rw [Try.params16] at hA hval
  obtain ⟨v0, vs0, d0, ds0, p0, q0, hargs, rfl, rfl, h0, r0⟩ := trodAll_cons hA
  obtain ⟨rfl, rfl, rfl⟩ := trodAll_nil r0
  obtain rfl : args = #[v0] := by cases args; simp_all
  obtain ⟨rfl, rfl⟩ := trodVars_none hV
  obtain ⟨a0, len0, cap0, rfl⟩ := okWide_slice Try.underlying22 (hval 0 22 v0 rfl rfl)
  have k0 := h0
  have lt0 : ∀ x ∈ p0, x.block < W.heap.size := by obtain ⟨m, hm⟩ := k0; exact DataW.trod_lt m _ _ _ hm
  obtain ⟨z0, w0⟩ : ∃ zs, IsRow .u8 W a0 len0 cap0 zs := by
    obtain ⟨fuel, hf⟩ := h0
    rcases open_ints Try.underlying22 Try.underlying5 (by kernel_rfl) hf with ⟨hcs, _⟩ | ⟨x, l, c, zs, hcs, _, hl, hm, hz, _, hcell, hwz⟩
    · simp [Value.cells] at hcs
      obtain ⟨rfl, rfl, rfl⟩ := hcs
      exact ⟨[], .inl ⟨rfl, rfl, rfl, rfl⟩⟩
    · simp [Value.cells] at hcs
      obtain ⟨rfl, rfl, rfl⟩ := hcs
      exact ⟨zs, .inr ⟨_, rfl, hl, hm, by simpa using hz, hcell, hwz⟩⟩
  clear hA0 hval0
  refine (walk a0 len0 cap0 z0 W w0).mono fun e W' ⟨he, bel⟩ => ?_
  subst he
  exact ⟨_, rfl, _, _, _, [], _, [], hW', trodAll_mk1 (shut_bool Try.underlying4 _), (trodAll_cons_mk (Below.trod laidOut (by kernel_rfl) (of_decide_eq_true (by kernel_rfl)) k0 bel lt0) trodAll_mk0), rfl, bel.frame _, fun h => by cases h⟩

theorem cThree : ((Rows.fnShortestPathsRow.lifted == Try.prog.liftsFinal) && (Try.prog.make == some Rows.fnShortestPathsRow.make) && Try.prog.mayEnter) = true := by kernel_rfl
theorem cAll : ((Rows.fnShortestPathsRow.lifted == Try.prog.liftsFinal) = true ∧ (Try.prog.make == some Rows.fnShortestPathsRow.make) = true) ∧ Try.prog.mayEnter = true := by
  have h := cThree
  simp only [Bool.and_eq_true] at h
  exact h
set_option maxHeartbeats 100000000 in
theorem closed : joinedFacts Try.prog 16 Try.f16 Rows.fnShortestPathsSpec Rows.fnShortestPathsRow = true := by
  unfold joinedFacts
  simp only [Bool.and_eq_true]
  repeat' apply And.intro
  all_goals first | with_reducible exact cAll.1.1 | with_reducible exact cAll.1.2 | with_reducible exact cAll.2 | (as_aux_lemma => kernel_rfl)

theorem over : Rows.fnShortestPathsRow.holds Try.pinned (OpenSpec.ofChange Rows.fnShortestPathsSpec) :=
  OpenClaim.holds_of_wide 16 Try.f16 rfl rfl rfl rfl rfl rfl rfl ⟨rfl, rfl, rfl, rfl, rfl⟩ rfl rfl rfl rfl rfl (by kernel_rfl) Try.func16 closed
    (of_decide_eq_true (by kernel_rfl)) (by unfold Func.isWrapper; first | (rw [if_pos (by decide +kernel)]; kernel_rfl) | (rw [if_neg (by decide +kernel)]; exact ⟨rfl, rfl⟩))
    (fun os started H enc _ => lifted os started H enc)

theorem proved : Rows.FnShortestPathsSaid := over
#print axioms proved
end Go.Proofs.Ytdapdaadglaoiaa.fnShortestPaths
