/- 'FnDistances' is proved: the law returns true for every input. The frame follows the kit's proof-skeleton. -/
import Derived.Test.YtdapdaadglaoiaaRows
import Derived.WalkKit
import Derived.ProofKit
import Derived.OpenShut
import Derived.ShutString
import Derived.ChangeOld
import Derived.Below
import Derived.Test.YtdapdaadglaoiaaDrI
import Derived.Test.YtdapdaadglaoiaaLawT
import Derived.Test.YtdapdaadglaoiaaLike2
import Derived.Test.YtdapdaadglaoiaaPathS
import Derived.Test.YtdapdaadglaoiaaDice
import Derived.Test.YtdapdaadglaoiaaBfs
import Derived.Test.YtdapdaadglaoiaaPathA
namespace Go.Proofs.Ytdapdaadglaoiaa.fnDistances
open Go.ChangeShapes Go.WideShapes Go.ChangeAt Go.RowKit
open Go.ChangeMaps (open_string shut_string)
set_option linter.unusedVariables false

theorem own : ownKnob Try.prog.godebug = none := by kernel_rfl
theorem laidOut : laidOutB Try.prog = true := by kernel_rfl

theorem size_any (x : Int) (w : World) (h : -1000 ≤ x) (h2 : x ≤ 1000) : Calls Try.prog 75 #[.int .i64 x] w fun e w' => e = .returned (.int .i64 (max x (-x))) ∧ w = w' := by
  go_enter Try.func75, Try.ntmps75
  go_wp2
  go_ret
  exact ⟨rfl, rfl⟩
theorem codeNs_two_mk {n : Net} {a b : Int} (h : codeNs n [a] = 0) (h0 : 0 ≤ b) (h1 : b < n.nodes.length) : codeNs n [a, b] = 0 := by
  obtain ⟨hb, v0, v1⟩ := codeNs_one h
  have e1 : inB a 0 ((n.nodes.length : Int) - 1) = true := inB_mk (by omega) (by omega)
  have e2 : inB b 0 ((n.nodes.length : Int) - 1) = true := inB_mk (by omega) (by omega)
  unfold codeNs
  simp [hb, e1, e2]
def DiRel (m : Nat) (W : World) (i : Value) (wr : World) : Prop := ∃ k j : Nat, i = .int .i64 k ∧ k ≤ m ∧ wr = W.drewN j

set_option maxHeartbeats 1000000 in
theorem walk (a0 : Option Addr) (len0 cap0 : Nat) (z0 : List Int) (w : World) (w0 : IsRow .u8 w a0 len0 cap0 z0) :
    Calls Try.prog 15 #[.slice a0 len0 cap0] w fun e w' => e = .returned (.bool true) ∧ Below w.heap.size w w' := by
  by_cases hl : 4096 < len0
  · go_enter Try.func15, Try.ntmps15
    go_wp2
    go_ret
    exact ⟨rfl, Below.refl _ _⟩
  have hB := hid (w0.bytes (by omega))
  clear w0
  go_enter Try.func15, Try.ntmps15
  go_wp2_with (go_at_call 18; go_in)
  refine (DrawDistancesFrom_any a0 len0 cap0 w hB.out).mono ?_
  rintro e w1 ⟨nv, pv, n, v, rfl, hd⟩
  obtain ⟨a1, k1, rfl⟩ := hd.at.1.shape
  obtain ⟨c1, m1, rfl⟩ := hd.at.2.2.shape
  have B := hid (hd.bel.alloc hd.bel.size (.cells #[.slice a1 n.nodes.length k1, .slice c1 n.pipes.length m1] 27))
  have X1 := hid (Box.new w1 #[.slice a1 n.nodes.length k1, .slice c1 n.pipes.length m1] 27)
  have N1 := hid (hd.at.below (below_new w1 (.cells #[.slice a1 n.nodes.length k1, .slice c1 n.pipes.length m1] 27)))
  have Q1 := hid hd.c1
  have l1 := hd.l1
  have l2 := hd.l2
  clear hd
  obtain ⟨L, c, hLc⟩ : ∃ L c, dfR n v = (L, c) := ⟨_, _, rfl⟩
  have E1 := hid hLc
  obtain ⟨X10, X11⟩ := X1.out.two
  go_wp2_with fail
  refine (OutI.eq (impl_DistancesFrom_any _ _ n v _ N1.out Q1.out) E1.out).mono ?_
  rintro e w2 ⟨r2, rfl, o2, b2⟩
  clear X10 X11
  have B := hid (B.out.trans (b2.mono B.out.size))
  have X1 := hid (X1.out.below b2)
  have N1 := hid (N1.out.below b2)
  have S2 := hid o2
  clear b2 o2
  obtain ⟨X10, X11⟩ := X1.out.two
  go_wp2_with fail
  refine (OutI.eq (spec_DistancesFrom_any _ _ n v _ N1.out) E1.out).mono ?_
  rintro e w3 ⟨r3, rfl, o3, b3⟩
  clear X10 X11
  have B := hid (B.out.trans (b3.mono B.out.size))
  have X1 := hid (X1.out.below b3)
  have N1 := hid (N1.out.below b3)
  have S2 := hid (S2.out.below b3)
  obtain ⟨_, ra, rc, hr2, _⟩ := id S2.out
  subst hr2
  have S3 := hid o3
  clear b3 o3
  go_wp2_with fail
  refine (likeInts_t _ _ L _ S2.out.ints S3.out.ints).mono ?_
  rintro e w4 ⟨rfl, b4⟩
  have B := hid (B.out.trans (b4.mono B.out.size))
  have X1 := hid (X1.out.below b4)
  have N1 := hid (N1.out.below b4)
  have S2 := hid (S2.out.below b4)
  clear b4 S3
  by_cases h0 : c = 0
  case neg =>
    have hc0 : (c != 0) = true := by simpa using h0
    clear hLc
    go_wp2_with fail
    go_ret
    exact ⟨rfl, B.out⟩
  subst h0
  have hcn : codeNs n [v] = 0 := by
    unfold dfR at hLc
    split at hLc
    · assumption
    · simp only [Prod.mk.injEq] at hLc; exact hLc.2
  have hL : (srch n v).dist = L := by
    unfold dfR at hLc
    rw [if_pos hcn] at hLc
    exact (Prod.mk.inj hLc).1
  obtain ⟨hb, v0, v1⟩ := codeNs_one hcn
  have g := good_srch hb v0 v1
  have hLl : L.length = n.nodes.length := by rw [← hL]; exact g.ld
  have hnl := netB_t hb
  have HST : Hid (∀ k (hk : k < n.pipes.length), ∃ (x y : Nat) (A C : Int), n.pipes[k].fr = x ∧ n.pipes[k].to = y ∧ ∃ (hx : x < L.length) (hy : y < L.length), L[x] = A ∧ L[y] = C ∧ (A < 0 ↔ C < 0) ∧ -1 ≤ A ∧ -1 ≤ C ∧ A ≤ 100 ∧ C ≤ 100 ∧ A - C ≤ 1 ∧ C - A ≤ 1) := fun k hk => by
    have hp := netB_pipe hb (List.getElem_mem hk)
    obtain ⟨h1, h2, h3, h4, h5⟩ := srch_step hb v0 v1 hk
    obtain ⟨x, hx⟩ : ∃ x : Nat, n.pipes[k].fr = x := ⟨n.pipes[k].fr.toNat, by omega⟩
    obtain ⟨y, hy⟩ : ∃ y : Nat, n.pipes[k].to = y := ⟨n.pipes[k].to.toNat, by omega⟩
    have hxl : x < L.length := by omega
    have hyl : y < L.length := by omega
    have e1 : dOf (srch n v) n.pipes[k].fr = L[x] := by unfold dOf; rw [hL, hx, Int.toNat_natCast]; simp [List.getD, hxl]
    have e2 : dOf (srch n v) n.pipes[k].to = L[y] := by unfold dOf; rw [hL, hy, Int.toNat_natCast]; simp [List.getD, hyl]
    rw [e1, e2] at h1
    rw [e1] at h2 h4 h5
    rw [e2] at h3 h4 h5
    have hh1 := g.hi x
    have hh2 := g.hi y
    have hle := g.le_nodes
    rw [hL] at hh1 hh2
    have e3 : L.getD x 0 = L[x] := by simp [List.getD, hxl]
    have e4 : L.getD y 0 = L[y] := by simp [List.getD, hyl]
    exact ⟨x, y, L[x], L[y], hx, hy, hxl, hyl, rfl, rfl, h1, h2, h3, by omega, by omega, h4, h5⟩
  have HL := hid hL
  have HCN := hid hcn
  have HBN := hid hb
  clear hLc hcn hL g hb hnl
  obtain ⟨X10, X11⟩ := X1.out.two
  go_wp2_with fail
  go_loopw [9] (fun i wr => DiRel n.pipes.length w4 i wr) (fun i _ => n.pipes.length - (intOf i).toNat)
  case atStart => exact ⟨0, 0, rfl, by omega, rfl⟩
  case round =>
    obtain ⟨k, j, rfl, hk, rfl⟩ := hrel
    by_cases hlt : k < n.pipes.length
    · have hltI : (k : Int) < n.pipes.length := by omega
      obtain ⟨x, y, A, C, hx, hy, hxl, hyl, hA, hC, hs1, hs2, hs3, hs4, hs5, hs6, hs7⟩ := HST.out k hlt
      obtain ⟨pb0, poff, rfl, hpb, hpc⟩ := N1.out.2.2.at' (by omega)
      obtain ⟨x0, x1, x2, x3, x4⟩ := cellsP (hpc k hlt)
      rw [hx] at x0
      rw [hy] at x1
      obtain ⟨db, doff, rfl, hdb, hdbl, _, hdc⟩ := S2.out.at (by omega)
      have q0 := hdc x hxl
      have q1 := hdc y hyl
      rw [hA] at q0
      rw [hC] at q1
      have hxI : (x : Int) < L.length := by omega
      have hyI : (y : Int) < L.length := by omega
      clear hpc hdc x2 x3 x4 hx hy hA hC
      go_wp2_with fail
      go_quiet (fail)
      have hmx : ¬ (1 < max (A - C) (-(A - C))) := by omega
      by_cases hA0 : A < 0
      all_goals
        have hC0 := hA0
        rw [hs1] at hC0
        go_wp2_with (go_at_call 75; refine (size_any (A - C) _ (by omega) (by omega)).mono ?_; rintro e w' ⟨rfl, rfl⟩)
        go_roundw
        case rel => exact ⟨k + 1, _, by go_num, by omega, rfl⟩
        case measure => simp [intOf]; omega
    · obtain rfl : k = n.pipes.length := by omega
      obtain ⟨W, hW⟩ : ∃ W, w4.drewN j = W := ⟨_, rfl⟩
      have bW : Below w4.heap.size w4 W := by rw [← hW]; exact ⟨rfl, rfl, rfl, Nat.le_refl _, fun _ _ => rfl⟩
      rw [hW]
      clear hW X10 X11
      have B := hid (B.out.trans (bW.mono B.out.size))
      have X1 := hid (X1.out.below bW)
      have N1 := hid (N1.out.below bW)
      have S2 := hid (S2.out.below bW)
      clear bW
      obtain ⟨X10, X11⟩ := X1.out.two
      have hBy := hB.out.kept (Kept.of_below (X := fun _ => False) B.out) (fun k e => e.elim)
      have hBy : Bytes W a0 len0 W.heap.size := by
        obtain ⟨h1, h2⟩ := hBy
        have := B.out.size
        exact ⟨h1, h2.imp id (fun ⟨b, off, e1, e2, e3⟩ => ⟨b, off, e1, by omega, e3⟩)⟩
      have hnl := netB_t HBN.out
      have zx := X1.out.1
      have HBy := hid hBy
      clear hBy hk
      go_wp2_with fail
      go_region_with (first
        | (go_at_call 76; refine (roll_any a0 len0 cap0 401 _ (show Bytes W.drew a0 len0 W.drew.heap.size from HBy.out)).mono ?_; rintro e w5 ⟨rfl, hd5, b5⟩; have b5 := below_undrew b5; have Y0 := (b5.cell (p := ⟨w1.heap.size, 0, none⟩) zx).trans X10)
        | (go_at_call 77; refine (below_any _ n.nodes.length _ (by omega) (by omega) hd5).mono ?_; rintro e w6 ⟨t, rfl, t0, t1, k6⟩))
      all_goals
        have b6 := b5.trans (k6.below (B := W.heap.size) b5.size (fun k e => by have : k = W.heap.size := e; omega))
        obtain ⟨T, rfl⟩ : ∃ T : Nat, t = T := ⟨t.toNat, by omega⟩
        have hTl : T < L.length := by omega
        obtain ⟨D, hD⟩ : ∃ D, L[T] = D := ⟨_, rfl⟩
        have hgD : (srch n v).dist.getD ((T : Nat) : Int).toNat 0 = D := by rw [HL.out, Int.toNat_natCast, ← hD]; simp [List.getD, hTl]
        have hcd := hid (codeNs_two_mk HCN.out (b := T) (by omega) (by omega))
        have hpl : Hid ((pathOf n v T).length = D.toNat) := by rw [Hid, pathOf_len, hgD]
        have hE2 : Hid (spR n v T = if D < 0 then ([], 4) else (pathOf n v T, 0)) := by rw [Hid, spR, if_pos hcd.out, hgD]
        clear X10 X11 Y0 hd5 b5 k6 hgD hcd
        have B := hid (B.out.trans (b6.mono B.out.size))
        have X1 := hid (X1.out.below b6)
        have N1 := hid (N1.out.below b6)
        have S2 := hid (S2.out.below b6)
        clear b6
        obtain ⟨X10, X11⟩ := X1.out.two
        have HD := hid hD
        clear hD
        by_cases hneg : D < 0
        · have E2 : Hid (spR n v T = ([], 4)) := by rw [Hid, hE2.out, if_pos hneg]
          go_wp2_with fail
          refine (OutI.eq (impl_ShortestPath_any _ _ n v T _ N1.out Q1.out) E2.out).mono ?_
          rintro e w7 ⟨r7, rfl, o7, b7⟩
          have B := hid (B.out.trans (b7.mono B.out.size))
          have S2 := S2.out.below b7
          obtain ⟨db, doff, rfl, hdb, hdbl, _, hdc⟩ := S2.at (by omega)
          have q0 := hdc T hTl
          rw [HD.out] at q0
          have hTI : (T : Int) < L.length := by omega
          clear b7 hdc S2 o7
          go_wp2_with fail
          go_ret
          exact ⟨rfl, B.out⟩
        · obtain ⟨P, hP⟩ : ∃ P, pathOf n v T = P := ⟨_, rfl⟩
          have E2 : Hid (spR n v T = (P, 0)) := by rw [Hid, hE2.out, if_neg hneg, hP]
          obtain ⟨d, rfl⟩ : ∃ d : Nat, D = d := ⟨D.toNat, by omega⟩
          have hPl : P.length = d := by rw [← hP]; have := hpl.out; simpa using this
          clear hP
          go_wp2_with fail
          refine (OutI.eq (impl_ShortestPath_any _ _ n v T _ N1.out Q1.out) E2.out).mono ?_
          rintro e w7 ⟨r7, rfl, o7, b7⟩
          have B := hid (B.out.trans (b7.mono B.out.size))
          have S2 := S2.out.below b7
          obtain ⟨db, doff, rfl, hdb, hdbl, _, hdc⟩ := S2.at (by omega)
          have q0 := hdc T hTl
          rw [HD.out] at q0
          have hTI : (T : Int) < L.length := by omega
          obtain ⟨_, pa, pc, hpe, _⟩ := id o7
          rw [hPl] at hpe
          subst hpe
          clear b7 hdc S2 o7
          go_wp2_with fail
          go_ret
          exact ⟨rfl, B.out⟩

set_option maxRecDepth 100000 in
theorem lifted (os : Os) (started : os.Started) (H : Type) (enc : TypeId × Value → H) :
    ReturnsInHanded {} Try.checked os 15 .any (Rows.fnDistancesSpec.pre6 enc Try.prog Try.f15 Rows.fnDistancesRow.domain false) (Rows.fnDistancesSpec.post enc Try.prog Try.f15 false true false false) := by
  refine returnsInHanded_of_change (C := Try.checked) own started (by kernel_rfl) Try.func15
    (ChangeSpec.witness6 (enc := enc) (C := Try.checked) false ⟨#[], #[.slice none 0 0], []⟩ 8 (by kernel_rfl) (by kernel_rfl) (by kernel_rfl) (by kernel_rfl)) ?_
  intro W base args ds gs before hval0 hW hcnd _
  have hval : ∀ (j : Nat) t v, Try.f15.params[j]? = some t → args[j]? = some v → Value.okWide Try.prog W .any base t v := hval0
  have hW' := hW
  obtain ⟨p, q, hA0, hV, rfl, hfz, hnd⟩ := hW
  have hA : DataW.TrodAll enc Try.prog W 0 (fun _ => true) true Try.f15.params.toList args.toList ds p := hA0
  rw [Try.params15] at hA hval
  obtain ⟨v0, vs0, d0, ds0, p0, q0, hargs, rfl, rfl, h0, r0⟩ := trodAll_cons hA
  obtain ⟨rfl, rfl, rfl⟩ := trodAll_nil r0
  obtain rfl : args = #[v0] := by cases args; simp_all
  obtain ⟨rfl, rfl⟩ := trodVars_none hV
  obtain ⟨a0, len0, cap0, rfl⟩ := okWide_slice Try.underlying22 (hval 0 22 v0 rfl rfl)
  have k0 := h0
  have lt0 : ∀ x ∈ p0, x.block < W.heap.size := by obtain ⟨m, hm⟩ := k0; exact DataW.trod_lt m _ _ _ hm
  obtain ⟨z0, w0⟩ : ∃ zs, IsRow .u8 W a0 len0 cap0 zs := by
    obtain ⟨fuel, hf⟩ := h0
    rcases open_ints Try.underlying22 Try.underlying5 (by kernel_rfl) hf with ⟨hcs, _⟩ | ⟨x, l, c, zs, hcs, _, hl, hm, hz, _, hcell, hwz⟩
    · simp [Value.cells] at hcs
      obtain ⟨rfl, rfl, rfl⟩ := hcs
      exact ⟨[], .inl ⟨rfl, rfl, rfl, rfl⟩⟩
    · simp [Value.cells] at hcs
      obtain ⟨rfl, rfl, rfl⟩ := hcs
      exact ⟨zs, .inr ⟨_, rfl, hl, hm, by simpa using hz, hcell, hwz⟩⟩
  clear hA0 hval0
  refine (walk a0 len0 cap0 z0 W w0).mono fun e W' ⟨he, bel⟩ => ?_
  subst he
  exact ⟨_, rfl, _, _, _, [], _, [], hW', trodAll_mk1 (shut_bool Try.underlying4 _), (trodAll_cons_mk (Below.trod laidOut (by kernel_rfl) (of_decide_eq_true (by kernel_rfl)) k0 bel lt0) trodAll_mk0), rfl, bel.frame _, fun h => by cases h⟩

theorem cThree : ((Rows.fnDistancesRow.lifted == Try.prog.liftsFinal) && (Try.prog.make == some Rows.fnDistancesRow.make) && Try.prog.mayEnter) = true := by kernel_rfl
theorem cAll : ((Rows.fnDistancesRow.lifted == Try.prog.liftsFinal) = true ∧ (Try.prog.make == some Rows.fnDistancesRow.make) = true) ∧ Try.prog.mayEnter = true := by
  have h := cThree
  simp only [Bool.and_eq_true] at h
  exact h
set_option maxHeartbeats 100000000 in
theorem closed : joinedFacts Try.prog 15 Try.f15 Rows.fnDistancesSpec Rows.fnDistancesRow = true := by
  unfold joinedFacts
  simp only [Bool.and_eq_true]
  repeat' apply And.intro
  all_goals first | with_reducible exact cAll.1.1 | with_reducible exact cAll.1.2 | with_reducible exact cAll.2 | (as_aux_lemma => kernel_rfl)

theorem over : Rows.fnDistancesRow.holds Try.pinned (OpenSpec.ofChange Rows.fnDistancesSpec) :=
  OpenClaim.holds_of_wide 15 Try.f15 rfl rfl rfl rfl rfl rfl rfl ⟨rfl, rfl, rfl, rfl, rfl⟩ rfl rfl rfl rfl rfl (by kernel_rfl) Try.func15 closed
    (of_decide_eq_true (by kernel_rfl)) (by unfold Func.isWrapper; first | (rw [if_pos (by decide +kernel)]; kernel_rfl) | (rw [if_neg (by decide +kernel)]; exact ⟨rfl, rfl⟩))
    (fun os started H enc _ => lifted os started H enc)

theorem proved : Rows.FnDistancesSaid := over
#print axioms proved
end Go.Proofs.Ytdapdaadglaoiaa.fnDistances
