/- 'FnNeighbours' is proved: the law returns true for every input. The frame follows the kit's proof-skeleton. -/
import Derived.Test.YtdapdaadglaoiaaRows
import Derived.WalkKit
import Derived.ProofKit
import Derived.OpenShut
import Derived.ShutString
import Derived.ChangeOld
import Derived.Below
import Derived.Test.YtdapdaadglaoiaaDrI
import Derived.Test.YtdapdaadglaoiaaLawT
import Derived.Test.YtdapdaadglaoiaaLawB
import Derived.Test.YtdapdaadglaoiaaLike2
import Derived.Test.YtdapdaadglaoiaaNbr
import Derived.Test.YtdapdaadglaoiaaBetween
import Derived.Test.YtdapdaadglaoiaaPipesAt
namespace Go.Proofs.Ytdapdaadglaoiaa.fnNeighbours
open Go.ChangeShapes Go.WideShapes Go.ChangeAt Go.RowKit
open Go.ChangeMaps (open_string shut_string)
set_option linter.unusedVariables false

theorem own : ownKnob Try.prog.godebug = none := by kernel_rfl
theorem laidOut : laidOutB Try.prog = true := by kernel_rfl

def NhRel (n : Net) (v : Int) (L : List Int) (W : World) (c i : Value) (wr : World) : Prop := ∃ k : Nat, i = .int .i64 k ∧ k ≤ L.length ∧ c = .int .i64 (cntN n v L k : Nat) ∧ Below W.heap.size W wr

set_option maxHeartbeats 1000000 in
theorem walk (a0 : Option Addr) (len0 cap0 : Nat) (z0 : List Int) (w : World) (w0 : IsRow .u8 w a0 len0 cap0 z0) :
    Calls Try.prog 4 #[.slice a0 len0 cap0] w fun e w' => e = .returned (.bool true) ∧ Below w.heap.size w w' := by
  by_cases hl : 4096 < len0
  · go_enter Try.func4, Try.ntmps4
    go_wp2
    go_ret
    exact ⟨rfl, Below.refl _ _⟩
  have hB := hid (w0.bytes (by omega))
  clear w0
  go_enter Try.func4, Try.ntmps4
  go_wp2_with (go_at_call 18; go_in)
  refine (DrawNeighboursOf_any a0 len0 cap0 w hB.out).mono ?_
  rintro e w1 ⟨nv, pv, n, v, rfl, hd⟩
  clear hB
  obtain ⟨a1, k1, rfl⟩ := hd.at.1.shape
  obtain ⟨c1, m1, rfl⟩ := hd.at.2.2.shape
  have B := hid (hd.bel.alloc hd.bel.size (.cells #[.slice a1 n.nodes.length k1, .slice c1 n.pipes.length m1] 27))
  have X1 := hid (Box.new w1 #[.slice a1 n.nodes.length k1, .slice c1 n.pipes.length m1] 27)
  have N1 := hid (hd.at.below (below_new w1 (.cells #[.slice a1 n.nodes.length k1, .slice c1 n.pipes.length m1] 27)))
  have Q1 := hid hd.c1
  have l1 := hd.l1
  have l2 := hd.l2
  clear hd
  obtain ⟨L, c, hLc⟩ : ∃ L c, nbR n v = (L, c) := ⟨_, _, rfl⟩
  have E1 := hid hLc
  obtain ⟨X10, X11⟩ := X1.out.two
  go_wp2_with fail
  refine (OutI.eq (impl_NeighboursOf_any _ _ n v _ N1.out Q1.out) E1.out).mono ?_
  rintro e w2 ⟨r2, rfl, o2, b2⟩
  clear X10 X11
  have B := hid (B.out.trans (b2.mono B.out.size))
  have X1 := hid (X1.out.below b2)
  have N1 := hid (N1.out.below b2)
  have S2 := hid o2
  clear b2 o2
  obtain ⟨X10, X11⟩ := X1.out.two
  go_wp2_with fail
  refine (OutI.eq (spec_NeighboursOf_any _ _ n v _ N1.out) E1.out).mono ?_
  rintro e w3 ⟨r3, rfl, o3, b3⟩
  clear X10 X11
  have B := hid (B.out.trans (b3.mono B.out.size))
  have X1 := hid (X1.out.below b3)
  have N1 := hid (N1.out.below b3)
  have S2 := hid (S2.out.below b3)
  obtain ⟨_, ra, rc, hr2, _⟩ := id S2.out
  subst hr2
  have S3 := hid o3
  clear b3 o3
  go_wp2_with fail
  refine (likeInts_t _ _ L _ S2.out.ints S3.out.ints).mono ?_
  rintro e w4 ⟨rfl, b4⟩
  have B := hid (B.out.trans (b4.mono B.out.size))
  have X1 := hid (X1.out.below b4)
  have N1 := hid (N1.out.below b4)
  have S2 := hid (S2.out.below b4)
  clear b4 S3
  by_cases h0 : c = 0
  case neg =>
    have hc0 : (c != 0) = true := by simpa using h0
    clear hLc
    go_wp2_with fail
    go_ret
    exact ⟨rfl, B.out⟩
  subst h0
  have hcn : codeNs n [v] = 0 ∧ nbTo n v n.nodes.length = L := by
    unfold nbR at hLc
    split at hLc
    · next h1 => exact ⟨h1, (Prod.mk.inj hLc).1⟩
    · next h1 => exact absurd (Prod.mk.inj hLc).2 h1
  obtain ⟨hcn, hL⟩ := hcn
  obtain ⟨hb, v0, v1⟩ := codeNs_one hcn
  obtain ⟨A, hA⟩ : ∃ A, selP (atF v) n.pipes n.pipes.length = A := ⟨_, rfl⟩
  have E3 : Hid (paR n v = (A, 0)) := by rw [Hid, paR, if_pos hcn, hA]
  have HF : Hid (∀ k (hk : k < L.length), ∃ (u : Int) (V M : List Int), L[k] = u ∧ nbR n u = (V, 0) ∧ pbR n v u = (M, 0) ∧ V.contains v = true ∧ M.length ≤ 40 ∧ cntN n v L (k + 1) = cntN n v L k + M.length ∧ cntN n v L k ≤ 40 * k) := fun k hk => by
    obtain ⟨f1, f2, f3, f4⟩ := nb_facts hb v0 v1 k (by rw [hL]; exact hk)
    simp only [hL] at f1 f2 f3 f4
    exact ⟨_, _, _, rfl, f1, f2, f3, f4, cntN_succ n v L k hk, cntN_le hb v L k (by omega)⟩
  have HA : Hid (cntN n v L L.length = A.length) := by
    have := cntN_all hb v
    rw [hL, hA] at this; exact this
  have hLl : L.length ≤ 24 := by
    have h1 := nbTo_len n v n.nodes.length
    have h2 := netB_t hb
    rw [hL] at h1
    omega
  have hA40 : A.length ≤ 40 := by
    have h1 := selP_len (atF v) n.pipes n.pipes.length
    have h2 := netB_t hb
    rw [hA] at h1
    omega
  have H0 : Hid (cntN n v L 0 = 0) := by rw [Hid]; simp [cntN]
  clear hLc hcn hL hb hA v0 v1
  obtain ⟨X10, X11⟩ := X1.out.two
  go_wp2_with fail
  clear X10 X11
  go_loopw [9, 10] (fun c i wr => NhRel n v L w4 c i wr) (fun _ i _ => L.length - (intOf i).toNat)
  case atStart => exact ⟨0, rfl, by omega, by rw [H0.out]; rfl, Below.refl _ _⟩
  case round =>
    obtain ⟨k, rfl, hk, rfl, hbel⟩ := hrel
    have B := hid (B.out.trans (hbel.mono B.out.size))
    have X1 := hid (X1.out.below hbel)
    have N1 := hid (N1.out.below hbel)
    have S2 := hid (S2.out.below hbel)
    have HBL := hid hbel
    clear hbel
    by_cases hlt : k < L.length
    · have hltI : (k : Int) < L.length := by omega
      obtain ⟨u, V, M, hu, hV, hM, hVc, hMl, hsu, hcl⟩ := HF.out k hlt
      have EV := hid hV
      have EM := hid hM
      have EC := hid hVc
      have ES := hid hsu
      obtain ⟨C, hC⟩ : ∃ C, cntN n v L k = C := ⟨_, rfl⟩
      rw [hC] at hcl ⊢
      have ES : Hid (cntN n v L (k + 1) = C + M.length) := by rw [Hid, ES.out, hC]
      obtain ⟨db, doff, rfl, hdb, hdbl, _, hdc⟩ := S2.out.at (by omega)
      have q0 := hdc k hlt
      rw [hu] at q0
      obtain ⟨X10, X11⟩ := X1.out.two
      have zx := X1.out.1
      have NP := N1
      clear hdc hu hV hM hVc hsu hC
      go_wp2_with fail
      have KP : Hid (∀ W, Below wr.heap.size wr W → W.cell? ⟨w1.heap.size, 0, none⟩ = some (.slice a1 n.nodes.length k1) ∧ W.cell? ⟨w1.heap.size, 1, none⟩ = some (.slice c1 n.pipes.length m1) ∧ W.cell? ⟨db, doff + k, none⟩ = some (.int .i64 u)) := fun W hW =>
        ⟨(hW.cell (p := ⟨w1.heap.size, 0, none⟩) zx).trans X10, (hW.cell (p := ⟨w1.heap.size, 1, none⟩) zx).trans X11, (hW.cell (p := ⟨db, doff + k, none⟩) hdbl).trans q0⟩
      go_region_held3 (fun W => W.cell? ⟨w1.heap.size, 0, none⟩ = some (.slice a1 n.nodes.length k1) ∧ W.cell? ⟨w1.heap.size, 1, none⟩ = some (.slice c1 n.pipes.length m1) ∧ W.cell? ⟨db, doff + k, none⟩ = some (.int .i64 u))
        (first | exact KP.out _ (Below.refl _ _).drew | exact KP.out _ b5)
        (first
          | (go_at_call 24; refine (OutI.eq (impl_NeighboursOf_any _ _ n u _ (NP.out.below (Below.refl _ _).drew) Q1.out) EV.out).mono ?_; rintro e w5 ⟨r5, rfl, o5, b5⟩; have b5 := below_undrew b5))
      all_goals
        obtain ⟨X20, X21, q1⟩ := KP.out _ b5
        have HBL5 := hid (HBL.out.trans (b5.mono HBL.out.size))
        have zb5 := b5.size
        have N5 := hid (NP.out.below b5)
        have hdbl5 : db < w5.heap.size := by omega
        have zx5 : w1.heap.size < w5.heap.size := by omega
        obtain ⟨_, va, vc, hr5, _⟩ := id o5
        subst hr5
        have S5 := hid o5
        have KQ : Hid (∀ W, Below w5.heap.size w5 W → W.cell? ⟨w1.heap.size, 0, none⟩ = some (.slice a1 n.nodes.length k1) ∧ W.cell? ⟨w1.heap.size, 1, none⟩ = some (.slice c1 n.pipes.length m1) ∧ W.cell? ⟨db, doff + k, none⟩ = some (.int .i64 u)) := fun W hW =>
          ⟨(hW.cell (p := ⟨w1.heap.size, 0, none⟩) zx5).trans X20, (hW.cell (p := ⟨w1.heap.size, 1, none⟩) zx5).trans X21, (hW.cell (p := ⟨db, doff + k, none⟩) hdbl5).trans q1⟩
        clear b5 KP X10 X11 q0 o5
        go_wp2_with fail
        go_region_held3 (fun W => W.cell? ⟨w1.heap.size, 0, none⟩ = some (.slice a1 n.nodes.length k1) ∧ W.cell? ⟨w1.heap.size, 1, none⟩ = some (.slice c1 n.pipes.length m1) ∧ W.cell? ⟨db, doff + k, none⟩ = some (.int .i64 u))
          (first | exact KQ.out _ (Below.refl _ _).drew | exact KQ.out _ b6)
          (first
            | (go_at_call 25; refine (OutI.eq (impl_PipesBetween_any _ _ n v u _ (N5.out.below (Below.refl _ _).drew) Q1.out) EM.out).mono ?_; rintro e w6 ⟨r6, rfl, o6, b6⟩; have b6 := below_undrew b6))
      all_goals
        have HBL6 := hid (HBL5.out.trans (b6.mono HBL5.out.size))
        have S5 := hid (S5.out.below b6)
        obtain ⟨_, ma, mc, hr6, _⟩ := id o6
        subst hr6
        clear b6 KQ X20 X21 q1 o6 HBL5 N5
        go_wp2_with fail
        refine (hasInt_any _ _ V v _ S5.out).mono ?_
        rw [EC.out]
        rintro e w7 ⟨rfl, b7⟩
        have HBL7 := hid (HBL6.out.trans (b7.mono HBL6.out.size))
        clear b7 HBL6 S5
        go_wp2_with fail
        go_roundw
        case rel => exact ⟨k + 1, by go_num, by omega, by rw [ES.out]; go_num, HBL7.out⟩
        case measure => simp [intOf]; omega
    · obtain rfl : k = L.length := by omega
      rw [HA.out]
      obtain ⟨X10, X11⟩ := X1.out.two
      clear HBL hk
      go_wp2_with fail
      refine (OutI.eq (impl_PipesAt_any _ _ n v _ N1.out Q1.out) E3.out).mono ?_
      rintro e w5 ⟨r5, rfl, o5, b5⟩
      clear X10 X11
      have B := hid (B.out.trans (b5.mono B.out.size))
      have X1 := hid (X1.out.below b5)
      have N1 := hid (N1.out.below b5)
      obtain ⟨_, pa, pc, hr5, _⟩ := id o5
      subst hr5
      have S5 := hid o5
      clear b5 o5
      obtain ⟨X10, X11⟩ := X1.out.two
      go_wp2_with fail
      refine (OutI.eq (spec_PipesAt_any _ _ n v _ N1.out) E3.out).mono ?_
      rintro e w6 ⟨r6, rfl, o6, b6⟩
      clear X10 X11
      have B := hid (B.out.trans (b6.mono B.out.size))
      have S5 := hid (S5.out.below b6)
      have S6 := hid o6
      clear b6 o6
      go_wp2_with fail
      refine (likeInts_t _ _ A _ S5.out.ints S6.out.ints).mono ?_
      rintro e w7 ⟨rfl, b7⟩
      have B := hid (B.out.trans (b7.mono B.out.size))
      clear b7
      go_wp2_with fail
      go_ret
      exact ⟨rfl, B.out⟩

set_option maxRecDepth 100000 in
theorem lifted (os : Os) (started : os.Started) (H : Type) (enc : TypeId × Value → H) :
    ReturnsInHanded {} Try.checked os 4 .any (Rows.fnNeighboursSpec.pre6 enc Try.prog Try.f4 Rows.fnNeighboursRow.domain false) (Rows.fnNeighboursSpec.post enc Try.prog Try.f4 false true false false) := by
  refine returnsInHanded_of_change (C := Try.checked) own started (by kernel_rfl) Try.func4
    (ChangeSpec.witness6 (enc := enc) (C := Try.checked) false ⟨#[], #[.slice none 0 0], []⟩ 8 (by kernel_rfl) (by kernel_rfl) (by kernel_rfl) (by kernel_rfl)) ?_
  intro W base args ds gs before hval0 hW hcnd _
  have hval : ∀ (j : Nat) t v, Try.f4.params[j]? = some t → args[j]? = some v → Value.okWide Try.prog W .any base t v := hval0
  have hW' := hW
  obtain ⟨p, q, hA0, hV, rfl, hfz, hnd⟩ := hW
  have hA : DataW.TrodAll enc Try.prog W 0 (fun _ => true) true Try.f4.params.toList args.toList ds p := hA0
  rw [Try.params4] at hA hval
  obtain ⟨v0, vs0, d0, ds0, p0, q0, hargs, rfl, rfl, h0, r0⟩ := trodAll_cons hA
  obtain ⟨rfl, rfl, rfl⟩ := trodAll_nil r0
  obtain rfl : args = #[v0] := by cases args; simp_all
  obtain ⟨rfl, rfl⟩ := trodVars_none hV
  obtain ⟨a0, len0, cap0, rfl⟩ := okWide_slice Try.underlying22 (hval 0 22 v0 rfl rfl)
  have k0 := h0
  have lt0 : ∀ x ∈ p0, x.block < W.heap.size := by obtain ⟨m, hm⟩ := k0; exact DataW.trod_lt m _ _ _ hm
  obtain ⟨z0, w0⟩ : ∃ zs, IsRow .u8 W a0 len0 cap0 zs := by
    obtain ⟨fuel, hf⟩ := h0
    rcases open_ints Try.underlying22 Try.underlying5 (by kernel_rfl) hf with ⟨hcs, _⟩ | ⟨x, l, c, zs, hcs, _, hl, hm, hz, _, hcell, hwz⟩
    · simp [Value.cells] at hcs
      obtain ⟨rfl, rfl, rfl⟩ := hcs
      exact ⟨[], .inl ⟨rfl, rfl, rfl, rfl⟩⟩
    · simp [Value.cells] at hcs
      obtain ⟨rfl, rfl, rfl⟩ := hcs
      exact ⟨zs, .inr ⟨_, rfl, hl, hm, by simpa using hz, hcell, hwz⟩⟩
  clear hA0 hval0
  refine (walk a0 len0 cap0 z0 W w0).mono fun e W' ⟨he, bel⟩ => ?_
  subst he
  exact ⟨_, rfl, _, _, _, [], _, [], hW', trodAll_mk1 (shut_bool Try.underlying4 _), (trodAll_cons_mk (Below.trod laidOut (by kernel_rfl) (of_decide_eq_true (by kernel_rfl)) k0 bel lt0) trodAll_mk0), rfl, bel.frame _, fun h => by cases h⟩

theorem cThree : ((Rows.fnNeighboursRow.lifted == Try.prog.liftsFinal) && (Try.prog.make == some Rows.fnNeighboursRow.make) && Try.prog.mayEnter) = true := by kernel_rfl
theorem cAll : ((Rows.fnNeighboursRow.lifted == Try.prog.liftsFinal) = true ∧ (Try.prog.make == some Rows.fnNeighboursRow.make) = true) ∧ Try.prog.mayEnter = true := by
  have h := cThree
  simp only [Bool.and_eq_true] at h
  exact h
set_option maxHeartbeats 100000000 in
theorem closed : joinedFacts Try.prog 4 Try.f4 Rows.fnNeighboursSpec Rows.fnNeighboursRow = true := by
  unfold joinedFacts
  simp only [Bool.and_eq_true]
  repeat' apply And.intro
  all_goals first | with_reducible exact cAll.1.1 | with_reducible exact cAll.1.2 | with_reducible exact cAll.2 | (as_aux_lemma => kernel_rfl)

theorem over : Rows.fnNeighboursRow.holds Try.pinned (OpenSpec.ofChange Rows.fnNeighboursSpec) :=
  OpenClaim.holds_of_wide 4 Try.f4 rfl rfl rfl rfl rfl rfl rfl ⟨rfl, rfl, rfl, rfl, rfl⟩ rfl rfl rfl rfl rfl (by kernel_rfl) Try.func4 closed
    (of_decide_eq_true (by kernel_rfl)) (by unfold Func.isWrapper; first | (rw [if_pos (by decide +kernel)]; kernel_rfl) | (rw [if_neg (by decide +kernel)]; exact ⟨rfl, rfl⟩))
    (fun os started H enc _ => lifted os started H enc)

theorem proved : Rows.FnNeighboursSaid := over
#print axioms proved
end Go.Proofs.Ytdapdaadglaoiaa.fnNeighbours
