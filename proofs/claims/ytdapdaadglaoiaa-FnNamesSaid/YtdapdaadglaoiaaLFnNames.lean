/- 'FnNames' is proved: the law returns true for every input. The frame follows the kit's proof-skeleton. -/
import Derived.Test.YtdapdaadglaoiaaRows
import Derived.WalkKit
import Derived.ProofKit
import Derived.OpenShut
import Derived.ShutString
import Derived.ChangeOld
import Derived.Below
import Derived.Test.YtdapdaadglaoiaaDrI
import Derived.Test.YtdapdaadglaoiaaDrS
import Derived.Test.YtdapdaadglaoiaaLawT
import Derived.Test.YtdapdaadglaoiaaLawN
import Derived.Test.YtdapdaadglaoiaaLike
namespace Go.Proofs.Ytdapdaadglaoiaa.fnNames
open Go.ChangeShapes Go.WideShapes Go.ChangeAt Go.RowKit
open Go.ChangeMaps (open_string shut_string)
set_option linter.unusedVariables false

theorem own : ownKnob Try.prog.godebug = none := by kernel_rfl
theorem laidOut : laidOutB Try.prog = true := by kernel_rfl

theorem below_set2 {w W : World} {b : Nat} {x y : Value} (h : Below w.heap.size w W) (hb : w.heap.size ≤ b) : Below w.heap.size w ((W.setCell ⟨b, 0, none⟩ x).setCell ⟨b, 1, none⟩ y) :=
  h.trans ((((Kept.refl (· = b) W).setCell (p := ⟨b, 0, none⟩) rfl x).setCell (p := ⟨b, 1, none⟩) rfl y).below h.size (fun k e => by omega))
theorem box_end {w W : World} {b lo hi : Nat} {nv pv x y : Value} {n : Net} {T : TypeId} (hB : Blk W b #[x, y] T) (h : Below w.heap.size w W) (hb : w.heap.size ≤ b) (hn : NetApart lo hi W nv pv n) (hlo : b < lo ∨ hi ≤ b) :
    ∃ W', ((W.setCell ⟨b, 0, none⟩ nv).setCell ⟨b, 1, none⟩ pv) = W' ∧ Below w.heap.size w W' ∧ Box W' b [nv, pv] ∧ NetAt W' nv pv n := by
  have hb5 := (hB.set 0 nv).set 1 pv
  have e0 := hb5.cell 0 (by simp)
  have e1 := hb5.cell 1 (by simp)
  simp at e0 e1
  have hl := hb5.lt
  have hk5 := ((Kept.refl (· = b) W).setCell (p := ⟨b, 0, none⟩) rfl nv).setCell (p := ⟨b, 1, none⟩) rfl pv
  have hap := hn.kept hk5 (fun c h1 h2 => by omega)
  refine ⟨_, rfl, below_set2 h hb, ⟨hl, fun j hj => ?_⟩, hap.at⟩
  match j, hj with
  | 0, _ => exact e0
  | 1, _ => exact e1

set_option maxHeartbeats 1000000 in
theorem walk (a0 : Option Addr) (len0 cap0 : Nat) (z0 : List Int) (w : World) (w0 : IsRow .u8 w a0 len0 cap0 z0) :
    Calls Try.prog 14 #[.slice a0 len0 cap0] w fun e w' => e = .returned (.bool true) ∧ Below w.heap.size w w' := by
  by_cases hl : 4096 < len0
  · go_enter Try.func14, Try.ntmps14
    go_wp2
    go_ret
    exact ⟨rfl, Below.refl _ _⟩
  have hB := hid (w0.bytes (by omega))
  clear w0
  go_enter Try.func14, Try.ntmps14
  go_wp2_with (go_at_call 18; go_in)
  refine (DrawRenameNode_any a0 len0 cap0 w hB.out).mono ?_
  rintro e w1 ⟨nv, pv, n, x, s, rfl, hs20, hd⟩
  clear hB
  obtain ⟨a1, k1, rfl⟩ := hd.at.1.shape
  obtain ⟨c1, m1, rfl⟩ := hd.at.2.2.shape
  have B := hid (hd.bel.alloc hd.bel.size (.cells #[.slice a1 n.nodes.length k1, .slice c1 n.pipes.length m1] 27))
  have X1 := hid (Box.new w1 #[.slice a1 n.nodes.length k1, .slice c1 n.pipes.length m1] 27)
  have N1 := hid (hd.at.below (below_new w1 (.cells #[.slice a1 n.nodes.length k1, .slice c1 n.pipes.length m1] 27)))
  have Q1 := hid (And.intro hd.c1 hd.c2)
  have l1 := hd.l1
  have l2 := hd.l2
  clear hd
  obtain ⟨T, c, hTc⟩ : ∃ T c, rnR n x s = (T, c) := ⟨_, _, rfl⟩
  have E1 := hid hTc
  obtain ⟨X10, X11⟩ := X1.out.two
  go_wp2_with fail
  refine (OutN.eq (impl_RenameNode_any _ _ n x s _ N1.out Q1.out.1 (by omega)) E1.out).mono ?_
  rintro e w2 ⟨n2, p2, rfl, o2, q2, b2⟩
  obtain ⟨a2, k2, rfl⟩ := o2.at.1.shape
  obtain ⟨c2, m2, rfl⟩ := o2.at.2.2.shape
  have b2' := b2.alloc b2.size (.cells #[.slice a2 T.nodes.length k2, .slice c2 T.pipes.length m2] 27)
  clear X10 X11
  have B := hid (B.out.trans (b2'.mono B.out.size))
  have X1 := hid (X1.out.below b2')
  have N1 := hid (N1.out.below b2')
  have X2 := hid (Box.new w2 #[.slice a2 T.nodes.length k2, .slice c2 T.pipes.length m2] 27)
  have N2 := hid (o2.at.below (below_new w2 (.cells #[.slice a2 T.nodes.length k2, .slice c2 T.pipes.length m2] 27)))
  have Q2 := hid q2
  clear b2 b2' o2 q2
  obtain ⟨X10, X11⟩ := X1.out.two
  go_wp2_with fail
  refine (OutN.eq (spec_RenameNode_any _ _ n x s _ N1.out (by omega)) E1.out).mono ?_
  rintro e w3 ⟨n3, p3, rfl, o3, q3, b3⟩
  obtain ⟨a3, k3, rfl⟩ := o3.at.1.shape
  obtain ⟨c3, m3, rfl⟩ := o3.at.2.2.shape
  have b3' := b3.alloc b3.size (.cells #[.slice a3 T.nodes.length k3, .slice c3 T.pipes.length m3] 27)
  clear X10 X11
  have B := hid (B.out.trans (b3'.mono B.out.size))
  have X1 := hid (X1.out.below b3')
  have N1 := hid (N1.out.below b3')
  have X2 := hid (X2.out.below b3')
  have N2 := hid (N2.out.below b3')
  have X3 := hid (Box.new w3 #[.slice a3 T.nodes.length k3, .slice c3 T.pipes.length m3] 27)
  have N3 := hid (o3.at.below (below_new w3 (.cells #[.slice a3 T.nodes.length k3, .slice c3 T.pipes.length m3] 27)))
  have Q3 := hid q3
  clear b3 b3' o3 q3
  obtain ⟨X20, X21⟩ := X2.out.two
  obtain ⟨X30, X31⟩ := X3.out.two
  go_wp2_with fail
  refine (likeNet_t _ _ _ _ T _ N2.out N3.out).mono ?_
  rintro e w4 ⟨rfl, b4⟩
  clear X20 X21 X30 X31
  have B := hid (B.out.trans (b4.mono B.out.size))
  have X1 := hid (X1.out.below b4)
  have N1 := hid (N1.out.below b4)
  have X2 := hid (X2.out.below b4)
  have N2 := hid (N2.out.below b4)
  have X3 := hid (X3.out.below b4)
  have N3 := hid (N3.out.below b4)
  clear b4
  clear X3 N3
  by_cases h0 : c = 0
  case neg =>
    have hc0 : (c != 0) = true := by simpa using h0
    clear hTc
    go_wp2_with fail
    go_ret
    exact ⟨rfl, B.out⟩
  subst h0
  have hcn : codeNs n [x] = 0 ∧ netB (renN n x.toNat s) = true ∧ renN n x.toNat s = T := by
    unfold rnR at hTc
    split at hTc
    · next h1 =>
      split at hTc
      · next h2 => exact ⟨h1, h2, (Prod.mk.inj hTc).1⟩
      · simp at hTc
    · next h1 => exact absurd (Prod.mk.inj hTc).2 h1
  obtain ⟨hcn, hb2, hT⟩ := hcn
  obtain ⟨hk, _, e2, e3, e4⟩ := ren_back hcn hb2
  obtain ⟨X, rfl⟩ : ∃ X : Nat, x = X := ⟨x.toNat, by have := codeNs_one' hcn; omega⟩
  rw [hT] at e2 e3 e4
  rw [Int.toNat_natCast] at hk e4
  have hkI : (X : Int) < n.nodes.length := by omega
  obtain ⟨nm, hnm⟩ : ∃ nm, n.nodes[X].name = nm := ⟨_, rfl⟩
  have hg : (n.nodes.getD X zN).name = nm := by rw [← hnm]; simp [List.getD, hk]
  rw [hg] at e4
  have E2 := hid e2
  have E3 := hid e3
  have E4 := hid e4
  have HNM := hid hnm
  have hnms : nm.size ≤ 9223372036854775807 := by rw [← hnm]; exact N1.out.2.1 _ (List.getElem_mem hk)
  clear hTc hcn hb2 hT e2 e3 e4 hnm hg
  obtain ⟨X20, X21⟩ := X2.out.two
  go_wp2_with fail
  refine (impl_NodeNamed_any _ _ T s _ N2.out Q2.out.1).mono ?_
  rw [E2.out, E3.out]
  rintro e w5 ⟨rfl, b5⟩
  clear X20 X21
  have B := hid (B.out.trans (b5.mono B.out.size))
  have X1 := hid (X1.out.below b5)
  have N1 := hid (N1.out.below b5)
  have X2 := hid (X2.out.below b5)
  have N2 := hid (N2.out.below b5)
  clear b5
  have BZ := hid B.out
  have XZ1 := hid X1.out
  have NZ1 := hid N1.out
  have XZ2 := hid X2.out
  have NZ2 := hid N2.out
  obtain ⟨nb, noff, rfl, hnb, hnc⟩ := NZ1.out.1.at' (by omega)
  have hnc := hnc X hk
  obtain ⟨x0, x1, x2⟩ := cellsN hnc
  rw [HNM.out] at x0
  clear hnc x1 x2
  obtain ⟨X10, X11⟩ := XZ1.out.two
  obtain ⟨X20, X21⟩ := XZ2.out.two
  go_wp2_with fail
  have zx := XZ1.out.1
  have zx2 := XZ2.out.1
  have KP : Hid (∀ W, Below w5.heap.size w5 W → W.cell? ⟨w1.heap.size, 0, none⟩ = some (.slice (some ⟨nb, noff, none⟩) n.nodes.length k1) ∧ W.cell? ⟨w2.heap.size, 0, none⟩ = some (.slice a2 T.nodes.length k2) ∧ W.cell? ⟨w2.heap.size, 1, none⟩ = some (.slice c2 T.pipes.length m2) ∧ W.cell? ⟨nb, noff + X * 3, none⟩ = some (.string nm)) := fun W hW =>
    ⟨(hW.cell (p := ⟨w1.heap.size, 0, none⟩) zx).trans X10, (hW.cell (p := ⟨w2.heap.size, 0, none⟩) zx2).trans X20, (hW.cell (p := ⟨w2.heap.size, 1, none⟩) zx2).trans X21, (hW.cell (p := ⟨nb, noff + X * 3, none⟩) hnb).trans x0⟩
  have HNS := hid hnms
  go_region_held3 (fun W => W.cell? ⟨w1.heap.size, 0, none⟩ = some (.slice (some ⟨nb, noff, none⟩) n.nodes.length k1) ∧ W.cell? ⟨w2.heap.size, 0, none⟩ = some (.slice a2 T.nodes.length k2) ∧ W.cell? ⟨w2.heap.size, 1, none⟩ = some (.slice c2 T.pipes.length m2) ∧ W.cell? ⟨nb, noff + X * 3, none⟩ = some (.string nm))
    (first | exact KP.out _ (Below.refl _ _).drew | exact KP.out _ b6 | exact KP.out _ (b6.alloc b6.size _) | exact KP.out _ (below_set2 b6 (Nat.le_refl _)) | exact KP.out _ (below_set2 (b6.alloc b6.size _) b6.size) | exact KP.out _ (below_new _ _).drew | exact KP.out _ ((Below.refl _ _).drew.alloc (Nat.le_refl _) _))
    (first
      | (go_at_call 69; refine (OutN.eq (impl_RenameNode_any _ _ T X nm _ (NZ2.out.below (Below.refl _ _).drew) Q2.out.1 HNS.out) E4.out).mono ?_; rintro e w6 ⟨n6, p6, rfl, o6, q6, b6⟩; obtain ⟨a6, k6, rfl⟩ := o6.at.1.shape; obtain ⟨c6, m6, rfl⟩ := o6.at.2.2.shape; have b6 := below_undrew b6)
      | (go_at_call 69; refine (OutN.eq (impl_RenameNode_any _ _ T X nm _ (NZ2.out.below (by first | exact (below_new _ _).drew | exact (Below.refl _ _).drew.alloc (Nat.le_refl _) _)) Q2.out.1 HNS.out) E4.out).mono ?_; rintro e w6 ⟨n6, p6, rfl, o6, q6, b6⟩; obtain ⟨a6, k6, rfl⟩ := o6.at.1.shape; obtain ⟨c6, m6, rfl⟩ := o6.at.2.2.shape; have QB : Blk w6 w5.heap.size #[.slice none 0 0, .slice none 0 0] 27 := Blk.below (by first | exact (Blk.new w5 _ _).drew | exact Blk.new w5.drew _ _) b6; have Q0 := QB.cell 0 (by simp); have Q1 := QB.cell 1 (by simp); have G0 := QB.frozen 0; have G1 := QB.frozen 1; have b6 := (show Below w5.heap.size w5 _ from (by first | exact (below_new _ _).drew | exact (Below.refl _ _).drew.alloc (Nat.le_refl _) _)).trans (b6.mono (by simp))))
  all_goals
    obtain ⟨W, hW, bW, XW, NW⟩ := (by first | exact box_end (x := .slice none 0 0) (y := .slice none 0 0) QB b6 (Nat.le_refl _) o6 (Or.inl (by simp)) | exact (⟨_, rfl, b6.alloc b6.size (.cells #[.slice a6 n.nodes.length k6, .slice c6 n.pipes.length m6] 27), Box.new w6 #[.slice a6 n.nodes.length k6, .slice c6 n.pipes.length m6] 27, (o6.below (below_new w6 (.cells #[.slice a6 n.nodes.length k6, .slice c6 n.pipes.length m6] 27))).at⟩ : ∃ W', w6.alloc (.cells #[.slice a6 n.nodes.length k6, .slice c6 n.pipes.length m6] 27) = W' ∧ Below w5.heap.size w5 W' ∧ Box W' w6.heap.size [.slice a6 n.nodes.length k6, .slice c6 n.pipes.length m6] ∧ NetAt W' (.slice a6 n.nodes.length k6) (.slice c6 n.pipes.length m6) n))
    rw [hW]
    clear hW
    have BZ := hid (BZ.out.trans (bW.mono BZ.out.size))
    have XZ1 := hid (XZ1.out.below bW)
    have NZ1 := hid (NZ1.out.below bW)
    have X4 := hid XW
    have N4 := hid NW
    clear X10 X11 X20 X21 x0 bW XW NW KP b6 o6
    obtain ⟨X10, X11⟩ := XZ1.out.two
    obtain ⟨X40, X41⟩ := X4.out.two
    go_wp2_with fail
    refine (likeNet_t _ _ _ _ n _ N4.out NZ1.out).mono ?_
    rintro e w7 ⟨rfl, b7⟩
    have BZ := hid (BZ.out.trans (b7.mono BZ.out.size))
    clear b7
    go_wp2_with fail
    go_ret
    exact ⟨rfl, BZ.out⟩

set_option maxRecDepth 100000 in
theorem lifted (os : Os) (started : os.Started) (H : Type) (enc : TypeId × Value → H) :
    ReturnsInHanded {} Try.checked os 14 .any (Rows.fnNamesSpec.pre6 enc Try.prog Try.f14 Rows.fnNamesRow.domain false) (Rows.fnNamesSpec.post enc Try.prog Try.f14 false true false false) := by
  refine returnsInHanded_of_change (C := Try.checked) own started (by kernel_rfl) Try.func14
    (ChangeSpec.witness6 (enc := enc) (C := Try.checked) false ⟨#[], #[.slice none 0 0], []⟩ 8 (by kernel_rfl) (by kernel_rfl) (by kernel_rfl) (by kernel_rfl)) ?_
  intro W base args ds gs before hval0 hW hcnd _
  have hval : ∀ (j : Nat) t v, Try.f14.params[j]? = some t → args[j]? = some v → Value.okWide Try.prog W .any base t v := hval0
  have hW' := hW
  obtain ⟨p, q, hA0, hV, rfl, hfz, hnd⟩ := hW
  have hA : DataW.TrodAll enc Try.prog W 0 (fun _ => true) true Try.f14.params.toList args.toList ds p := hA0
  rw [Try.params14] at hA hval
  obtain ⟨v0, vs0, d0, ds0, p0, q0, hargs, rfl, rfl, h0, r0⟩ := trodAll_cons hA
  obtain ⟨rfl, rfl, rfl⟩ := trodAll_nil r0
  obtain rfl : args = #[v0] := by cases args; simp_all
  obtain ⟨rfl, rfl⟩ := trodVars_none hV
  obtain ⟨a0, len0, cap0, rfl⟩ := okWide_slice Try.underlying22 (hval 0 22 v0 rfl rfl)
  have k0 := h0
  have lt0 : ∀ x ∈ p0, x.block < W.heap.size := by obtain ⟨m, hm⟩ := k0; exact DataW.trod_lt m _ _ _ hm
  obtain ⟨z0, w0⟩ : ∃ zs, IsRow .u8 W a0 len0 cap0 zs := by
    obtain ⟨fuel, hf⟩ := h0
    rcases open_ints Try.underlying22 Try.underlying5 (by kernel_rfl) hf with ⟨hcs, _⟩ | ⟨x, l, c, zs, hcs, _, hl, hm, hz, _, hcell, hwz⟩
    · simp [Value.cells] at hcs
      obtain ⟨rfl, rfl, rfl⟩ := hcs
      exact ⟨[], .inl ⟨rfl, rfl, rfl, rfl⟩⟩
    · simp [Value.cells] at hcs
      obtain ⟨rfl, rfl, rfl⟩ := hcs
      exact ⟨zs, .inr ⟨_, rfl, hl, hm, by simpa using hz, hcell, hwz⟩⟩
  clear hA0 hval0
  refine (walk a0 len0 cap0 z0 W w0).mono fun e W' ⟨he, bel⟩ => ?_
  subst he
  exact ⟨_, rfl, _, _, _, [], _, [], hW', trodAll_mk1 (shut_bool Try.underlying4 _), (trodAll_cons_mk (Below.trod laidOut (by kernel_rfl) (of_decide_eq_true (by kernel_rfl)) k0 bel lt0) trodAll_mk0), rfl, bel.frame _, fun h => by cases h⟩

theorem cThree : ((Rows.fnNamesRow.lifted == Try.prog.liftsFinal) && (Try.prog.make == some Rows.fnNamesRow.make) && Try.prog.mayEnter) = true := by kernel_rfl
theorem cAll : ((Rows.fnNamesRow.lifted == Try.prog.liftsFinal) = true ∧ (Try.prog.make == some Rows.fnNamesRow.make) = true) ∧ Try.prog.mayEnter = true := by
  have h := cThree
  simp only [Bool.and_eq_true] at h
  exact h
set_option maxHeartbeats 100000000 in
theorem closed : joinedFacts Try.prog 14 Try.f14 Rows.fnNamesSpec Rows.fnNamesRow = true := by
  unfold joinedFacts
  simp only [Bool.and_eq_true]
  repeat' apply And.intro
  all_goals first | with_reducible exact cAll.1.1 | with_reducible exact cAll.1.2 | with_reducible exact cAll.2 | (as_aux_lemma => kernel_rfl)

theorem over : Rows.fnNamesRow.holds Try.pinned (OpenSpec.ofChange Rows.fnNamesSpec) :=
  OpenClaim.holds_of_wide 14 Try.f14 rfl rfl rfl rfl rfl rfl rfl ⟨rfl, rfl, rfl, rfl, rfl⟩ rfl rfl rfl rfl rfl (by kernel_rfl) Try.func14 closed
    (of_decide_eq_true (by kernel_rfl)) (by unfold Func.isWrapper; first | (rw [if_pos (by decide +kernel)]; kernel_rfl) | (rw [if_neg (by decide +kernel)]; exact ⟨rfl, rfl⟩))
    (fun os started H enc _ => lifted os started H enc)

theorem proved : Rows.FnNamesSaid := over
#print axioms proved
end Go.Proofs.Ytdapdaadglaoiaa.fnNames
