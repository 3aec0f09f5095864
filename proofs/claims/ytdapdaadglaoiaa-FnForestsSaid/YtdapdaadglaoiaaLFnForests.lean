/- 'FnForests' is proved: the law returns true for every input. The frame follows the kit's proof-skeleton. -/
import Derived.Test.YtdapdaadglaoiaaRows
import Derived.WalkKit
import Derived.ProofKit
import Derived.OpenShut
import Derived.ShutString
import Derived.ChangeOld
import Derived.Below
import Derived.Test.YtdapdaadglaoiaaDrI
import Derived.Test.YtdapdaadglaoiaaLawT
import Derived.Test.YtdapdaadglaoiaaLike2
import Derived.Test.YtdapdaadglaoiaaCompOf
import Derived.Test.YtdapdaadglaoiaaSpan
import Derived.Test.YtdapdaadglaoiaaConn
namespace Go.Proofs.Ytdapdaadglaoiaa.fnForests
open Go.ChangeShapes Go.WideShapes Go.ChangeAt Go.RowKit
open Go.ChangeMaps (open_string shut_string)
set_option linter.unusedVariables false

theorem own : ownKnob Try.prog.godebug = none := by kernel_rfl
theorem laidOut : laidOutB Try.prog = true := by kernel_rfl

theorem conB_roots {n : Net} (hb : netB n = true) : conB n = decide (rootsTo (comps n) n.nodes.length = 1) := by
  rw [Bool.eq_iff_iff]
  simp only [conB, decide_eq_true_eq]
  exact (conn_iff hb).symm
def FpRel (C : List Int) (w1 : World) (c i : Value) (wr : World) : Prop := ∃ k : Nat, i = .int .i64 k ∧ k ≤ C.length ∧ c = .int .i64 (rootsTo C k : Nat) ∧ wr = w1
def FoRel (n : Net) (L : List Int) (W : World) (i p : Value) (wr : World) : Prop := ∃ k : Nat, i = .int .i64 k ∧ k ≤ L.length ∧ OwnR encP 5 73 W.heap.size wr p ((L.take k).map (pAt n)) ∧ Below W.heap.size W wr

set_option maxHeartbeats 1000000 in
theorem walk (a0 : Option Addr) (len0 cap0 : Nat) (z0 : List Int) (w : World) (w0 : IsRow .u8 w a0 len0 cap0 z0) :
    Calls Try.prog 17 #[.slice a0 len0 cap0] w fun e w' => e = .returned (.bool true) ∧ Below w.heap.size w w' := by
  by_cases hl : 4096 < len0
  · go_enter Try.func17, Try.ntmps17
    go_wp2
    go_ret
    exact ⟨rfl, Below.refl _ _⟩
  have hB := hid (w0.bytes (by omega))
  clear w0
  go_enter Try.func17, Try.ntmps17
  go_wp2_with (go_at_call 18; go_in)
  refine (DrawSpanningForest_any a0 len0 cap0 w hB.out).mono ?_
  rintro e w1 ⟨nv, pv, n, rfl, hd⟩
  clear hB
  obtain ⟨a1, k1, rfl⟩ := hd.at.1.shape
  obtain ⟨c1, m1, rfl⟩ := hd.at.2.2.shape
  have B := hid (hd.bel.alloc hd.bel.size (.cells #[.slice a1 n.nodes.length k1, .slice c1 n.pipes.length m1] 27))
  have X1 := hid (Box.new w1 #[.slice a1 n.nodes.length k1, .slice c1 n.pipes.length m1] 27)
  have N1 := hid (hd.at.below (below_new w1 (.cells #[.slice a1 n.nodes.length k1, .slice c1 n.pipes.length m1] 27)))
  have Q1 := hid hd.c1
  have l1 := hd.l1
  have l2 := hd.l2
  clear hd
  obtain ⟨L, c, hLc⟩ : ∃ L c, sfR n = (L, c) := ⟨_, _, rfl⟩
  have E1 := hid hLc
  obtain ⟨X10, X11⟩ := X1.out.two
  go_wp2_with fail
  refine (OutI.eq (impl_SpanningForest_any _ _ n _ N1.out Q1.out) E1.out).mono ?_
  rintro e w2 ⟨r2, rfl, o2, b2⟩
  clear X10 X11
  have B := hid (B.out.trans (b2.mono B.out.size))
  have X1 := hid (X1.out.below b2)
  have N1 := hid (N1.out.below b2)
  have S2 := hid o2
  clear b2 o2
  obtain ⟨X10, X11⟩ := X1.out.two
  go_wp2_with fail
  refine (OutI.eq (spec_SpanningForest_any _ _ n _ N1.out) E1.out).mono ?_
  rintro e w3 ⟨r3, rfl, o3, b3⟩
  clear X10 X11
  have B := hid (B.out.trans (b3.mono B.out.size))
  have X1 := hid (X1.out.below b3)
  have N1 := hid (N1.out.below b3)
  have S2 := hid (S2.out.below b3)
  obtain ⟨_, ra, rc, hr2, _⟩ := id S2.out
  subst hr2
  obtain ⟨_, sa, sc, hr3, _⟩ := id o3
  subst hr3
  have S3 := hid o3
  clear b3 o3
  go_wp2_with fail
  refine (likeInts_t _ _ L _ S2.out.ints S3.out.ints).mono ?_
  rintro e w4 ⟨rfl, b4⟩
  have B := hid (B.out.trans (b4.mono B.out.size))
  have X1 := hid (X1.out.below b4)
  have N1 := hid (N1.out.below b4)
  have S3 := hid (S3.out.below b4)
  clear b4 S2
  by_cases h0 : c = 0
  case neg =>
    have hc0 : (c != 0) = true := by simpa using h0
    clear hLc
    go_wp2_with fail
    go_ret
    exact ⟨rfl, B.out⟩
  subst h0
  have hcn : netB n = true ∧ forest n = L := by
    unfold sfR at hLc
    split at hLc
    · next h1 => exact ⟨h1, (Prod.mk.inj hLc).1⟩
    · simp at hLc
  obtain ⟨hb, hL⟩ := hcn
  have hnl := netB_t hb
  obtain ⟨C, hC⟩ : ∃ C, comps n = C := ⟨_, rfl⟩
  have E2 : Hid (coR n = (C, 0)) := by rw [Hid, coR, if_pos hb, hC]
  have E3 : Hid (coR (treeN n) = (C, 0)) := by rw [Hid, coR, if_pos (netB_tree hb), tree_comps hb, hC]
  have hCl : C.length = n.nodes.length := by rw [← hC]; exact comps_len n
  have hflen : (L.length : Int) = (n.nodes.length : Int) - (rootsTo C C.length : Nat) := by
    have := forest_len hb
    rw [hL, hC] at this
    rw [hCl]; omega
  have hcon : icB n = decide (rootsTo C C.length = 1) := by
    unfold icB
    rw [hb, Bool.true_and, hCl, ← hC]
    exact conB_roots hb
  have HF := hid hflen
  have HC := hid hcon
  have HL := hid hL
  have HT : Hid (L.map (pAt n) = (treeN n).pipes) := by rw [Hid, ← hL]; rfl
  have HM : Hid (∀ k (hk : k < L.length), ∃ i : Nat, L[k] = i ∧ i < n.pipes.length) := fun k hk => by
    have : L[k] ∈ forest n := by rw [hL]; exact List.getElem_mem hk
    obtain ⟨i, h1, h2, _⟩ := forest_mem.1 this
    exact ⟨i, h1, h2⟩
  have hLle : L.length ≤ n.pipes.length := by rw [← hL]; exact forest_le n
  have hC20 : C.length ≤ 20 := by omega
  clear hLc hL hC hb hcon hflen hnl hCl
  obtain ⟨X10, X11⟩ := X1.out.two
  go_wp2_with fail
  refine (OutI.eq (impl_ComponentsOf_any _ _ n _ N1.out Q1.out) E2.out).mono ?_
  rintro e w5 ⟨r5, rfl, o5, b5⟩
  clear X10 X11
  have B := hid (B.out.trans (b5.mono B.out.size))
  have X1 := hid (X1.out.below b5)
  have N1 := hid (N1.out.below b5)
  have S3 := hid (S3.out.below b5)
  obtain ⟨_, ca, cc, hr5, _⟩ := id o5
  subst hr5
  have S5 := hid o5
  clear b5 o5
  go_wp2_with fail
  go_loopw [11, 10] (fun i p wr => FoRel n L w5 i p wr) (fun i _ _ => L.length - (intOf i).toNat)
  case atStart => exact ⟨0, rfl, by omega, OwnR.made _ _ _ _ _ (Nat.le_refl _), below_new _ _⟩
  case round =>
    obtain ⟨k, rfl, hk, ho, hbel⟩ := hrel
    have hpl : ((L.take k).map (pAt n)).length = k := by simp; omega
    by_cases hlt : k < L.length
    · have hltI : (k : Int) < L.length := by omega
      obtain ⟨i, hi, hip⟩ := HM.out k hlt
      have hipI : (i : Int) < n.pipes.length := by omega
      obtain ⟨db, doff, rfl, hdb, hdbl, _, hdc⟩ := S3.out.at (by omega)
      have q0 := (hbel.cell (p := ⟨db, doff + k, none⟩) hdbl).trans (hdc k hlt)
      rw [hi] at q0
      have hdbl2 : db < wr.heap.size := by have := hbel.size; omega
      have hS : Hid ((L.take (k + 1)).map (pAt n) = (L.take k).map (pAt n) ++ [n.pipes[i]]) := by
        rw [Hid, List.take_succ_eq_append_getElem hlt, List.map_append, hi]
        simp [pAt_nat hip]
      obtain ⟨pb0, poff, rfl, hpb5, hpc5⟩ := N1.out.2.2.at' (by omega)
      have hpc : CellsAt wr pb0 (poff + i * 5) (encP n.pipes[i]) := (hpc5 i hip).kept (hbel.block pb0 hpb5)
      have hpb : pb0 < wr.heap.size := by have := hbel.size; omega
      obtain ⟨x0, x1, x2, x3, x4⟩ := cellsP hpc
      have hX := X1.out.below hbel
      obtain ⟨X10, X11⟩ := hX.two
      have zx := hX.1
      have HO := hid ho
      have HBL := hid hbel
      have KP : Hid (∀ W, Below wr.heap.size wr W → W.cell? ⟨w1.heap.size, 0, none⟩ = some (.slice a1 n.nodes.length k1) ∧ W.cell? ⟨w1.heap.size, 1, none⟩ = some (.slice (some ⟨pb0, poff, none⟩) n.pipes.length m1) ∧ W.cell? ⟨db, doff + k, none⟩ = some (.int .i64 i) ∧ W.cell? ⟨pb0, poff + i * 5, none⟩ = some (.int .i64 n.pipes[i].fr) ∧ W.cell? ⟨pb0, poff + i * 5 + 1, none⟩ = some (.int .i64 n.pipes[i].to) ∧ W.cell? ⟨pb0, poff + i * 5 + 2, none⟩ = some (.int .i64 n.pipes[i].k) ∧ W.cell? ⟨pb0, poff + i * 5 + 3, none⟩ = some (.int .i64 n.pipes[i].vol) ∧ W.cell? ⟨pb0, poff + i * 5 + 4, none⟩ = some (.int .i64 n.pipes[i].lim)) := fun W hW =>
        ⟨(hW.cell (p := ⟨w1.heap.size, 0, none⟩) zx).trans X10, (hW.cell (p := ⟨w1.heap.size, 1, none⟩) zx).trans X11, (hW.cell (p := ⟨db, doff + k, none⟩) hdbl2).trans q0, (hW.cell (p := ⟨pb0, _, none⟩) hpb).trans x0, (hW.cell (p := ⟨pb0, _, none⟩) hpb).trans x1, (hW.cell (p := ⟨pb0, _, none⟩) hpb).trans x2, (hW.cell (p := ⟨pb0, _, none⟩) hpb).trans x3, (hW.cell (p := ⟨pb0, _, none⟩) hpb).trans x4⟩
      have zw := hbel.size
      have hlo := ho.lt
      have kq : ∀ (W W' : World), Kept (fun b => u10.ownBlock = some b) W W' → Below wr.heap.size wr W → (fun W => W.cell? ⟨w1.heap.size, 0, none⟩ = some (.slice a1 n.nodes.length k1) ∧ W.cell? ⟨w1.heap.size, 1, none⟩ = some (.slice (some ⟨pb0, poff, none⟩) n.pipes.length m1) ∧ W.cell? ⟨db, doff + k, none⟩ = some (.int .i64 i) ∧ W.cell? ⟨pb0, poff + i * 5, none⟩ = some (.int .i64 n.pipes[i].fr) ∧ W.cell? ⟨pb0, poff + i * 5 + 1, none⟩ = some (.int .i64 n.pipes[i].to) ∧ W.cell? ⟨pb0, poff + i * 5 + 2, none⟩ = some (.int .i64 n.pipes[i].k) ∧ W.cell? ⟨pb0, poff + i * 5 + 3, none⟩ = some (.int .i64 n.pipes[i].vol) ∧ W.cell? ⟨pb0, poff + i * 5 + 4, none⟩ = some (.int .i64 n.pipes[i].lim)) W' := fun W W' hk hW => by
        obtain ⟨e0, e1, e2, e3, e4, e5, e6, e7⟩ := KP.out W hW
        have z0 := B.out.size
        have ne : ∀ b, b < w5.heap.size → ¬ (u10.ownBlock = some b) := fun b h1 h2 => by have := (hlo b h2).1; omega
        exact ⟨hk.cell e0 (ne _ (by simp only; have := X1.out.1; omega)), hk.cell e1 (ne _ (by simp only; have := X1.out.1; omega)), hk.cell e2 (ne _ (by simp only; omega)), hk.cell e3 (ne _ (by simp only; omega)), hk.cell e4 (ne _ (by simp only; omega)), hk.cell e5 (ne _ (by simp only; omega)), hk.cell e6 (ne _ (by simp only; omega)), hk.cell e7 (ne _ (by simp only; omega))⟩
      clear hdc hpc ho hbel hi hX
      go_wp2_with fail
      go_region_held3 (fun W => W.cell? ⟨w1.heap.size, 0, none⟩ = some (.slice a1 n.nodes.length k1) ∧ W.cell? ⟨w1.heap.size, 1, none⟩ = some (.slice (some ⟨pb0, poff, none⟩) n.pipes.length m1) ∧ W.cell? ⟨db, doff + k, none⟩ = some (.int .i64 i) ∧ W.cell? ⟨pb0, poff + i * 5, none⟩ = some (.int .i64 n.pipes[i].fr) ∧ W.cell? ⟨pb0, poff + i * 5 + 1, none⟩ = some (.int .i64 n.pipes[i].to) ∧ W.cell? ⟨pb0, poff + i * 5 + 2, none⟩ = some (.int .i64 n.pipes[i].k) ∧ W.cell? ⟨pb0, poff + i * 5 + 3, none⟩ = some (.int .i64 n.pipes[i].vol) ∧ W.cell? ⟨pb0, poff + i * 5 + 4, none⟩ = some (.int .i64 n.pipes[i].lim))
        (first | exact KP.out _ (Below.refl _ _).drew | exact KP.out _ ((Below.refl _ _).drew.alloc (Nat.le_refl _) _) | exact KP.out _ (below_new _ _).drew | exact KQ.out)
        (first
          | (refine step_appP rfl (.tmp 53) (.tmp 62) rfl w5.heap.size u10 (.slice (some ⟨wr.heap.size, 0, none⟩) 1 1) ((L.take k).map (pAt n)) [n.pipes[i]] rfl rfl ?_ ?_ ?_ ?_ ?_; (· first | exact HO.out.below (below_new _ _).drew | exact HO.out.below ((Below.refl _ _).drew.alloc (Nat.le_refl _) _)); (· first | exact rows_one (Blk.new wr (encP n.pipes[i]).toArray 73).drew | exact rows_one (Blk.new wr.drew (encP n.pipes[i]).toArray 73)); (· simp; omega); (· simp; omega); intro v7 w7 h7 k7 b7; have KQ := hid (kq _ _ k7 (by first | exact (below_new _ _).drew | exact (Below.refl _ _).drew.alloc (Nat.le_refl _) _))))
      all_goals
        have bW := (show Below wr.heap.size wr _ from by first | exact (below_new wr (.cells (encP n.pipes[i]).toArray 73)).drew | exact (Below.refl wr.heap.size wr).drew.alloc (Nat.le_refl _) (.cells (encP n.pipes[i]).toArray 73))
        have HBL7 := hid ((HBL.out.trans (bW.mono HBL.out.size)).trans (k7.below (B := w5.heap.size) (Nat.le_trans zw bW.size) (fun b hb => by have := (HO.out.lt b hb).1; omega)))
        have HV := hid h7
        clear k7 b7 h7 KP KQ X10 X11 x0 x1 x2 x3 x4 q0 bW kq hlo
        go_wp2_with fail
        go_roundw
        case rel => exact ⟨k + 1, by go_num, by omega, by rw [hS.out]; exact HV.out, HBL7.out⟩
        case measure => simp [intOf]; omega
    · obtain rfl : k = L.length := by omega
      rw [List.take_length, HT.out] at ho
      have hpl2 : (treeN n).pipes.length = L.length := by rw [← HT.out]; simp
      obtain ⟨ho1, ho2⟩ := ho.own lenP (by omega)
      obtain ⟨pa, pc, rfl⟩ := ho1.at.shape
      rw [hpl2] at *
      have NT : Hid (NetAt wr (.slice a1 n.nodes.length k1) (.slice pa L.length pc) (treeN n)) := ⟨(N1.out.below hbel).1, (N1.out.below hbel).2.1, by rw [← hpl2] at ho1 ⊢; exact ho1.at⟩
      have B := hid (B.out.trans (hbel.mono B.out.size))
      have X1 := hid (X1.out.below hbel)
      have N1 := hid (N1.out.below hbel)
      have S3 := hid (S3.out.below hbel)
      have S5 := hid (S5.out.below hbel)
      obtain ⟨X10, X11⟩ := X1.out.two
      clear ho ho1 ho2 hbel hpl hk
      go_wp2_with fail
      refine (OutI.eq (impl_ComponentsOf_any _ _ (treeN n) _ NT.out Q1.out) E3.out).mono ?_
      rintro e w6 ⟨r6, rfl, o6, b6⟩
      clear X10 X11
      have B := hid (B.out.trans (b6.mono B.out.size))
      have X1 := hid (X1.out.below b6)
      have N1 := hid (N1.out.below b6)
      have S5 := hid (S5.out.below b6)
      obtain ⟨_, ta, tc, hr6, _⟩ := id o6
      subst hr6
      have S6 := hid o6
      clear b6 o6 NT
      go_wp2_with fail
      go_loopw [14, 15] (fun c i wr => FpRel C w6 c i wr) (fun _ i _ => C.length - (intOf i).toNat)
      case atStart => exact ⟨0, rfl, by omega, rfl, rfl⟩
      case round =>
        obtain ⟨k, rfl, hk, rfl, rfl⟩ := hrel
        have hrt := rootsTo_le C k
        by_cases hlt : k < C.length
        · obtain ⟨rb, ro, rfl, _, _, _, hc⟩ := S5.out.at (by omega)
          have c0 := hc k hlt
          have hgd : C.getD k 0 = C[k] := by simp [List.getD, hlt]
          have hsuc := rootsTo_succ C k
          rw [hgd] at hsuc
          clear hc hgd
          by_cases he : C[k] = (k : Int)
          · rw [if_pos he] at hsuc
            have HS := hid hsuc
            have hbt : (C[k] == (k : Int)) = true := by simpa using he
            clear hsuc he
            go_wp2_with fail
            go_roundw
            case rel => exact ⟨k + 1, by go_num, by omega, by rw [HS.out]; go_num, rfl⟩
            case measure => simp [intOf]; omega
          · rw [if_neg he] at hsuc
            have HS := hid hsuc
            have hbt : (C[k] == (k : Int)) = false := by simpa using he
            clear hsuc he
            go_wp2_with fail
            go_roundw
            case rel => exact ⟨k + 1, by go_num, by omega, by rw [HS.out]; rfl, rfl⟩
            case measure => simp [intOf]; omega
        · obtain rfl : k = C.length := by omega
          obtain ⟨R, hR⟩ : ∃ R, rootsTo C C.length = R := ⟨_, rfl⟩
          rw [hR] at hrt ⊢
          have hF := HF.out
          rw [hR] at hF
          have hCo : icB n = decide (R = 1) := by rw [HC.out, hR]
          have hbF : ((L.length : Int) == (n.nodes.length : Int) - (R : Int)) = true := by rw [beq_iff_eq]; exact hF
          have hRb : ((R : Int) == 1) = decide (R = 1) := by rw [Bool.eq_iff_iff]; simp; omega
          have HCO := hid hCo
          have HRB := hid hRb
          have HFF := hid hF
          clear hR hCo hF hRb
          go_wp2_with fail
          refine (likeInts_t _ _ C _ S5.out.ints S6.out.ints).mono ?_
          rintro e w8 ⟨rfl, b8⟩
          have B := hid (B.out.trans (b8.mono B.out.size))
          have X1 := hid (X1.out.below b8)
          have N1 := hid (N1.out.below b8)
          obtain ⟨X10, X11⟩ := X1.out.two
          clear b8
          go_wp2_with fail
          refine (impl_IsConnected_any _ _ n _ N1.out Q1.out).mono ?_
          rw [HCO.out]
          rintro e w9 ⟨rfl, b9⟩
          have B := hid (B.out.trans (b9.mono B.out.size))
          clear b9 X10 X11
          cases hRR : decide (R = 1)
          all_goals
            have hRb : Hid (((R : Int) == 1) = _) := HRB.out.trans hRR
            have hRb := hRb.out
            go_wp2_with fail
            go_ret
            exact ⟨rfl, B.out⟩

set_option maxRecDepth 100000 in
theorem lifted (os : Os) (started : os.Started) (H : Type) (enc : TypeId × Value → H) :
    ReturnsInHanded {} Try.checked os 17 .any (Rows.fnForestsSpec.pre6 enc Try.prog Try.f17 Rows.fnForestsRow.domain false) (Rows.fnForestsSpec.post enc Try.prog Try.f17 false true false false) := by
  refine returnsInHanded_of_change (C := Try.checked) own started (by kernel_rfl) Try.func17
    (ChangeSpec.witness6 (enc := enc) (C := Try.checked) false ⟨#[], #[.slice none 0 0], []⟩ 8 (by kernel_rfl) (by kernel_rfl) (by kernel_rfl) (by kernel_rfl)) ?_
  intro W base args ds gs before hval0 hW hcnd _
  have hval : ∀ (j : Nat) t v, Try.f17.params[j]? = some t → args[j]? = some v → Value.okWide Try.prog W .any base t v := hval0
  have hW' := hW
  obtain ⟨p, q, hA0, hV, rfl, hfz, hnd⟩ := hW
  have hA : DataW.TrodAll enc Try.prog W 0 (fun _ => true) true Try.f17.params.toList args.toList ds p := hA0
  rw [Try.params17] at hA hval
  obtain ⟨v0, vs0, d0, ds0, p0, q0, hargs, rfl, rfl, h0, r0⟩ := trodAll_cons hA
  obtain ⟨rfl, rfl, rfl⟩ := trodAll_nil r0
  obtain rfl : args = #[v0] := by cases args; simp_all
  obtain ⟨rfl, rfl⟩ := trodVars_none hV
  obtain ⟨a0, len0, cap0, rfl⟩ := okWide_slice Try.underlying22 (hval 0 22 v0 rfl rfl)
  have k0 := h0
  have lt0 : ∀ x ∈ p0, x.block < W.heap.size := by obtain ⟨m, hm⟩ := k0; exact DataW.trod_lt m _ _ _ hm
  obtain ⟨z0, w0⟩ : ∃ zs, IsRow .u8 W a0 len0 cap0 zs := by
    obtain ⟨fuel, hf⟩ := h0
    rcases open_ints Try.underlying22 Try.underlying5 (by kernel_rfl) hf with ⟨hcs, _⟩ | ⟨x, l, c, zs, hcs, _, hl, hm, hz, _, hcell, hwz⟩
    · simp [Value.cells] at hcs
      obtain ⟨rfl, rfl, rfl⟩ := hcs
      exact ⟨[], .inl ⟨rfl, rfl, rfl, rfl⟩⟩
    · simp [Value.cells] at hcs
      obtain ⟨rfl, rfl, rfl⟩ := hcs
      exact ⟨zs, .inr ⟨_, rfl, hl, hm, by simpa using hz, hcell, hwz⟩⟩
  clear hA0 hval0
  refine (walk a0 len0 cap0 z0 W w0).mono fun e W' ⟨he, bel⟩ => ?_
  subst he
  exact ⟨_, rfl, _, _, _, [], _, [], hW', trodAll_mk1 (shut_bool Try.underlying4 _), (trodAll_cons_mk (Below.trod laidOut (by kernel_rfl) (of_decide_eq_true (by kernel_rfl)) k0 bel lt0) trodAll_mk0), rfl, bel.frame _, fun h => by cases h⟩

theorem cThree : ((Rows.fnForestsRow.lifted == Try.prog.liftsFinal) && (Try.prog.make == some Rows.fnForestsRow.make) && Try.prog.mayEnter) = true := by kernel_rfl
theorem cAll : ((Rows.fnForestsRow.lifted == Try.prog.liftsFinal) = true ∧ (Try.prog.make == some Rows.fnForestsRow.make) = true) ∧ Try.prog.mayEnter = true := by
  have h := cThree
  simp only [Bool.and_eq_true] at h
  exact h
set_option maxHeartbeats 100000000 in
theorem closed : joinedFacts Try.prog 17 Try.f17 Rows.fnForestsSpec Rows.fnForestsRow = true := by
  unfold joinedFacts
  simp only [Bool.and_eq_true]
  repeat' apply And.intro
  all_goals first | with_reducible exact cAll.1.1 | with_reducible exact cAll.1.2 | with_reducible exact cAll.2 | (as_aux_lemma => kernel_rfl)

theorem over : Rows.fnForestsRow.holds Try.pinned (OpenSpec.ofChange Rows.fnForestsSpec) :=
  OpenClaim.holds_of_wide 17 Try.f17 rfl rfl rfl rfl rfl rfl rfl ⟨rfl, rfl, rfl, rfl, rfl⟩ rfl rfl rfl rfl rfl (by kernel_rfl) Try.func17 closed
    (of_decide_eq_true (by kernel_rfl)) (by unfold Func.isWrapper; first | (rw [if_pos (by decide +kernel)]; kernel_rfl) | (rw [if_neg (by decide +kernel)]; exact ⟨rfl, rfl⟩))
    (fun os started H enc _ => lifted os started H enc)

theorem proved : Rows.FnForestsSaid := over
#print axioms proved
end Go.Proofs.Ytdapdaadglaoiaa.fnForests
