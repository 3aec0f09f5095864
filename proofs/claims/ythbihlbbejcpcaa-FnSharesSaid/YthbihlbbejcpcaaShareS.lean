/- spec.l01Shares. -/
import Derived.Test.YthbihlbbejcpcaaShareI
import Derived.WalkSpells
import Derived.WalkSmall
namespace Go.Proofs.Ythbihlbbejcpcaa
open Go.RowKit

theorem map_take_succ (f : Int → Int) (zs : List Int) (k : Nat) (h : k < zs.length) : (zs.take (k + 1)).map f = (zs.take k).map f ++ [f zs[k]] := by
  rw [List.take_succ_eq_append_getElem h, List.map_append]; rfl

def ApRel (T : TypeId) (total sum : Int) (ws : List Int) (w : World) (o r l i : Value) (wr : World) : Prop :=
  ∃ k : Nat, i = .int .i64 k ∧ k ≤ ws.length ∧ l = .int .i64 (Sh.left total sum (ws.take k)) ∧ OwnI T w.heap.size wr o (Sh.sh total sum (ws.take k)) ∧ OwnI T w.heap.size wr r (Sh.re total sum (ws.take k)) ∧
    (∀ b, o.ownBlock = some b → r.ownBlock = some b → False) ∧ Below w.heap.size w wr

def OLoopRel (T : TypeId) (L : Nat) (p : List Int × List Int) (v1 v2 : Value) (w : World) (l : Value) (wr : World) : Prop :=
  ∃ j : Nat, j ≤ L ∧ l = .int .i64 ((L : Int) - j) ∧ OwnI T w.heap.size wr v1 (Sh.iter p j).1 ∧ OwnI T w.heap.size wr v2 (Sh.iter p j).2 ∧ Below w.heap.size w wr
def BestRel (R : List Int) (wo : World) (be i : Value) (wr : World) : Prop :=
  ∃ k m : Nat, 1 ≤ k ∧ k ≤ R.length ∧ i = .int .i64 k ∧ be = .int .i64 (Sh.bestTo R (k - 1) : Nat) ∧ wr = wo.drewN m

theorem own_two (T : TypeId) (w : World) : OwnI T w.heap.size ((w.alloc (.cells #[] T)).alloc (.cells #[] T)) (.slice (some ⟨w.heap.size, 0, none⟩) 0 0) [] ∧
    OwnI T w.heap.size ((w.alloc (.cells #[] T)).alloc (.cells #[] T)) (.slice (some ⟨w.heap.size + 1, 0, none⟩) 0 0) [] := by
  refine ⟨(OwnI.made T _ w (Nat.le_refl _)).alloc _, ?_⟩
  have := OwnI.made T w.heap.size (w.alloc (.cells #[] T)) (by simp)
  rw [World.size_alloc] at this
  exact this

set_option maxHeartbeats 1000000 in
set_option maxRecDepth 100000 in
theorem l01Shares_any (total : Int) (v : Value) (ws : List Int) (w : World) (h : Ints .i64 w v ws) (t0 : 0 ≤ total) (t1 : total ≤ 1000000000) (hw : ∀ x ∈ ws, 0 ≤ x ∧ x ≤ 1000000000) (hl : ws.length ≤ 64) (hl0 : 1 ≤ ws.length) (hs : 0 < ws.sum) :
    Calls Try.prog 59 #[.int .i64 total, v] w fun e w' => ∃ r, e = .returned r ∧ Slc (fun b => w.heap.size ≤ b ∧ b < w'.heap.size) w' r (Sh.shares total ws) ∧ Below w.heap.size w w' := by
  have hwn : ∀ x ∈ ws, 0 ≤ x := fun x hx => (hw x hx).1
  have hpart : ∀ i, 0 ≤ (ws.take i).sum ∧ (ws.take i).sum ≤ ws.sum := fun i => ⟨Sh.sum_nonneg (fun x hx => hwn x (List.mem_of_mem_take hx)), Sh.take_sum_le hwn i⟩
  have hsle : ws.sum ≤ 64000000000 := by have := Sh.sum_le (fun x hx => (hw x hx).2) (ws := ws); omega
  have hleft : ∀ i, 0 ≤ Sh.left total ws.sum (ws.take i) ∧ Sh.left total ws.sum (ws.take i) ≤ total := fun i => by
    have a1 := Sh.sh_part (total := total) t0 hs (hpart i).2
    have a2 := Sh.sum_nonneg (Sh.sh_nonneg t0 hs (ws := ws.take i) (fun x hx => hwn x (List.mem_of_mem_take hx)))
    unfold Sh.left; omega
  have HI := hid h
  obtain ⟨_, a, cap, rfl, hc⟩ := h
  obtain ⟨b, off, rfl, hcc⟩ := hc.resolve_left (by intro e; simp [e] at hl0)
  have hbw : b < w.heap.size := World.block_lt_of_cell? (a := ⟨b, off + 0, none⟩) w (hcc 0 hl0)
  have HC := hid hcc
  have HW := hid hw
  have HL := hid hleft
  have HP := hid hpart
  have HN := hid hwn
  clear hc hcc hw hleft hpart hwn
  obtain ⟨sum, hsum⟩ : ∃ s, s = ws.sum := ⟨_, rfl⟩
  have HS := hid hsum
  rw [← hsum] at hs hsle
  clear hsum
  go_enter Try.func59, Try.ntmps59
  go_wp2_with fail
  refine (l01Sum_any _ ws w HI.out (fun i => by have := HP.out i; have := HS.out; omega)).mono ?_
  rw [← HS.out]
  rintro e w' ⟨rfl, rfl⟩
  go_wp2_with fail
  go_loopw [6, 7, 8, 9] (fun o r l i wr => ApRel 2 total sum ws w o r l i wr) (fun _ _ _ i _ => ws.length - (intOf i).toNat)
  case atStart =>
    refine ⟨0, rfl, by omega, by simp [Sh.left, Sh.sh], by simpa [Sh.sh] using (own_two _ w).1, by simpa [Sh.re] using (own_two _ w).2, ?_, ((Below.refl _ _).alloc (Nat.le_refl _) _).alloc (by simp) _⟩
    intro b h1 h2
    simp [Value.ownBlock] at h1 h2; omega
  case round =>
    obtain ⟨k, rfl, hk, rfl, ho, hr, hdj, hbel⟩ := hrel
    by_cases hlt : k < ws.length
    · have hcell0 := HC.out k hlt
      have hcell := (hbel.cell (p := ⟨b, off + k, none⟩) hbw).trans hcell0
      obtain ⟨x0, x1⟩ := HW.out ws[k] (List.getElem_mem hlt)
      have m0 : 0 ≤ total * ws[k] := Int.mul_nonneg t0 x0
      have m1 : total * ws[k] ≤ 1000000000000000000 := by have := Int.mul_le_mul t1 x1 x0 (by omega); omega
      have d0 : 0 ≤ total * ws[k] / sum := Int.ediv_nonneg m0 (by omega)
      have d1 : total * ws[k] / sum ≤ 1000000000000000000 := Int.le_trans (Int.ediv_le_self _ m0) m1
      have q0 := HL.out k
      rw [← HS.out] at q0
      have q1 := HL.out (k + 1)
      rw [← HS.out] at q1
      have ql := left_succ total sum ws k hlt
      rw [ql] at q1
      have QL := hid ql
      have HO := hid ho
      have HR := hid hr
      have HD := hid hdj
      have HB := hid hbel
      have hsz := hbel.size
      clear ql ho hr hdj hbel hcell0
      go_wp2_with (at_builtin; refine wpList_app1 rfl (.tmp 32) (.tmp 34) rfl w.heap.size u6 _ rfl (HO.out.alloc _) wr.heap.size (total * ws[k] / sum) rfl ?c1 ?c2 ?c3 ?_)
      case c1 => simp
      case c2 => simp [Sh.sh]; omega
      case c3 => simp; omega
      intro v1 w1 hv1 hk1 hb1
      have hD1 : ∀ b, u7.ownBlock = some b → ¬ u6.ownBlock = some b := fun b h1 h2 => HD.out b h2 h1
      have HR1 := hid ((HR.out.alloc (.cells #[Value.int IntKind.i64 (total * ws[k] / sum)] 2)).kept hk1 hD1)
      have HB1 := hid ((HB.out.alloc hsz (.cells #[Value.int IntKind.i64 (total * ws[k] / sum)] 2)).trans (hk1.below (by simp; omega) (fun b h => (HO.out.lt b h).1)))
      have hsz1 := HB1.out.size
      have hsz2 := hk1.size
      simp only [World.size_alloc] at hsz2
      have hcell1 := ((HB1.out.cell (p := ⟨b, off + k, none⟩) hbw).trans (HC.out k hlt))
      have HD2 : Hid (∀ b, v1.ownBlock = some b → u7.ownBlock = some b → False) := by
        intro b h1 h2
        rcases hb1 with hb1 | hb1
        · rw [hb1] at h1; exact HD.out b h1 h2
        · rw [hb1] at h1; simp at h1; have := (HR.out.lt b h2).2; omega
      have HV1 := hid hv1
      clear hk1 hD1 hv1 hb1 hcell HD HO HR HB
      go_wp2_with (at_builtin; refine wpList_app1 rfl (.tmp 36) (.tmp 45) rfl w.heap.size u7 _ rfl (HR1.out.alloc _) w1.heap.size (total * ws[k] % sum) rfl ?d1 ?d2 ?d3 ?_)
      case d1 => simp
      case d2 => simp [Sh.re]; omega
      case d3 => simp; omega
      intro v2 w2 hv2 hk2 hb2
      have HV1b := hid ((HV1.out.alloc (.cells #[Value.int IntKind.i64 (total * ws[k] % sum)] 2)).kept hk2 (fun b h1 h2 => HD2.out b h1 h2))
      have HB2 := hid (HB1.out.trans ((((Below.refl w.heap.size w1).alloc (by omega) (.cells #[Value.int IntKind.i64 (total * ws[k] % sum)] 2))).trans (hk2.below (by simp; omega) (fun b h => (HR1.out.lt b h).1))))
      have HD3 : Hid (∀ b, v1.ownBlock = some b → v2.ownBlock = some b → False) := by
        intro b h1 h2
        rcases hb2 with hb2 | hb2
        · rw [hb2] at h2; exact HD2.out b h1 h2
        · rw [hb2] at h2; simp at h2; have := (HV1.out.lt b h1).2; omega
      have HV2 := hid hv2
      clear hv2 hk2 hb2 hcell1
      go_wp2_with fail
      go_roundw
      case rel =>
        refine ⟨k + 1, by go_num, by omega, by rw [QL.out], ?_, ?_, HD3.out, HB2.out⟩
        · have := HV1b.out
          unfold Sh.sh at this ⊢
          rw [map_take_succ _ ws k hlt]; exact this
        · have := HV2.out
          unfold Sh.re at this ⊢
          rw [map_take_succ _ ws k hlt]; exact this
      case measure => simp [intOf]; omega
    · obtain rfl : k = ws.length := by omega
      rw [List.take_of_length_le (Nat.le_refl _)] at ho hr ⊢
      have q0 := HL.out ws.length
      rw [← HS.out, List.take_of_length_le (Nat.le_refl _)] at q0
      obtain ⟨L, hL⟩ : ∃ L : Nat, Sh.left total sum ws = (L : Int) := ⟨(Sh.left total sum ws).toNat, by omega⟩
      rw [hL] at q0 ⊢
      have HLL := hid hL
      obtain ⟨ao, co, rfl, ho2⟩ := ho.shape
      obtain ⟨b1, rfl, hb1, hb1', _, _⟩ := ho2.resolve_left (by intro e; have := congrArg List.length e; simp [Sh.sh] at this; simp [this] at hl0)
      obtain ⟨ar, cr, rfl, hr2⟩ := hr.shape
      obtain ⟨b2, rfl, hb2, hb2', _, _⟩ := hr2.resolve_left (by intro e; have := congrArg List.length e; simp [Sh.re] at this; simp [this] at hl0)
      have hne2 : ¬ b1 = b2 := fun e => hdj b1 rfl (by rw [e]; rfl)
      have hne' : ¬ b2 = b1 := fun e => hne2 e.symm
      have e1 : (Sh.sh total sum ws).length = ws.length := by simp [Sh.sh]
      have e2 : (Sh.re total sum ws).length = ws.length := by simp [Sh.re]
      rw [e1] at ho ⊢
      rw [e2] at hr ⊢
      have HO := hid ho
      have HR := hid hr
      have HBel := hid hbel
      clear ho hr ho2 hr2 hbel hdj hL e1 e2
      go_wp2_with fail
      go_loopw [8] (fun l wr => OLoopRel 2 L (Sh.sh total sum ws, Sh.re total sum ws) (.slice (some ⟨b1, 0, none⟩) ws.length co) (.slice (some ⟨b2, 0, none⟩) ws.length cr) w l wr) (fun l _ => (intOf l).toNat)
      case atStart => exact ⟨0, by omega, by simp, HO.out, HR.out, HBel.out⟩
      case round =>
        clear HO HR HBel hlt hk
        obtain ⟨j, hj, rfl, hk1, hk2, hbel⟩ := hrel
        have ln := Sh.iter_len (Sh.sh total sum ws, Sh.re total sum ws) j
        have ln1 : (Sh.iter (Sh.sh total sum ws, Sh.re total sum ws) j).1.length = ws.length := by rw [ln.1]; simp [Sh.sh]
        have ln2 : (Sh.iter (Sh.sh total sum ws, Sh.re total sum ws) j).2.length = ws.length := by rw [ln.2]; simp [Sh.re]
        by_cases hjl : j < L
        · have bd := Sh.iter_bd (Sh.sh total sum ws, Sh.re total sum ws) total (fun x hx => ⟨Sh.sh_nonneg t0 hs HN.out x hx, Sh.sh_le t0 hs HN.out HS.out.symm x hx⟩) t0 j
          have hst : Hid (Sh.iter (Sh.sh total sum ws, Sh.re total sum ws) (j + 1) = Sh.step (Sh.iter (Sh.sh total sum ws, Sh.re total sum ws) j)) := rfl
          obtain ⟨S, R, hSR⟩ : ∃ S R, Sh.iter (Sh.sh total sum ws, Sh.re total sum ws) j = (S, R) := ⟨_, _, rfl⟩
          rw [hSR] at hk1 hk2 ln1 ln2 bd hst
          simp only at hk1 hk2 ln1 ln2 bd
          have hstep : Hid (Sh.step (S, R) = (S.set (Sh.best R) (S.getD (Sh.best R) 0 + 1), R.set (Sh.best R) (-1))) := rfl
          have hbest : Sh.best R < ws.length := by have := Sh.best_lt (rs := R) (by omega); omega
          obtain ⟨_, _, hv1, hs1⟩ := hk1.shape
          obtain ⟨g1, hg1, _, _, hfr1, hce1⟩ := hs1.resolve_left (by intro e; simp [e] at ln1; omega)
          obtain ⟨_, _, hv2, hs2⟩ := hk2.shape
          obtain ⟨g2, hg2, _, _, hfr2, hce2⟩ := hs2.resolve_left (by intro e; simp [e] at ln2; omega)
          simp only [Value.slice.injEq, hg1, Option.some.injEq, Addr.mk.injEq, and_true] at hv1
          simp only [Value.slice.injEq, hg2, Option.some.injEq, Addr.mk.injEq, and_true] at hv2
          obtain ⟨rfl, z1, z2⟩ := hv1
          obtain ⟨rfl, z3, z4⟩ := hv2
          clear z1 z2 z3 z4
          have HF1 := hid hfr1
          have HF2 := hid hfr2
          have HC1 := hid hce1
          have HC2 := hid hce2
          have HK1 := hid hk1
          have HK2 := hid hk2
          have HBel := hid hbel
          have HBD := hid bd
          clear hk1 hk2 hbel hs1 hs2 hfr1 hfr2 hce1 hce2 ln hg1 hg2 hSR bd
          have L1 := hid ln1
          have L2 := hid ln2
          have hl2 : ws.length ≤ R.length := by omega
          have hl2' : R.length ≤ ws.length := by omega
          clear ln1 ln2
          obtain ⟨wo, rfl⟩ : ∃ wo : World, wo = wr := ⟨_, rfl⟩
          go_wp2_with fail
          go_loopw [11, 12] (fun be i wr => BestRel R wo be i wr) (fun _ i _ => R.length - (intOf i).toNat)
          case atStart => exact ⟨1, 0, by omega, by omega, rfl, rfl, rfl⟩
          case round =>
            obtain ⟨k, m, k1, k2, rfl, rfl, rfl⟩ := hrel
            by_cases hkr : k < R.length
            · have hb0 := Sh.bestTo_le R (k - 1)
              have hbs : Hid (Sh.bestTo R k = if R.getD (Sh.bestTo R (k - 1)) 0 < R.getD k 0 then k else Sh.bestTo R (k - 1)) := by
                obtain ⟨j, rfl⟩ : ∃ j, k = j + 1 := ⟨k - 1, by omega⟩
                rfl
              obtain ⟨be, hbe⟩ : ∃ be, be = Sh.bestTo R (k - 1) := ⟨_, rfl⟩
              rw [← hbe] at hb0 hbs ⊢
              have hbr : be < R.length := by omega
              have hgk : R.getD k 0 = R[k] := by simp [List.getD, hkr]
              have hgb : R.getD be 0 = R[be] := by simp [List.getD, hbr]
              rw [hgk, hgb] at hbs
              have c1 := HC2.out k hkr
              have c2 := HC2.out be hbr
              have i1 : (k : Int) < ws.length := by omega
              have i2 : (be : Int) < ws.length := by omega
              clear hgk hgb hbe
              by_cases hgt : R[be] < R[k]
              · have hn : Hid (Sh.bestTo R k = k) := by have := hbs.out; rw [if_pos hgt] at this; exact this
                go_wp2_with fail
                go_quiet (fail)
                go_wp2_with fail
                go_roundw
                case rel => exact ⟨k + 1, _, by omega, by omega, by go_num, by rw [Nat.add_sub_cancel, hn.out], rfl⟩
                case measure => simp [intOf]; omega
              · have hn : Hid (Sh.bestTo R k = be) := by have := hbs.out; rw [if_neg hgt] at this; exact this
                go_wp2_with fail
                go_quiet (fail)
                go_wp2_with fail
                go_roundw
                case rel => exact ⟨k + 1, _, by omega, by omega, by go_num, by rw [Nat.add_sub_cancel, hn.out], rfl⟩
                case measure => simp [intOf]; omega
            · obtain rfl : k = R.length := by omega
              have hbe0 : Sh.bestTo R (R.length - 1) = Sh.best R := rfl
              rw [hbe0]
              clear hbe0
              obtain ⟨be, hbe⟩ : ∃ be, be = Sh.best R := ⟨_, rfl⟩
              rw [← hbe] at hbest hstep ⊢
              have hl1 : be < S.length := by have := L1.out; omega
              have hl2b : be < R.length := by omega
              have cS := HC1.out be hl1
              have f1 := HF1.out be
              have f2 := HF2.out be
              obtain ⟨o2, c2⟩ : ∃ o2, wo.cell? ⟨b2, be, none⟩ = some o2 := ⟨_, HC2.out be hl2b⟩
              have hbd : 0 ≤ S[be] ∧ S[be] ≤ 2000000000 := by
                have := HBD.out _ (List.getElem_mem hl1); omega
              have HN1 := hid ((HK1.out.set be (S[be] + 1)).kept (((Kept.refl (· = b2) (wo.setCell ⟨b1, be, none⟩ (.int .i64 (S[be] + 1)))).setCell (X := (· = b2)) (p := ⟨b2, be, none⟩) rfl (.int .i64 (-1))).drewN m) (fun b h1 h2 => hne2 (by simp [Value.ownBlock] at h1; omega)))
              have HN2 := hid (((HK2.out.kept ((Kept.refl (· = b1) wo).setCell (X := (· = b1)) (p := ⟨b1, be, none⟩) rfl (.int .i64 (S[be] + 1))) (fun b h1 h2 => hne' (by simp [Value.ownBlock] at h1; omega))).set be (-1)).kept ((Kept.refl (fun _ => False) _).drewN m) (fun _ _ e => e))
              have HB := hid (((HBel.out.setCell (p := ⟨b1, be, none⟩) hb1 (.int .i64 (S[be] + 1))).setCell (p := ⟨b2, be, none⟩) hb2 (.int .i64 (-1))))
              have HFIN : Hid (Sh.iter (Sh.sh total sum ws, Sh.re total sum ws) (j + 1) = (S.set be (S[be] + 1), R.set be (-1))) := by
                unfold Hid
                rw [hst.out, hstep.out]
                simp [List.getD, hl1]
              clear hbe hst hstep
              go_wp2_with fail
              go_roundw
              case rel => exact ⟨j + 1, by omega, by go_num, by rw [HFIN.out]; exact HN1.out, by rw [HFIN.out]; exact HN2.out, below_drewN HB.out m⟩
              case measure => simp [intOf]; omega
        · obtain rfl : j = L := by omega
          have HR : Hid (Slc (fun b => w.heap.size ≤ b ∧ b < wr.heap.size) wr (.slice (some ⟨b1, 0, none⟩) ws.length co) (Sh.shares total ws)) := by
            have := hk1.slc (by omega)
            unfold Sh.shares
            rw [← HS.out, HLL.out, Int.toNat_natCast]; exact this
          have HBel := hid hbel
          clear hk1 hk2 hbel ln ln1 ln2
          go_wp2_with fail
          go_ret
          exact ⟨_, rfl, HR.out, HBel.out⟩

end Go.Proofs.Ythbihlbbejcpcaa
