/- A drawn region whose condition need not hold any more once its last operation has come up. -/
import Derived.Deep.RegionHeld3
import Derived.Test.YtdbgncinaacheaaDoorBase
namespace Go.Proofs.YtdbgncinaacheaaDoor
open Go.RowKit

section
variable {P : Program} {ops : Array Oper} {Q : Exit → Act → World → Prop} {md : Region.Mode} {S : World → Prop} {z : Nat}

/-- Whatever order is picked, and S holds behind every operation for as long as number z has not come up. -/
def wpTill (P : Program) (md : Region.Mode) (ops : Array Oper) (Q : Exit → Act → World → Prop) (S : World → Prop) (z : Nat) : Nat → Array Bool → Act → World → Prop
  | 0, listed, a, w => Region.ready md ops listed = [] ∧ Q .normal a w
  | m + 1, listed, a, w => (Region.ready md ops listed = [] → Q .normal a w) ∧
      ∀ j ∈ Region.ready md ops listed, wpOp P ops Q j (fun b u => ((listed.setIfInBounds j true).getD z true = false → S u) ∧ wpTill P md ops Q S z m (listed.setIfInBounds j true) b u) a w
theorem wpTill.any : ∀ (m : Nat) (listed : Array Bool) (a : Act) (w : World), wpTill P md ops Q S z m listed a w → wpAny P md ops Q m listed a w
  | 0, _, _, _, h => h
  | m + 1, _, _, _, h => ⟨h.1, fun j hj => wpOp_mono (fun b u hb => wpTill.any m _ b u hb.2) (h.2 j hj)⟩
/-- Each of U waits for i, or for one of U. -/
def lateB (md : Region.Mode) (ops : Array Oper) (i : Nat) (U : List Nat) : Bool :=
  U.all fun u => match ops[u]? with | some o => o.after.any fun e => Region.binds md e && (e.on == i || U.contains e.on) | none => false
def openB (listed : Array Bool) (U : List Nat) : Bool := U.all fun u => !(listed.getD u true)
theorem lateB_spec {i : Nat} {U : List Nat} (h : lateB md ops i U = true) {u : Nat} (hu : u ∈ U) : ∃ o, ops[u]? = some o ∧ ∃ e ∈ o.after, Region.binds md e = true ∧ (e.on = i ∨ e.on ∈ U) := by
  have := List.all_eq_true.1 h u hu
  cases ho : ops[u]? with
  | none => simp [ho] at this
  | some o =>
    simp only [ho, Array.any_eq_true', Bool.and_eq_true, Bool.or_eq_true, beq_iff_eq, List.contains_eq_mem, decide_eq_true_eq] at this
    obtain ⟨e, he, hb, hc⟩ := this
    exact ⟨o, rfl, e, he, hb, hc⟩
theorem shut_of {listed : Array Bool} {k : Nat} (h : listed.getD k true = false) : ¬ listed.getD k false = true := fun h2 => by
  rcases Nat.lt_or_ge k listed.size with hk | hk
  · simp [hk] at h h2; rw [h] at h2; cases h2
  · simp [hk] at h
theorem late_not {i j : Nat} {U : List Nat} {listed : Array Bool} (hl : lateB md ops i U = true) (hU : ∀ u ∈ U, listed.getD u true = false) (hi : listed.getD i true = false) (hj : j ∈ Region.ready md ops listed) : j ∉ U := fun hjU => by
  obtain ⟨o, ho, e, he, hb, hc⟩ := lateB_spec hl hjU
  obtain ⟨_, o', ho', hall⟩ := mem_ready.1 hj
  obtain rfl : o = o' := Option.some.inj (ho.symm.trans ho')
  have h1 := hall e he hb
  rcases hc with hc | hc
  · rw [hc] at h1; exact shut_of hi h1
  · exact shut_of (hU _ hc) h1

theorem wpTill_first {i : Nat} {o : Oper} {v : Value} {U : List Nat} (ho : ops[i]? = some o) (hsel : ∀ (j : Nat) (q : Oper) cs b, ops[j]? = some q → q.op ≠ .select cs b)
    (hQ : ∀ c a w, Q (.panic c) (a.put o.dst v) w → Q (.panic c) a w) (hl : lateB md ops i U = true) (hz : z ∈ U) : ∀ (m : Nat) (listed : Array Bool) (a : Act) (w : World),
      (∀ j q, ops[j]? = some q → j ≠ i → listed.getD j true = false → (∀ e ∈ q.after, Region.binds md e = true → e.on ≠ i) → o.apart ops q = true) →
      i ∈ Region.ready md ops listed → (∀ u ∈ U, listed.getD u true = false) → YieldsIf P ops S o v a → S w →
      wpTill P md ops Q S z m (listed.setIfInBounds i true) (a.put o.dst v) w → wpTill P md ops Q S z (m + 1) listed a w
  | m, listed, a, w, hfree, hr, hU, hy, hS, H => by
    have hri := (mem_ready.1 hr).1
    have hiU := late_not hl hU hri hr
    refine ⟨fun h => (by rw [h] at hr; cases hr), fun j hj => ?_⟩
    rcases Decidable.em (j = i) with rfl | hne
    · exact hy.wpOp ho hS ⟨fun _ => hS, H⟩
    · have hj2 := ready_mono hj hne
      match m, H with
      | 0, H => rw [H.1] at hj2; cases hj2
      | m + 1, H =>
        obtain ⟨hjl, q, hq, hall⟩ := mem_ready.1 hj
        have hjU := late_not hl hU hri hj
        have hU2 : ∀ u ∈ U, (listed.setIfInBounds j true).getD u true = false := fun u hu => by
          have hne2 : j ≠ u := fun e => hjU (by rw [e]; exact hu)
          rw [getD_set_ne true hne2]; exact hU u hu
        have hz2 : ((listed.setIfInBounds i true).setIfInBounds j true).getD z true = false := by
          have hne2 : i ≠ z := fun e => hiU (by rw [e]; exact hz)
          rw [Array.setIfInBounds_comm _ _ (Ne.symm hne), getD_set_ne true hne2]; exact hU2 z hz
        refine wpOp_mono (fun b u hb => ?_) (wpOp_putIf hq (hfree j q hq hne hjl (fun e he hbe heq => shut_of hri (heq ▸ hall e he hbe))) (fun cs b => hsel i o cs b ho) (fun cs b => hsel j q cs b hq) hQ hy (H.2 j hj2))
        have hSu := hb.2.1 hz2
        refine ⟨fun _ => hSu, wpTill_first ho hsel hQ hl hz m _ b u (fun k r hk hki hkl hno => hfree k r hk hki ?_ hno) (ready_mono hr (Ne.symm hne)) hU2 hb.1 hSu ?_⟩
        · rcases Decidable.em (j = k) with rfl | hjk
          · exact hjl
          · rwa [getD_set_ne true hjk] at hkl
        · rw [Array.setIfInBounds_comm _ _ hne]; exact hb.2.2

theorem wpTill_take {i : Nat} {o : Oper} {v : Value} (U : List Nat) {m : Nat} {listed : Array Bool} {a : Act} {w : World} (ho : ops[i]? = some o)
    (hs : Region.noSelect ops = true) (hf : Region.free md ops listed i = true) (hr : (Region.ready md ops listed).contains i = true)
    (hl : (lateB md ops i U && openB listed U && U.contains z) = true)
    (hQ : ∀ c a w, Q (.panic c) (a.put o.dst v) w → Q (.panic c) a w) (hy : YieldsIf P ops S o v a) (hS : S w)
    (h : wpTill P md ops Q S z m (listed.setIfInBounds i true) (a.put o.dst v) w) : wpTill P md ops Q S z (m + 1) listed a w := by
  simp only [Bool.and_eq_true] at hl
  exact wpTill_first ho (Region.noSelect_spec hs) hQ hl.1.1 (by simpa using hl.2) m listed a w (Region.free_spec ho hf) (by simpa using hr)
    (fun u hu => by have := List.all_eq_true.1 hl.1.2 u hu; simpa using this) hy hS h
/-- One operation alone may come up: S is to be shown anew behind it. -/
theorem wpTill_one {i : Nat} {o : Oper} {m : Nat} {listed : Array Bool} {a : Act} {w : World} (hr : Region.ready md ops listed = [i]) (ho : ops[i]? = some o)
    (h : ∀ K : Act → World → Prop, Shut (∀ b u, S u → (S u → wpTill P md ops Q S z m (listed.setIfInBounds i true) b u) → K b u) → if Region.wanted o (yielded ops a.tmps) = true then Oper.wp P o a w K Q else K (a.put o.dst undef) w) :
    wpTill P md ops Q S z (m + 1) listed a w := by
  refine ⟨fun h0 => (by rw [hr] at h0; cases h0), fun j hj => ?_⟩
  rw [hr, List.mem_singleton] at hj
  subst hj
  exact wpOp_step ho fun K hK => h K fun b u hS hW => hK b u ⟨fun _ => hS, hW hS⟩
/-- .. the last one. -/
theorem wpTill_last {o : Oper} {m : Nat} {listed : Array Bool} {a : Act} {w : World} (hr : Region.ready md ops listed = [z]) (ho : ops[z]? = some o) (hn : (listed.setIfInBounds z true).getD z true = true)
    (h : ∀ K : Act → World → Prop, Shut (∀ b u, wpTill P md ops Q S z m (listed.setIfInBounds z true) b u → K b u) → if Region.wanted o (yielded ops a.tmps) = true then Oper.wp P o a w K Q else K (a.put o.dst undef) w) :
    wpTill P md ops Q S z (m + 1) listed a w := by
  refine ⟨fun h0 => (by rw [hr] at h0; cases h0), fun j hj => ?_⟩
  rw [hr, List.mem_singleton] at hj
  subst hj
  exact wpOp_step ho fun K hK => h K fun b u hW => hK b u ⟨fun e => (by rw [hn] at e; cases e), hW⟩
theorem wpTill_done {listed : Array Bool} {a : Act} {w : World} (hr : Region.ready md ops listed = []) (h : Q .normal a w) : ∀ m, wpTill P md ops Q S z m listed a w
  | 0 => ⟨hr, h⟩
  | _ + 1 => ⟨fun _ => h, by rw [hr]; simp⟩
theorem wp_region_till {id : Nat} {a : Act} {w : World} (hm : P.follows .mixedOrders = true) (hS : S w.drew)
    (h : S w.drew → wpTill P .any ops Q S z ops.size (Array.replicate ops.size false) a w.drew) : (Code.region id ops true).wp P Q a w := wp_region_any hm (wpTill.any _ _ _ _ (h hS))
end

end Go.Proofs.YtdbgncinaacheaaDoor
