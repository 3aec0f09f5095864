/- Helpers of the exact laws on one node: toNode, szNode. Helpers of the exact laws on networks: szNetwork, toNetwork. markText, markNetwork, heldNetwork. -/
import Derived.Test.YtdbgncinaacheaaDoorBase
import Derived.Test.YtdbgncinaacheaaDoorNet
import Derived.Deep.OwnRows
import Derived.Laws.BytesArg
namespace Go.Proofs.YtdbgncinaacheaaDoor
open Go.RowKit

/-- The value of a node. -/
abbrev vN (x : Nd) : Value := .agg #[.string x.name, .int .i64 x.low, .int .i64 x.high]

theorem toNode_any (x : Nd) (w : World) :
    Calls Tryd.prog 23 #[.agg #[.string x.name, .int .i64 x.low, .int .i64 x.high]] w fun e w' => e = .returned (.agg #[.string x.name, .int .i64 x.low, .int .i64 x.high]) ∧ Below w.heap.size w w' := by
  go_enter Tryd.func23, Tryd.ntmps23
  go_wp2
  refine bodyPost_ret (v := .agg #[.string x.name, .int .i64 x.low, .int .i64 x.high]) (by simp [results, Tryd.results23, go_sem]) rfl ⟨rfl, ?_⟩
  exact (((Below.refl _ _).alloc (Nat.le_refl _) _).alloc (by simp) _).alloc (by simp; omega) _

def szL (l n : Int) : Int := if n ≤ l then l - n else -1
theorem szNode_any (x : Nd) (l : Int) (w : World) (hs : x.name.size ≤ 9223372036854775807) (h0 : 0 ≤ l) (h1 : l ≤ 2000000) :
    Calls Tryd.prog 21 #[.agg #[.string x.name, .int .i64 x.low, .int .i64 x.high], .int .i64 l] w fun e w' => e = .returned (.int .i64 (szL l x.name.size)) ∧ Below w.heap.size w w' := by
  by_cases h : (x.name.size : Int) ≤ l
  · have hr : Hid (szL l x.name.size = l - x.name.size) := if_pos h
    go_enter Tryd.func21, Tryd.ntmps21
    go_wp2
    go_ret
    exact ⟨ret_int hr.out.symm, (Below.refl _ _).alloc (Nat.le_refl _) _⟩
  · have hr : Hid (szL l x.name.size = -1) := if_neg h
    go_enter Tryd.func21, Tryd.ntmps21
    go_wp2
    go_ret
    exact ⟨ret_int hr.out.symm, (Below.refl _ _).alloc (Nat.le_refl _) _⟩

end Go.Proofs.YtdbgncinaacheaaDoor

namespace Go.Proofs.YtdbgncinaacheaaDoor
open Go.RowKit

/-- The letters of all names. -/
def nsz (ns : List Nd) : Nat := (ns.map (fun x => x.name.size)).sum
theorem nsz_take_succ (ns : List Nd) (k : Nat) (h : k < ns.length) : nsz (ns.take (k + 1)) = nsz (ns.take k) + ns[k].name.size := by
  unfold nsz; rw [List.take_succ_eq_append_getElem h, List.map_append, List.sum_append]; simp
theorem nsz_take_le (ns : List Nd) (k : Nat) : nsz (ns.take k) ≤ nsz ns := by
  unfold nsz
  have : (ns.take k ++ ns.drop k).map (fun x => x.name.size) = _ := List.map_append
  rw [List.take_append_drop] at this
  rw [this, List.sum_append]; omega
theorem nsz_mem {ns : List Nd} {x : Nd} (h : x ∈ ns) : x.name.size ≤ nsz ns := by
  unfold nsz
  induction ns with
  | nil => simp at h
  | cons a l ih =>
    simp only [List.map_cons, List.sum_cons]
    rcases List.mem_cons.1 h with rfl | h
    · omega
    · have := ih h; omega

def SzRel (ns : List Nd) (l : Int) (w : World) (t i : Value) (wr : World) : Prop :=
  ∃ k : Nat, i = .int .i64 k ∧ k ≤ ns.length ∧ t = .int .i64 (l - ns.length - nsz (ns.take k)) ∧ 0 ≤ l - ns.length - nsz (ns.take k) ∧ Below w.heap.size w wr

set_option maxHeartbeats 400000 in
theorem szNodeS_any (v : Value) (ns : List Nd) (l : Int) (w : World) (h : RowsAt encN 3 w v ns) (hok : NamesOk ns) (h0 : 0 ≤ l) (h1 : l ≤ 2000000) :
    Calls Tryd.prog 69 #[v, .int .i64 l] w fun e w' => e = .returned (.int .i64 (szL l (ns.length + nsz ns : Nat))) ∧ Below w.heap.size w w' := by
  have HR := hid h
  obtain ⟨hm, a, cap, rfl, hc⟩ := h
  clear hc
  by_cases hl : (ns.length : Int) ≤ l
  case neg =>
    have hr : Hid (szL l (ns.length + nsz ns : Nat) = -1) := if_neg (by omega)
    go_enter Tryd.func69, Tryd.ntmps69
    go_wp2
    go_ret
    exact ⟨ret_int hr.out.symm, Below.refl _ _⟩
  go_enter Tryd.func69, Tryd.ntmps69
  go_wp2
  go_loopw [1, 5] (fun t i wr => SzRel ns l w t i wr) (fun _ i _ => ns.length - (intOf i).toNat)
  case atStart => exact ⟨0, rfl, by omega, by simp [nsz], by simp [nsz]; omega, Below.refl _ _⟩
  case round =>
    obtain ⟨k, rfl, hk, rfl, hge, hbel⟩ := hrel
    by_cases hlt : k < ns.length
    · obtain ⟨b, off, rfl, hb, hcc⟩ := HR.out.at' (by omega)
      obtain ⟨c0, c1, c2⟩ := cellsN (hcc k hlt)
      have c0 := (hbel.cell (p := ⟨b, off + k * 3, none⟩) hb).trans c0
      have c1 := (hbel.cell (p := ⟨b, off + k * 3 + 1, none⟩) hb).trans c1
      have c2 := (hbel.cell (p := ⟨b, off + k * 3 + 2, none⟩) hb).trans c2
      have hsz := hok ns[k] (List.getElem_mem hlt)
      have e1 := nsz_take_succ ns k hlt
      have e2 := nsz_take_le ns (k + 1)
      have HE := hid e1
      rw [e1] at e2
      clear hcc e1
      by_cases hfit : (ns[k].name.size : Int) ≤ l - ns.length - nsz (ns.take k)
      · have hr : Hid (szL (l - ns.length - nsz (ns.take k)) ns[k].name.size = l - ns.length - nsz (ns.take k) - ns[k].name.size) := if_pos hfit
        go_wp2_with fail
        refine (szNode_any ns[k] _ _ hsz hge (by omega)).mono ?_
        rw [hr.out]
        rintro e w1 ⟨rfl, b1⟩
        have HB := hid (hbel.trans (b1.mono hbel.size))
        clear hbel b1
        go_wp2_with fail
        go_roundw
        case rel => exact ⟨k + 1, by go_num, by omega, by rw [HE.out]; go_num, by rw [HE.out]; omega, HB.out⟩
        case measure => simp [intOf]; omega
      · have hr : Hid (szL (l - ns.length - nsz (ns.take k)) ns[k].name.size = -1) := if_neg hfit
        have hr2 : Hid (szL l (ns.length + nsz ns : Nat) = -1) := if_neg (by omega)
        go_wp2_with fail
        refine (szNode_any ns[k] _ _ hsz hge (by omega)).mono ?_
        rw [hr.out]
        rintro e w1 ⟨rfl, b1⟩
        have HB := hid (hbel.trans (b1.mono hbel.size))
        clear hbel b1
        go_wp2_with fail
        go_ret
        exact ⟨ret_int hr2.out.symm, HB.out⟩
    · obtain rfl : k = ns.length := by omega
      rw [List.take_of_length_le (Nat.le_refl _)] at hge ⊢
      have hr2 : Hid (szL l (ns.length + nsz ns : Nat) = l - ns.length - nsz ns) := by rw [Hid, szL, if_pos (by omega)]; omega
      have HB := hid hbel
      clear hbel
      go_wp2_with fail
      go_ret
      exact ⟨ret_int hr2.out.symm, HB.out⟩

theorem szPipeS_any (v : Value) (ps : List Pp) (l : Int) (w : World) (h : RowsAt encP 5 w v ps) (h0 : 0 ≤ l) (h1 : l ≤ 2000000) :
    Calls Tryd.prog 70 #[v, .int .i64 l] w fun e w' => e = .returned (.int .i64 (szL l ps.length)) ∧ w = w' := by
  obtain ⟨hm, a, cap, rfl, hc⟩ := h
  clear hc
  by_cases hl : (ps.length : Int) ≤ l
  · have hr : Hid (szL l ps.length = l - ps.length) := if_pos hl
    go_enter Tryd.func70, Tryd.ntmps70
    go_wp2
    go_ret
    exact ⟨ret_int hr.out.symm, rfl⟩
  · have hr : Hid (szL l ps.length = -1) := if_neg hl
    go_enter Tryd.func70, Tryd.ntmps70
    go_wp2
    go_ret
    exact ⟨ret_int hr.out.symm, rfl⟩

/-- The bulk of a network. -/
def netSz (n : Net) : Nat := n.nodes.length + nsz n.nodes + n.pipes.length

set_option maxHeartbeats 400000 in
theorem szNetwork_any (nv pv : Value) (n : Net) (l : Int) (w : World) (h : NetAt w nv pv n) (h0 : 0 ≤ l) (h1 : l ≤ 2000000) :
    Calls Tryd.prog 29 #[.agg #[nv, pv], .int .i64 l] w fun e w' => e = .returned (.int .i64 (szL l (netSz n))) ∧ Below w.heap.size w w' := by
  obtain ⟨hn, hok, hp⟩ := h
  have bb := below_new w (.cells #[nv, pv] 48)
  have hn1 := hn.below bb
  have hp1 := hp.below bb
  clear hn hp bb
  go_enter Tryd.func29, Tryd.ntmps29
  go_wp2_with fail
  refine (szNodeS_any nv n.nodes l _ hn1 hok h0 h1).mono ?_
  by_cases hl : ((n.nodes.length + nsz n.nodes : Nat) : Int) ≤ l
  · have hr : Hid (szL l (n.nodes.length + nsz n.nodes : Nat) = l - (n.nodes.length + nsz n.nodes : Nat)) := if_pos hl
    rw [hr.out]
    rintro e w1 ⟨rfl, b1⟩
    have hp2 := hp1.below b1
    have B := (below_new w _).trans (b1.mono (by simp))
    have bx := (Box.new w _ _).below b1
    obtain ⟨c0, c1⟩ := bx.two
    have hl2 : 0 ≤ l - (n.nodes.length + nsz n.nodes : Nat) := by omega
    have hl3 : l - (n.nodes.length + nsz n.nodes : Nat) ≤ 2000000 := by omega
    have hr3 : Hid (szL (l - (n.nodes.length + nsz n.nodes : Nat)) n.pipes.length = szL l (netSz n)) := by
      unfold Hid szL netSz; split <;> split <;> omega
    generalize l - (n.nodes.length + nsz n.nodes : Nat) = l2 at *
    clear b1 hn1 hp1 hr hok
    go_wp2_with fail
    refine (szPipeS_any pv n.pipes _ _ hp2 (by omega) (by omega)).mono ?_
    rw [hr3.out]
    rintro e w' ⟨rfl, rfl⟩
    have hz : szL l (netSz n) = -1 ∨ 0 ≤ szL l (netSz n) := by unfold szL; split <;> omega
    clear hl2 hl3 hr3 hp2
    obtain ⟨r, hr⟩ : ∃ r, r = szL l (netSz n) := ⟨_, rfl⟩
    rw [← hr] at hz ⊢
    have HRR := hid hr
    clear hr
    rcases hz with rfl | hz
    · go_wp2_with fail
      go_ret
      exact ⟨ret_int HRR.out, B⟩
    · go_wp2_with fail
      go_ret
      exact ⟨ret_int HRR.out, B⟩
  · have hr : Hid (szL l (n.nodes.length + nsz n.nodes : Nat) = -1) := if_neg hl
    rw [hr.out]
    rintro e w1 ⟨rfl, b1⟩
    have B := (below_new w _).trans (b1.mono (by simp))
    have hr3 : Hid (szL l (netSz n) = -1) := if_neg (by unfold netSz; omega)
    go_wp2_with fail
    go_ret
    exact ⟨ret_int hr3.out.symm, B⟩

abbrev vP (x : Pp) : Value := .agg #[.int .i64 x.fr, .int .i64 x.to, .int .i64 x.k, .int .i64 x.vol, .int .i64 x.lim]

theorem toPipe_any (x : Pp) (w : World) :
    Calls Tryd.prog 99 #[.agg #[.int .i64 x.fr, .int .i64 x.to, .int .i64 x.k, .int .i64 x.vol, .int .i64 x.lim]] w fun e w' => e = .returned (.agg #[.int .i64 x.fr, .int .i64 x.to, .int .i64 x.k, .int .i64 x.vol, .int .i64 x.lim]) ∧ Below w.heap.size w w' := by
  go_enter Tryd.func99, Tryd.ntmps99
  go_wp2
  refine bodyPost_ret (v := .agg #[.int .i64 x.fr, .int .i64 x.to, .int .i64 x.k, .int .i64 x.vol, .int .i64 x.lim]) (by simp [results, Tryd.results99, go_sem]) rfl ⟨rfl, ?_⟩
  exact (((Below.refl _ _).alloc (Nat.le_refl _) _).alloc (by simp) _).alloc (by simp; omega) _

theorem infoN : (Tryd.prog.info? 37).map (fun i => (i.zero, i.size, i.bytes)) = some (some (.agg #[.string ByteArray.empty, .int .i64 0, .int .i64 0]), 3, 32) := by kernel_rfl
theorem infoP : (Tryd.prog.info? 72).map (fun i => (i.zero, i.size, i.bytes)) = some (some (.agg #[.int .i64 0, .int .i64 0, .int .i64 0, .int .i64 0, .int .i64 0]), 5, 40) := by kernel_rfl

/-- make of a slice of structs. -/
theorem run_make_agg {P : Program} (t e : TypeId) (z : Value) (sz bytes : Nat) (ht : P.underlying t = some (.slice e)) (hinfo : (P.info? e).map (fun i => (i.zero, i.size, i.bytes)) = some (some z, sz, bytes)) (n : Nat) (hb : bytes * n ≤ 281474976710656) (h63 : n ≤ 9223372036854775807) (w : World) :
    (Instr.makeSlice t (.int .i64 (n : Int)) (.int .i64 (n : Int))).run P w = .ok (.slice (some ⟨w.heap.size, 0, none⟩) n n) (w.alloc (.cells (madeCells z.cells (n * sz)) e)) := by
  obtain ⟨i, hi, hz0, hz1, hz2⟩ := info_parts hinfo
  have hb' : (i.bytes : Int) * (n : Int) ≤ 281474976710656 := by
    have h : ((i.bytes * n : Nat) : Int) ≤ 281474976710656 := by rw [hz2]; omega
    rwa [Int.natCast_mul] at h
  have hr := run_make (P := P) w t e i z ht hi hz0 .i64 .i64 n n (by omega) (Int.le_refl _) hb' (by omega)
  simp only [Int.toNat_natCast, hz1] at hr
  exact hr

theorem made_rows {α : Type} (en : α → List Value) (sz : Nat) (z : α) (hz : (en z).length = sz) (X : Nat → Prop) (w : World) (T : TypeId) (n : Nat) (hn : n ≤ 9223372036854775807) (hX : X w.heap.size) :
    RowsOwn en sz X (w.alloc (.cells (madeCells (en z).toArray (n * sz)) T)) (.slice (some ⟨w.heap.size, 0, none⟩) n n) (List.replicate n z) := by
  refine ⟨by simpa using hn, some ⟨w.heap.size, 0, none⟩, n, by simp, ?_⟩
  rcases Nat.eq_zero_or_pos n with h0 | h0
  · subst h0; exact Or.inl (by simp)
  · refine Or.inr ⟨w.heap.size, 0, rfl, by simp, hX, fun o => by simp, fun i hi j hj => ?_⟩
    simp only [List.getElem_replicate] at hj ⊢
    simp only [List.length_replicate] at hi
    rw [World.cell?_alloc_new, Nat.zero_add]
    have hlt : i * sz + j < n * sz := by
      have : (i + 1) * sz ≤ n * sz := Nat.mul_le_mul_right _ (by omega)
      rw [Nat.add_mul] at this; omega
    have hm : (i * sz + j) % sz = j := by rw [Nat.mul_comm, Nat.mul_add_mod]; exact Nat.mod_eq_of_lt (by omega)
    have hg : (madeCells (en z).toArray (n * sz))[i * sz + j]? = some ((en z).toArray[(i * sz + j) % sz]!) := by
      rw [Array.getElem?_eq_getElem (by rw [size_madeCells]; exact hlt)]
      simp [madeCells, hz]
    rw [hg, hm]
    simp [hj]

def ToNRel (xs : List Nd) (v : Value) (w : World) (i : Value) (wr : World) : Prop :=
  ∃ k : Nat, i = .int .i64 k ∧ k ≤ xs.length ∧ RowsOwn encN 3 (fun b => b = w.heap.size) wr v (xs.take k ++ List.replicate (xs.length - k) zN) ∧ Below w.heap.size w wr
theorem fill_setN (zs : List Nd) (z : Nd) (k : Nat) (h : k < zs.length) : (zs.take k ++ List.replicate (zs.length - k) z).set k zs[k] = zs.take (k + 1) ++ List.replicate (zs.length - (k + 1)) z := by
  apply List.ext_getElem
  · simp; omega
  · intro i h1 h2
    simp only [List.getElem_set, List.getElem_append, List.length_take, List.getElem_take, List.getElem_replicate]
    by_cases e : k = i
    · subst e; rw [if_pos rfl, dif_pos (by omega)]
    · rw [if_neg e]
      by_cases e2 : i < k
      · rw [dif_pos (by omega), dif_pos (by omega)]
      · rw [dif_neg (by omega), dif_neg (by omega)]

set_option maxHeartbeats 400000 in
theorem toNodeS_any (v : Value) (xs : List Nd) (w : World) (h : RowsAt encN 3 w v xs) (hlen : xs.length ≤ 2000000) :
    Calls Tryd.prog 73 #[v] w fun e w' => ∃ r, e = .returned r ∧ RowsOwn encN 3 (fun b => w.heap.size ≤ b ∧ b < w'.heap.size) w' r xs ∧ CapOk r ∧ Below w.heap.size w w' := by
  have HR := hid h
  obtain ⟨_, a, cap, rfl, hc⟩ := h
  clear hc
  have hmk := run_make_agg (P := Tryd.prog) 22 37 (.agg #[.string ByteArray.empty, .int .i64 0, .int .i64 0]) 3 32 Tryd.underlying22 infoN xs.length (by omega) (by omega)
  have hmade := made_rows encN 3 zN rfl (fun b => b = w.heap.size) w 37 xs.length (by omega) rfl
  have HM := hid hmade
  clear hmade
  go_enter Tryd.func73, Tryd.ntmps73
  go_wp2
  clear hmk
  go_loopw [4] (fun i wr => ToNRel xs (.slice (some ⟨w.heap.size, 0, none⟩) xs.length xs.length) w i wr) (fun i _ => xs.length - (intOf i).toNat)
  case atStart => exact ⟨0, rfl, by omega, by rw [List.take_zero, List.nil_append, Nat.sub_zero]; exact HM.out, below_new _ _⟩
  case round =>
    obtain ⟨k, rfl, hk, hown, hbel⟩ := hrel
    by_cases hlt : k < xs.length
    · have hl : (xs.take k ++ List.replicate (xs.length - k) zN).length = xs.length := by simp; omega
      obtain ⟨b, off, rfl, hb, hcc⟩ := HR.out.at' (by omega)
      obtain ⟨c0, c1, c2⟩ := cellsN (hcc k hlt)
      have c0 := (hbel.cell (p := ⟨b, off + k * 3, none⟩) hb).trans c0
      have c1 := (hbel.cell (p := ⟨b, off + k * 3 + 1, none⟩) hb).trans c1
      have c2 := (hbel.cell (p := ⟨b, off + k * 3 + 2, none⟩) hb).trans c2
      have HBel := hid hbel
      clear hcc
      go_wp2_with fail
      refine (toNode_any xs[k] _).mono ?_
      rintro e w1 ⟨rfl, b1⟩
      have hown1 := hown.below b1
      obtain ⟨g, goff, hg, hgl, rfl, hfr, hgc⟩ := hown1.at' (by omega)
      simp only [Option.some.injEq, Addr.mk.injEq, true_and, and_true] at hg
      subst hg
      obtain ⟨d0, d1, d2⟩ := cellsN (hgc k (by omega))
      rw [Nat.zero_add] at d0 d1 d2
      have f0 := hfr (k * 3)
      obtain ⟨o0, e0⟩ : ∃ o, w1.cell? ⟨w.heap.size, k * 3, none⟩ = some o := ⟨_, d0⟩
      have f1 := hfr (k * 3 + 1)
      obtain ⟨o1, e1⟩ : ∃ o, w1.cell? ⟨w.heap.size, k * 3 + 1, none⟩ = some o := ⟨_, d1⟩
      have f2 := hfr (k * 3 + 2)
      obtain ⟨o2, e2⟩ : ∃ o, w1.cell? ⟨w.heap.size, k * 3 + 2, none⟩ = some o := ⟨_, d2⟩
      have HSET := hid (hown1.setN k (by omega) xs[k])
      have HB := hid (HBel.out.trans (b1.mono HBel.out.size))
      clear d0 d1 d2 hown hown1 hfr hgc hbel b1 HBel c0 c1 c2 hl
      go_wp2_with fail
      go_roundw
      case rel =>
        refine ⟨k + 1, by go_num, by omega, ?_, ?_⟩
        · rw [← fill_setN xs zN k hlt]
          have := HSET.out
          rw [Nat.zero_add] at this
          exact this
        · exact ((HB.out.setCell (Nat.le_refl _) _).setCell (Nat.le_refl _) _).setCell (Nat.le_refl _) _
      case measure => simp [intOf]; omega
    · obtain rfl : k = xs.length := by omega
      have hown2 : RowsOwn encN 3 (fun b => w.heap.size ≤ b ∧ b < wr.heap.size) wr (.slice (some ⟨w.heap.size, 0, none⟩) xs.length xs.length) xs := by
        rw [List.take_of_length_le (Nat.le_refl _), Nat.sub_self, List.replicate_zero, List.append_nil] at hown
        exact hown.mono (fun b hb e => ⟨by omega, hb⟩)
      have HO := hid hown2
      have HB := hid hbel
      clear hown hown2 hbel
      go_wp2_with fail
      go_ret
      exact ⟨_, rfl, HO.out, CapOk.mk (Nat.le_refl _), HB.out⟩

def ToPRel (xs : List Pp) (v : Value) (w : World) (i : Value) (wr : World) : Prop :=
  ∃ k : Nat, i = .int .i64 k ∧ k ≤ xs.length ∧ RowsOwn encP 5 (fun b => b = w.heap.size) wr v (xs.take k ++ List.replicate (xs.length - k) zP) ∧ Below w.heap.size w wr
theorem fill_setP (zs : List Pp) (z : Pp) (k : Nat) (h : k < zs.length) : (zs.take k ++ List.replicate (zs.length - k) z).set k zs[k] = zs.take (k + 1) ++ List.replicate (zs.length - (k + 1)) z := by
  apply List.ext_getElem
  · simp; omega
  · intro i h1 h2
    simp only [List.getElem_set, List.getElem_append, List.length_take, List.getElem_take, List.getElem_replicate]
    by_cases e : k = i
    · subst e; rw [if_pos rfl, dif_pos (by omega)]
    · rw [if_neg e]
      by_cases e2 : i < k
      · rw [dif_pos (by omega), dif_pos (by omega)]
      · rw [dif_neg (by omega), dif_neg (by omega)]

set_option maxHeartbeats 400000 in
theorem toPipeS_any (v : Value) (xs : List Pp) (w : World) (h : RowsAt encP 5 w v xs) (hlen : xs.length ≤ 2000000) :
    Calls Tryd.prog 74 #[v] w fun e w' => ∃ r, e = .returned r ∧ RowsOwn encP 5 (fun b => w.heap.size ≤ b ∧ b < w'.heap.size) w' r xs ∧ CapOk r ∧ Below w.heap.size w w' := by
  have HR := hid h
  obtain ⟨_, a, cap, rfl, hc⟩ := h
  clear hc
  have hmk := run_make_agg (P := Tryd.prog) 23 72 (.agg #[.int .i64 0, .int .i64 0, .int .i64 0, .int .i64 0, .int .i64 0]) 5 40 Tryd.underlying23 infoP xs.length (by omega) (by omega)
  have hmade := made_rows encP 5 zP rfl (fun b => b = w.heap.size) w 72 xs.length (by omega) rfl
  have HM := hid hmade
  clear hmade
  go_enter Tryd.func74, Tryd.ntmps74
  go_wp2
  clear hmk
  go_loopw [4] (fun i wr => ToPRel xs (.slice (some ⟨w.heap.size, 0, none⟩) xs.length xs.length) w i wr) (fun i _ => xs.length - (intOf i).toNat)
  case atStart => exact ⟨0, rfl, by omega, by rw [List.take_zero, List.nil_append, Nat.sub_zero]; exact HM.out, below_new _ _⟩
  case round =>
    obtain ⟨k, rfl, hk, hown, hbel⟩ := hrel
    by_cases hlt : k < xs.length
    · have hl : (xs.take k ++ List.replicate (xs.length - k) zP).length = xs.length := by simp; omega
      obtain ⟨b, off, rfl, hb, hcc⟩ := HR.out.at' (by omega)
      obtain ⟨c0, c1, c2, c3, c4⟩ := cellsP (hcc k hlt)
      have c0 := (hbel.cell (p := ⟨b, off + k * 5, none⟩) hb).trans c0
      have c1 := (hbel.cell (p := ⟨b, off + k * 5 + 1, none⟩) hb).trans c1
      have c2 := (hbel.cell (p := ⟨b, off + k * 5 + 2, none⟩) hb).trans c2
      have c3 := (hbel.cell (p := ⟨b, off + k * 5 + 3, none⟩) hb).trans c3
      have c4 := (hbel.cell (p := ⟨b, off + k * 5 + 4, none⟩) hb).trans c4
      have HBel := hid hbel
      clear hcc
      go_wp2_with fail
      refine (toPipe_any xs[k] _).mono ?_
      rintro e w1 ⟨rfl, b1⟩
      have hown1 := hown.below b1
      obtain ⟨g, goff, hg, hgl, rfl, hfr, hgc⟩ := hown1.at' (by omega)
      simp only [Option.some.injEq, Addr.mk.injEq, true_and, and_true] at hg
      subst hg
      obtain ⟨d0, d1, d2, d3, d4⟩ := cellsP (hgc k (by omega))
      rw [Nat.zero_add] at d0 d1 d2 d3 d4
      have f0 := hfr (k * 5)
      obtain ⟨o0, e0⟩ : ∃ o, w1.cell? ⟨w.heap.size, k * 5, none⟩ = some o := ⟨_, d0⟩
      have f1 := hfr (k * 5 + 1)
      obtain ⟨o1, e1⟩ : ∃ o, w1.cell? ⟨w.heap.size, k * 5 + 1, none⟩ = some o := ⟨_, d1⟩
      have f2 := hfr (k * 5 + 2)
      obtain ⟨o2, e2⟩ : ∃ o, w1.cell? ⟨w.heap.size, k * 5 + 2, none⟩ = some o := ⟨_, d2⟩
      have f3 := hfr (k * 5 + 3)
      obtain ⟨o3, e3⟩ : ∃ o, w1.cell? ⟨w.heap.size, k * 5 + 3, none⟩ = some o := ⟨_, d3⟩
      have f4 := hfr (k * 5 + 4)
      obtain ⟨o4, e4⟩ : ∃ o, w1.cell? ⟨w.heap.size, k * 5 + 4, none⟩ = some o := ⟨_, d4⟩
      have HSET := hid (hown1.setP k (by omega) xs[k])
      have HB := hid (HBel.out.trans (b1.mono HBel.out.size))
      clear d0 d1 d2 d3 d4 hown hown1 hfr hgc hbel b1 HBel c0 c1 c2 c3 c4 hl
      go_wp2_with fail
      go_roundw
      case rel =>
        refine ⟨k + 1, by go_num, by omega, ?_, ?_⟩
        · rw [← fill_setP xs zP k hlt]
          have := HSET.out
          rw [Nat.zero_add] at this
          exact this
        · exact ((((HB.out.setCell (Nat.le_refl _) _).setCell (Nat.le_refl _) _).setCell (Nat.le_refl _) _).setCell (Nat.le_refl _) _).setCell (Nat.le_refl _) _
      case measure => simp [intOf]; omega
    · obtain rfl : k = xs.length := by omega
      have hown2 : RowsOwn encP 5 (fun b => w.heap.size ≤ b ∧ b < wr.heap.size) wr (.slice (some ⟨w.heap.size, 0, none⟩) xs.length xs.length) xs := by
        rw [List.take_of_length_le (Nat.le_refl _), Nat.sub_self, List.replicate_zero, List.append_nil] at hown
        exact hown.mono (fun b hb e => ⟨by omega, hb⟩)
      have HO := hid hown2
      have HB := hid hbel
      clear hown hown2 hbel
      go_wp2_with fail
      go_ret
      exact ⟨_, rfl, HO.out, CapOk.mk (Nat.le_refl _), HB.out⟩

set_option maxHeartbeats 400000 in
theorem toNetwork_sep (nv pv : Value) (n : Net) (w : World) (h : NetAt w nv pv n) (hl1 : n.nodes.length ≤ 2000000) (hl2 : n.pipes.length ≤ 2000000) :
    Calls Tryd.prog 31 #[.agg #[nv, pv]] w fun e w' => ∃ nv' pv', e = .returned (.agg #[nv', pv']) ∧ NetSep w.heap.size w'.heap.size w' nv' pv' n ∧ (CapOk nv' ∧ CapOk pv') ∧ Below w.heap.size w w' := by
  obtain ⟨hn, hok, hp⟩ := h
  have hWb := (((Below.refl w.heap.size w).alloc (Nat.le_refl _) (.cells #[nv, pv] 48)).alloc (by simp) (.cells #[.slice none 0 0, .slice none 0 0] 25)).alloc (by simp; omega) (.cells #[.slice none 0 0, .slice none 0 0] 25)
  have hn := hn.below hWb
  have HP := hid hp
  clear hp
  go_enter Tryd.func31, Tryd.ntmps31
  go_wp2_with fail
  refine (toNodeS_any nv n.nodes _ hn hl1).mono ?_
  rintro e w1 ⟨r1, rfl, hr1, hq1, b1⟩
  have hs1 := b1.size
  obtain ⟨hc, hf⟩ := bcell b1
  simp only [World.size_alloc] at hc hf hs1
  have HB := hid (hWb.trans (b1.mono (by simp; omega)))
  clear hn hWb b1
  obtain ⟨a1, k1, rfl⟩ := hr1.at.shape
  have hk : Kept (· = w.heap.size + 1 + 1) w1 (w1.setCell ⟨w.heap.size + 1 + 1, 0, none⟩ (.slice a1 n.nodes.length k1)) := (Kept.refl (· = w.heap.size + 1 + 1) w1).setCell (X := (· = w.heap.size + 1 + 1)) (p := ⟨w.heap.size + 1 + 1, 0, none⟩) rfl _
  have hr1b := hr1.kept hk (fun b _ h1 h2 => by have h3 := h1.1; simp only [World.size_alloc] at h3; omega)
  have HB2 := hid (HB.out.setCell (p := ⟨w.heap.size + 1 + 1, 0, none⟩) (by show w.heap.size ≤ w.heap.size + 1 + 1; omega) (.slice a1 n.nodes.length k1))
  clear hr1 hk HB
  go_wp2_with fail
  refine (toPipeS_any pv n.pipes _ (HP.out.below HB2.out) hl2).mono ?_
  rintro e w2 ⟨r2, rfl, hr2, hq2, b2⟩
  have hr1c := hr1b.below b2
  have hs2 := b2.size
  obtain ⟨hc2, hf2⟩ := bcell b2
  simp only [World.size_setCell] at hc2 hf2 hs2
  have HB3 := hid (HB2.out.trans (b2.mono HB2.out.size))
  obtain ⟨a2, k2, rfl⟩ := hr2.at.shape
  have HN1 := hid hr1c
  have HN2 := hid hr2
  have i1 : w.heap.size < w1.heap.size := by omega
  have i2 : w.heap.size + 1 < w1.heap.size := by omega
  have i3 : w.heap.size + 1 + 1 < w1.heap.size := by omega
  clear hr1b hr1c hr2 b2 HB2
  go_wp2_with fail
  have hk3 : ∀ v0 v1 v2, Kept (fun b => b = w.heap.size + 1 + 1 ∨ b = w.heap.size + 1) w2 (((w2.setCell ⟨w.heap.size + 1 + 1, 1, none⟩ v0).setCell ⟨w.heap.size + 1, 0, none⟩ v1).setCell ⟨w.heap.size + 1, 1, none⟩ v2) := fun v0 v1 v2 =>
    (((Kept.refl (fun b => b = w.heap.size + 1 + 1 ∨ b = w.heap.size + 1) w2).setCell (p := ⟨w.heap.size + 1 + 1, 1, none⟩) (Or.inl rfl) v0).setCell (p := ⟨w.heap.size + 1, 0, none⟩) (Or.inr rfl) v1).setCell (p := ⟨w.heap.size + 1, 1, none⟩) (Or.inr rfl) v2
  refine bodyPost_ret (v := .agg #[.slice a1 n.nodes.length k1, .slice a2 n.pipes.length k2]) (by simp [results, Tryd.results31, go_sem, hc, hc2, i2]) rfl ⟨_, _, rfl, ⟨w1.heap.size, by omega, by simp only [World.size_setCell]; omega, ?_, hok, ?_⟩, ⟨hq1, hq2⟩, ?_⟩
  · refine (HN1.out.kept (hk3 _ _ _) ?_).mono ?_
    · intro b _ h1 h2
      have h3 := h1.1
      simp only [World.size_alloc] at h3; omega
    · intro b h0 h1
      have h3 := h1.1
      simp only [World.size_alloc] at h3
      exact ⟨by omega, h1.2⟩
  · refine (HN2.out.kept (hk3 _ _ _) ?_).mono ?_
    · intro b _ h1 h2
      have h3 := h1.1
      simp only [World.size_setCell] at h3; omega
    · intro b h0 h1
      have h3 := h1.1
      simp only [World.size_setCell] at h3
      exact ⟨by omega, h0⟩
  · exact HB3.out.trans ((hk3 _ _ _).below HB3.out.size (fun k e => by omega))

theorem toNetwork_any (nv pv : Value) (n : Net) (w : World) (h : NetAt w nv pv n) (hl1 : n.nodes.length ≤ 2000000) (hl2 : n.pipes.length ≤ 2000000) :
    Calls Tryd.prog 31 #[.agg #[nv, pv]] w fun e w' => ∃ nv' pv', e = .returned (.agg #[nv', pv']) ∧ NetOwn (fun b => w.heap.size ≤ b ∧ b < w'.heap.size) w' nv' pv' n ∧ (CapOk nv' ∧ CapOk pv') ∧ Below w.heap.size w w' :=
  (toNetwork_sep nv pv n w h hl1 hl2).mono fun _ _ ⟨a, b, h1, h2, h3, h4⟩ => ⟨a, b, h1, h2.own, h3, h4⟩

end Go.Proofs.YtdbgncinaacheaaDoor

namespace Go.Proofs.YtdbgncinaacheaaDoor
open Go.RowKit

def mtGo (k : Nat) (out : ByteArray) : ByteArray := if _h : k = 0 then out else mtGo (k / 10) (strOfNums [48 + (k : Int) % 10] ++ out)
termination_by k
decreasing_by omega
def mt (k : Nat) : ByteArray := ⟨#[109]⟩ ++ mtGo k ⟨#[]⟩
theorem mtGo_zero (out : ByteArray) : mtGo 0 out = out := by rw [mtGo]; simp
theorem mtGo_pos {k : Nat} (h : 0 < k) (out : ByteArray) : mtGo k out = mtGo (k / 10) (strOfNums [48 + (k : Int) % 10] ++ out) := by rw [mtGo, dif_neg (by omega)]

theorem strOne_size (z : Int) : (strOfNums [z]).size = 1 := rfl
theorem conv_one (W : World) (z : Int) : (convert 40 9 (.slice (some ⟨W.heap.size, 0, none⟩) 1 1)).run Tryd.prog (W.alloc (.cells #[.int .u8 z] 5)) = .ok (.string (strOfNums [z])) (W.alloc (.cells #[.int .u8 z] 5)) :=
  run_convert_bytes_arg _ 40 5 Tryd.underlying40 Tryd.underlying5 W.heap.size 0 1 1 [z] rfl (fun i hi => by
    obtain rfl : i = 0 := by omega
    rw [World.cell?_alloc_new]; rfl) 9 Tryd.underlying9
def MtRel (t : ByteArray) (W : World) (i s : Value) (wr : World) : Prop := ∃ (k : Nat) (out : ByteArray), i = .int .i64 k ∧ s = .string out ∧ k + out.size ≤ 1000000000 ∧ mtGo k out = t ∧ Below W.heap.size W wr

set_option maxRecDepth 100000 in
theorem markText_any (k : Nat) (w : World) (h : 1 ≤ k) (h1 : k ≤ 1000000000) :
    Calls Tryd.prog 92 #[.int .i64 k] w fun e w' => e = .returned (.string (mt k)) ∧ Below w.heap.size w w' := by
  obtain ⟨t, ht⟩ : ∃ t, mtGo k ⟨#[]⟩ = t := ⟨_, rfl⟩
  have hm : Hid (mt k = ⟨#[109]⟩ ++ t) := by rw [← ht]; rfl
  have HT := hid ht
  clear ht
  go_enter Tryd.func92, Tryd.ntmps92
  go_wp2_with fail
  go_loopw [0, 3] (fun i s wr => MtRel t w i s wr) (fun i _ _ => (intOf i).toNat)
  case atStart => exact ⟨k, _, rfl, rfl, by simpa [ByteArray.size] using h1, HT.out, Below.refl _ _⟩
  case round =>
    obtain ⟨j, out, rfl, rfl, hj, hgo, hbel⟩ := hrel
    have HG := hid hgo
    have HB := hid hbel
    clear hgo hbel
    by_cases hp : 0 < j
    case neg =>
      have h0 : ¬ (0 < (j : Int)) := by omega
      have ho : out = t := by
        have := HG.out
        rw [(by omega : j = 0), mtGo_zero] at this; exact this
      subst ho
      have hq : (out.size : Int) ≤ 1000000000 := by omega
      go_wp2_with fail
      go_ret
      exact ⟨by rw [hm.out]; rfl, HB.out⟩
    have h0 : 0 < (j : Int) := by omega
    have hq : (out.size : Int) ≤ 1000000000 := by omega
    have hcv := conv_one wr (48 + (j : Int) % 10)
    have hs1 := strOne_size (48 + (j : Int) % 10)
    go_wp2_with fail
    go_roundw
    case rel =>
      refine ⟨j / 10, strOfNums [48 + (j : Int) % 10] ++ out, by go_num, rfl, ?_, ?_, HB.out.alloc HB.out.size _⟩
      · rw [ByteArray.size_append, hs1]; omega
      · rw [← mtGo_pos hp]; exact HG.out
    case measure => simp [intOf]; omega

/-- What markNodeS and markPipeS write into element i. -/
def mkN (z i : Nat) : Nd := ⟨mt (z + 3 * i), (z : Int) + 3 * i + 1, (z : Int) + 3 * i + 2⟩
def mkP (z i : Nat) : Pp := ⟨(z : Int) + 5 * i, (z : Int) + 5 * i + 1, (z : Int) + 5 * i + 2, (z : Int) + 5 * i + 3, (z : Int) + 5 * i + 4⟩
theorem mk_set {α : Type} (f : Nat → α) (xs : List α) (j : Nat) (h : j < xs.length) : ((List.range j).map f ++ xs.drop j).set j (f j) = (List.range (j + 1)).map f ++ xs.drop (j + 1) := by
  apply List.ext_getElem
  · simp; omega
  · intro i h1 h2
    simp only [List.getElem_set, List.getElem_append, List.length_map, List.length_range, List.getElem_map, List.getElem_range, List.getElem_drop]
    by_cases e : j = i
    · subst e; rw [if_pos rfl, dif_pos (by omega)]
    · rw [if_neg e]
      by_cases e2 : i < j
      · rw [dif_pos e2, dif_pos (by omega)]
      · rw [dif_neg e2, dif_neg (by omega)]
        congr 1; omega
def MkNRel (X : Nat → Prop) (xs : List Nd) (z : Nat) (v : Value) (W : World) (i k : Value) (wr : World) : Prop :=
  ∃ j q : Nat, i = .int .i64 j ∧ k = .int .i64 q ∧ q = z + 3 * j ∧ j ≤ xs.length ∧ RowsOwn encN 3 X wr v ((List.range j).map (mkN z) ++ xs.drop j) ∧ Kept X W wr

set_option maxHeartbeats 400000 in
theorem markNodeS_any (X : Nat → Prop) (v : Value) (xs : List Nd) (z : Nat) (w : World) (h : RowsOwn encN 3 X w v xs) (hz : 1 ≤ z) (hlen : z + 3 * xs.length ≤ 100000000) :
    Calls Tryd.prog 52 #[v, .int .i64 z] w fun e w' => e = .returned (.int .i64 ((z + 3 * xs.length : Nat) : Int)) ∧ RowsOwn encN 3 X w' v ((List.range xs.length).map (mkN z)) ∧ Kept X w w' := by
  have HR := hid h
  obtain ⟨_, a, cap, rfl, hc⟩ := h
  clear hc
  go_enter Tryd.func52, Tryd.ntmps52
  go_wp2_with fail
  go_loopw [5, 1] (fun i k wr => MkNRel X xs z (.slice a xs.length cap) w i k wr) (fun i _ _ => xs.length - (intOf i).toNat)
  case atStart => exact ⟨0, z, rfl, rfl, by omega, by omega, by simpa using HR.out, Kept.refl _ _⟩
  case round =>
    obtain ⟨j, q, rfl, rfl, hq, hj, hown, hkept⟩ := hrel
    by_cases hlt : j < xs.length
    · have hl : ((List.range j).map (mkN z) ++ xs.drop j).length = xs.length := by simp; omega
      have HK := hid hkept
      have HQ := hid hq
      have q1 : 1 ≤ q := by omega
      have q2 : q ≤ 100000000 := by omega
      clear hkept hq
      go_wp2_with fail
      refine (markText_any q _ q1 (by omega)).mono ?_
      rintro e w1 ⟨rfl, b1⟩
      have hown1 := hown.below b1
      obtain ⟨g, goff, rfl, hgl, hX, hfr, hgc⟩ := hown1.at' (by omega)
      obtain ⟨d0, d1, d2⟩ := cellsN (hgc j (by omega))
      have f0 := hfr (goff + j * 3)
      obtain ⟨o0, e0⟩ : ∃ o, w1.cell? ⟨g, goff + j * 3, none⟩ = some o := ⟨_, d0⟩
      have f1 := hfr (goff + j * 3 + 1)
      obtain ⟨o1, e1⟩ : ∃ o, w1.cell? ⟨g, goff + j * 3 + 1, none⟩ = some o := ⟨_, d1⟩
      have f2 := hfr (goff + j * 3 + 2)
      obtain ⟨o2, e2⟩ : ∃ o, w1.cell? ⟨g, goff + j * 3 + 2, none⟩ = some o := ⟨_, d2⟩
      have hmq : mkN z j = ⟨mt q, (q : Int) + 1, (q : Int) + 2⟩ := by have := HQ.out; subst this; simp [mkN]
      have HSET := hid (hown1.setN j (by omega) (mkN z j))
      have HK1 := hid (HK.out.trans (Kept.of_below (X := X) b1))
      have HL := hid (mk_set (mkN z) xs j hlt)
      rw [hmq] at HSET
      have HM := hid hmq
      clear d0 d1 d2 hown hown1 hfr hgc b1 HK hl hmq
      go_wp2_with fail
      go_roundw
      case rel =>
        refine ⟨j + 1, q + 3, by go_num, by go_num, by rw [HQ.out]; omega, by omega, ?_, ?_⟩
        · rw [← HL.out, HM.out]; exact HSET.out
        · exact ((HK1.out.setCell (p := ⟨g, _, none⟩) hX _).setCell (p := ⟨g, _, none⟩) hX _).setCell (p := ⟨g, _, none⟩) hX _
      case measure => simp [intOf]; omega
    · obtain rfl : j = xs.length := by omega
      have HO : Hid (RowsOwn encN 3 X wr (.slice a xs.length cap) ((List.range xs.length).map (mkN z))) := by
        rw [List.drop_of_length_le (Nat.le_refl _), List.append_nil] at hown
        exact hown
      have HK := hid hkept
      have hq' := hid hq
      clear hown hkept hq
      go_wp2_with fail
      go_ret
      exact ⟨by rw [← hq'.out]; rfl, HO.out, HK.out⟩

def MkPRel (X : Nat → Prop) (xs : List Pp) (z : Nat) (v : Value) (W : World) (i k : Value) (wr : World) : Prop :=
  ∃ j q : Nat, i = .int .i64 j ∧ k = .int .i64 q ∧ q = z + 5 * j ∧ j ≤ xs.length ∧ RowsOwn encP 5 X wr v ((List.range j).map (mkP z) ++ xs.drop j) ∧ Kept X W wr

set_option maxHeartbeats 400000 in
theorem markPipeS_any (X : Nat → Prop) (v : Value) (xs : List Pp) (z : Nat) (w : World) (h : RowsOwn encP 5 X w v xs) (hz : 1 ≤ z) (hlen : z + 5 * xs.length ≤ 100000000) :
    Calls Tryd.prog 53 #[v, .int .i64 z] w fun e w' => e = .returned (.int .i64 ((z + 5 * xs.length : Nat) : Int)) ∧ RowsOwn encP 5 X w' v ((List.range xs.length).map (mkP z)) ∧ Kept X w w' := by
  have HR := hid h
  obtain ⟨_, a, cap, rfl, hc⟩ := h
  clear hc
  go_enter Tryd.func53, Tryd.ntmps53
  go_wp2_with fail
  go_loopw [5, 1] (fun i k wr => MkPRel X xs z (.slice a xs.length cap) w i k wr) (fun i _ _ => xs.length - (intOf i).toNat)
  case atStart => exact ⟨0, z, rfl, rfl, by omega, by omega, by simpa using HR.out, Kept.refl _ _⟩
  case round =>
    obtain ⟨j, q, rfl, rfl, hq, hj, hown, hkept⟩ := hrel
    by_cases hlt : j < xs.length
    · have hl : ((List.range j).map (mkP z) ++ xs.drop j).length = xs.length := by simp; omega
      have HK := hid hkept
      have HQ := hid hq
      have q1 : 1 ≤ q := by omega
      have q2 : q ≤ 100000000 := by omega
      clear hkept hq
      obtain ⟨g, goff, rfl, hgl, hX, hfr, hgc⟩ := hown.at' (by omega)
      obtain ⟨d0, d1, d2, d3, d4⟩ := cellsP (hgc j (by omega))
      have f0 := hfr (goff + j * 5)
      obtain ⟨o0, e0⟩ : ∃ o, wr.cell? ⟨g, goff + j * 5, none⟩ = some o := ⟨_, d0⟩
      have f1 := hfr (goff + j * 5 + 1)
      obtain ⟨o1, e1⟩ : ∃ o, wr.cell? ⟨g, goff + j * 5 + 1, none⟩ = some o := ⟨_, d1⟩
      have f2 := hfr (goff + j * 5 + 2)
      obtain ⟨o2, e2⟩ : ∃ o, wr.cell? ⟨g, goff + j * 5 + 2, none⟩ = some o := ⟨_, d2⟩
      have f3 := hfr (goff + j * 5 + 3)
      obtain ⟨o3, e3⟩ : ∃ o, wr.cell? ⟨g, goff + j * 5 + 3, none⟩ = some o := ⟨_, d3⟩
      have f4 := hfr (goff + j * 5 + 4)
      obtain ⟨o4, e4⟩ : ∃ o, wr.cell? ⟨g, goff + j * 5 + 4, none⟩ = some o := ⟨_, d4⟩
      have hmq : mkP z j = ⟨(q : Int), (q : Int) + 1, (q : Int) + 2, (q : Int) + 3, (q : Int) + 4⟩ := by have := HQ.out; subst this; simp [mkP]
      have HSET := hid (hown.setP j (by omega) (mkP z j))
      have HL := hid (mk_set (mkP z) xs j hlt)
      rw [hmq] at HSET
      have HM := hid hmq
      clear d0 d1 d2 d3 d4 hown hfr hgc hl hmq
      go_wp2_with fail
      go_roundw
      case rel =>
        refine ⟨j + 1, q + 5, by go_num, by go_num, by rw [HQ.out]; omega, by omega, ?_, ?_⟩
        · rw [← HL.out, HM.out]; exact HSET.out
        · exact ((((HK.out.setCell (p := ⟨g, _, none⟩) hX _).setCell (p := ⟨g, _, none⟩) hX _).setCell (p := ⟨g, _, none⟩) hX _).setCell (p := ⟨g, _, none⟩) hX _).setCell (p := ⟨g, _, none⟩) hX _
      case measure => simp [intOf]; omega
    · obtain rfl : j = xs.length := by omega
      have HO : Hid (RowsOwn encP 5 X wr (.slice a xs.length cap) ((List.range xs.length).map (mkP z))) := by
        rw [List.drop_of_length_le (Nat.le_refl _), List.append_nil] at hown
        exact hown
      have HK := hid hkept
      have hq' := hid hq
      clear hown hkept hq
      go_wp2_with fail
      go_ret
      exact ⟨by rw [← hq'.out]; rfl, HO.out, HK.out⟩


def mkNet (z : Nat) (n : Net) : Net := ⟨(List.range n.nodes.length).map (mkN z), (List.range n.pipes.length).map (mkP (z + 3 * n.nodes.length))⟩
def mkEnd (z : Nat) (n : Net) : Nat := z + 3 * n.nodes.length + 5 * n.pipes.length

set_option maxHeartbeats 400000 in
theorem markNetwork_any (lo hi : Nat) (nv pv : Value) (n : Net) (z : Nat) (w : World) (h : NetSep lo hi w nv pv n) (hhi : hi ≤ w.heap.size) (hz : 1 ≤ z) (hl1 : n.nodes.length ≤ 2000000) (hl2 : n.pipes.length ≤ 2000000) (hz2 : z ≤ 20000000) :
    Calls Tryd.prog 17 #[.agg #[nv, pv], .int .i64 z] w fun e w' => e = .returned (.int .i64 (mkEnd z n : Nat)) ∧ Kept (fun b => lo ≤ b ∧ b < hi) w w' := by
  obtain ⟨m, h1, h2, h3, h4, h5⟩ := h
  obtain ⟨a0, k0, rfl⟩ := h3.at.shape
  obtain ⟨a1, k1, rfl⟩ := h5.at.shape
  have hWb := below_new w (.cells #[.slice a0 n.nodes.length k0, .slice a1 n.pipes.length k1] 25)
  have hbx := Box.new w #[.slice a0 n.nodes.length k0, .slice a1 n.pipes.length k1] 25
  have h3 := h3.below hWb
  have h5 := h5.below hWb
  go_enter Tryd.func17, Tryd.ntmps17
  go_wp2_with fail
  refine (markNodeS_any _ _ n.nodes z _ h3 hz (by omega)).mono ?_
  rintro e w1 ⟨rfl, r1, hk1⟩
  have bx1 := hbx.kept hk1 (by omega)
  have h5 := h5.kept hk1 (fun b _ hb hb' => by omega)
  obtain ⟨c0, c1⟩ := bx1.two
  obtain ⟨z1, hz1⟩ : ∃ z1, z1 = z + 3 * n.nodes.length := ⟨_, rfl⟩
  rw [← hz1]
  have HZ := hid hz1
  have HK1 := hid ((Kept.of_below (X := fun b => lo ≤ b ∧ b < hi) hWb).trans (hk1.mono (fun b _ hb => ⟨hb.1, by omega⟩)))
  have hz1' : 1 ≤ z1 := by omega
  have hz2' : z1 + 5 * n.pipes.length ≤ 100000000 := by omega
  clear hk1 hWb hbx bx1 h3 r1 hz1
  go_wp2_with fail
  refine (markPipeS_any _ _ n.pipes z1 _ h5 hz1' hz2').mono ?_
  rintro e w2 ⟨rfl, r2, hk2⟩
  have HK2 := hid (HK1.out.trans (hk2.mono (fun b _ hb => ⟨by omega, hb.2⟩)))
  have hE : Hid (z1 + 5 * n.pipes.length = mkEnd z n) := by rw [HZ.out]; rfl
  clear hk2 r2 h5
  go_wp2_with fail
  go_ret
  exact ⟨by rw [← hE.out]; rfl, HK2.out⟩

end Go.Proofs.YtdbgncinaacheaaDoor
