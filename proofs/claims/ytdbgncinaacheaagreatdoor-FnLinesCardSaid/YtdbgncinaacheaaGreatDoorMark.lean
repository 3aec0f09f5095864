/- Helpers of the exact laws on one node: toNode, szNode. Helpers of the exact laws on networks: szNetwork, toNetwork. markText, markNetwork, heldNetwork. -/
import Derived.Test.YtdbgncinaacheaaGreatDoorBase
import Derived.Test.YtdbgncinaacheaaGreatDoorNet
import Derived.Deep.OwnRows
import Derived.Laws.BytesArg
namespace Go.Proofs.YtdbgncinaacheaaGreatDoor
open Go.RowKit

/-- The value of a node. -/
abbrev vN (x : Nd) : Value := .agg #[.string x.name, .int .i64 x.low, .int .i64 x.high]

def szL (l n : Int) : Int := if n ≤ l then l - n else -1
end Go.Proofs.YtdbgncinaacheaaGreatDoor

namespace Go.Proofs.YtdbgncinaacheaaGreatDoor
open Go.RowKit

/-- The letters of all names. -/
def nsz (ns : List Nd) : Nat := (ns.map (fun x => x.name.size)).sum
theorem nsz_take_succ (ns : List Nd) (k : Nat) (h : k < ns.length) : nsz (ns.take (k + 1)) = nsz (ns.take k) + ns[k].name.size := by
  unfold nsz; rw [List.take_succ_eq_append_getElem h, List.map_append, List.sum_append]; simp
theorem nsz_take_le (ns : List Nd) (k : Nat) : nsz (ns.take k) ≤ nsz ns := by
  unfold nsz
  have : (ns.take k ++ ns.drop k).map (fun x => x.name.size) = _ := List.map_append
  rw [List.take_append_drop] at this
  rw [this, List.sum_append]; omega
theorem nsz_mem {ns : List Nd} {x : Nd} (h : x ∈ ns) : x.name.size ≤ nsz ns := by
  unfold nsz
  induction ns with
  | nil => simp at h
  | cons a l ih =>
    simp only [List.map_cons, List.sum_cons]
    rcases List.mem_cons.1 h with rfl | h
    · omega
    · have := ih h; omega

def SzRel (ns : List Nd) (l : Int) (w : World) (t i : Value) (wr : World) : Prop :=
  ∃ k : Nat, i = .int .i64 k ∧ k ≤ ns.length ∧ t = .int .i64 (l - ns.length - nsz (ns.take k)) ∧ 0 ≤ l - ns.length - nsz (ns.take k) ∧ Below w.heap.size w wr

/-- The bulk of a network. -/
def netSz (n : Net) : Nat := n.nodes.length + nsz n.nodes + n.pipes.length

theorem infoN : (Tryz.prog.info? 25).map (fun i => (i.zero, i.size, i.bytes)) = some (some (.agg #[.string ByteArray.empty, .int .i64 0, .int .i64 0]), 3, 32) := by kernel_rfl
theorem infoP : (Tryz.prog.info? 54).map (fun i => (i.zero, i.size, i.bytes)) = some (some (.agg #[.int .i64 0, .int .i64 0, .int .i64 0, .int .i64 0, .int .i64 0]), 5, 40) := by kernel_rfl

/-- make of a slice of structs. -/
theorem run_make_agg {P : Program} (t e : TypeId) (z : Value) (sz bytes : Nat) (ht : P.underlying t = some (.slice e)) (hinfo : (P.info? e).map (fun i => (i.zero, i.size, i.bytes)) = some (some z, sz, bytes)) (n : Nat) (hb : bytes * n ≤ 281474976710656) (h63 : n ≤ 9223372036854775807) (w : World) :
    (Instr.makeSlice t (.int .i64 (n : Int)) (.int .i64 (n : Int))).run P w = .ok (.slice (some ⟨w.heap.size, 0, none⟩) n n) (w.alloc (.cells (madeCells z.cells (n * sz)) e)) := by
  obtain ⟨i, hi, hz0, hz1, hz2⟩ := info_parts hinfo
  have hb' : (i.bytes : Int) * (n : Int) ≤ 281474976710656 := by
    have h : ((i.bytes * n : Nat) : Int) ≤ 281474976710656 := by rw [hz2]; omega
    rwa [Int.natCast_mul] at h
  have hr := run_make (P := P) w t e i z ht hi hz0 .i64 .i64 n n (by omega) (Int.le_refl _) hb' (by omega)
  simp only [Int.toNat_natCast, hz1] at hr
  exact hr

theorem made_rows {α : Type} (en : α → List Value) (sz : Nat) (z : α) (hz : (en z).length = sz) (X : Nat → Prop) (w : World) (T : TypeId) (n : Nat) (hn : n ≤ 9223372036854775807) (hX : X w.heap.size) :
    RowsOwn en sz X (w.alloc (.cells (madeCells (en z).toArray (n * sz)) T)) (.slice (some ⟨w.heap.size, 0, none⟩) n n) (List.replicate n z) := by
  refine ⟨by simpa using hn, some ⟨w.heap.size, 0, none⟩, n, by simp, ?_⟩
  rcases Nat.eq_zero_or_pos n with h0 | h0
  · subst h0; exact Or.inl (by simp)
  · refine Or.inr ⟨w.heap.size, 0, rfl, by simp, hX, fun o => by simp, fun i hi j hj => ?_⟩
    simp only [List.getElem_replicate] at hj ⊢
    simp only [List.length_replicate] at hi
    rw [World.cell?_alloc_new, Nat.zero_add]
    have hlt : i * sz + j < n * sz := by
      have : (i + 1) * sz ≤ n * sz := Nat.mul_le_mul_right _ (by omega)
      rw [Nat.add_mul] at this; omega
    have hm : (i * sz + j) % sz = j := by rw [Nat.mul_comm, Nat.mul_add_mod]; exact Nat.mod_eq_of_lt (by omega)
    have hg : (madeCells (en z).toArray (n * sz))[i * sz + j]? = some ((en z).toArray[(i * sz + j) % sz]!) := by
      rw [Array.getElem?_eq_getElem (by rw [size_madeCells]; exact hlt)]
      simp [madeCells, hz]
    rw [hg, hm]
    simp [hj]

def ToNRel (xs : List Nd) (v : Value) (w : World) (i : Value) (wr : World) : Prop :=
  ∃ k : Nat, i = .int .i64 k ∧ k ≤ xs.length ∧ RowsOwn encN 3 (fun b => b = w.heap.size) wr v (xs.take k ++ List.replicate (xs.length - k) zN) ∧ Below w.heap.size w wr
theorem fill_setN (zs : List Nd) (z : Nd) (k : Nat) (h : k < zs.length) : (zs.take k ++ List.replicate (zs.length - k) z).set k zs[k] = zs.take (k + 1) ++ List.replicate (zs.length - (k + 1)) z := by
  apply List.ext_getElem
  · simp; omega
  · intro i h1 h2
    simp only [List.getElem_set, List.getElem_append, List.length_take, List.getElem_take, List.getElem_replicate]
    by_cases e : k = i
    · subst e; rw [if_pos rfl, dif_pos (by omega)]
    · rw [if_neg e]
      by_cases e2 : i < k
      · rw [dif_pos (by omega), dif_pos (by omega)]
      · rw [dif_neg (by omega), dif_neg (by omega)]

def ToPRel (xs : List Pp) (v : Value) (w : World) (i : Value) (wr : World) : Prop :=
  ∃ k : Nat, i = .int .i64 k ∧ k ≤ xs.length ∧ RowsOwn encP 5 (fun b => b = w.heap.size) wr v (xs.take k ++ List.replicate (xs.length - k) zP) ∧ Below w.heap.size w wr
theorem fill_setP (zs : List Pp) (z : Pp) (k : Nat) (h : k < zs.length) : (zs.take k ++ List.replicate (zs.length - k) z).set k zs[k] = zs.take (k + 1) ++ List.replicate (zs.length - (k + 1)) z := by
  apply List.ext_getElem
  · simp; omega
  · intro i h1 h2
    simp only [List.getElem_set, List.getElem_append, List.length_take, List.getElem_take, List.getElem_replicate]
    by_cases e : k = i
    · subst e; rw [if_pos rfl, dif_pos (by omega)]
    · rw [if_neg e]
      by_cases e2 : i < k
      · rw [dif_pos (by omega), dif_pos (by omega)]
      · rw [dif_neg (by omega), dif_neg (by omega)]

end Go.Proofs.YtdbgncinaacheaaGreatDoor

namespace Go.Proofs.YtdbgncinaacheaaGreatDoor
open Go.RowKit

def mtGo (k : Nat) (out : ByteArray) : ByteArray := if _h : k = 0 then out else mtGo (k / 10) (strOfNums [48 + (k : Int) % 10] ++ out)
termination_by k
decreasing_by omega
def mt (k : Nat) : ByteArray := ⟨#[109]⟩ ++ mtGo k ⟨#[]⟩
theorem mtGo_zero (out : ByteArray) : mtGo 0 out = out := by rw [mtGo]; simp
theorem mtGo_pos {k : Nat} (h : 0 < k) (out : ByteArray) : mtGo k out = mtGo (k / 10) (strOfNums [48 + (k : Int) % 10] ++ out) := by rw [mtGo, dif_neg (by omega)]

theorem strOne_size (z : Int) : (strOfNums [z]).size = 1 := rfl
theorem conv_one (W : World) (z : Int) : (convert 22 9 (.slice (some ⟨W.heap.size, 0, none⟩) 1 1)).run Tryz.prog (W.alloc (.cells #[.int .u8 z] 5)) = .ok (.string (strOfNums [z])) (W.alloc (.cells #[.int .u8 z] 5)) :=
  run_convert_bytes_arg _ 22 5 Tryz.underlying22 Tryz.underlying5 W.heap.size 0 1 1 [z] rfl (fun i hi => by
    obtain rfl : i = 0 := by omega
    rw [World.cell?_alloc_new]; rfl) 9 Tryz.underlying9
def MtRel (t : ByteArray) (W : World) (i s : Value) (wr : World) : Prop := ∃ (k : Nat) (out : ByteArray), i = .int .i64 k ∧ s = .string out ∧ k + out.size ≤ 1000000000 ∧ mtGo k out = t ∧ Below W.heap.size W wr

/-- What markNodeS and markPipeS write into element i. -/
def mkN (z i : Nat) : Nd := ⟨mt (z + 3 * i), (z : Int) + 3 * i + 1, (z : Int) + 3 * i + 2⟩
def mkP (z i : Nat) : Pp := ⟨(z : Int) + 5 * i, (z : Int) + 5 * i + 1, (z : Int) + 5 * i + 2, (z : Int) + 5 * i + 3, (z : Int) + 5 * i + 4⟩
theorem mk_set {α : Type} (f : Nat → α) (xs : List α) (j : Nat) (h : j < xs.length) : ((List.range j).map f ++ xs.drop j).set j (f j) = (List.range (j + 1)).map f ++ xs.drop (j + 1) := by
  apply List.ext_getElem
  · simp; omega
  · intro i h1 h2
    simp only [List.getElem_set, List.getElem_append, List.length_map, List.length_range, List.getElem_map, List.getElem_range, List.getElem_drop]
    by_cases e : j = i
    · subst e; rw [if_pos rfl, dif_pos (by omega)]
    · rw [if_neg e]
      by_cases e2 : i < j
      · rw [dif_pos e2, dif_pos (by omega)]
      · rw [dif_neg e2, dif_neg (by omega)]
        congr 1; omega
def MkNRel (X : Nat → Prop) (xs : List Nd) (z : Nat) (v : Value) (W : World) (i k : Value) (wr : World) : Prop :=
  ∃ j q : Nat, i = .int .i64 j ∧ k = .int .i64 q ∧ q = z + 3 * j ∧ j ≤ xs.length ∧ RowsOwn encN 3 X wr v ((List.range j).map (mkN z) ++ xs.drop j) ∧ Kept X W wr

def MkPRel (X : Nat → Prop) (xs : List Pp) (z : Nat) (v : Value) (W : World) (i k : Value) (wr : World) : Prop :=
  ∃ j q : Nat, i = .int .i64 j ∧ k = .int .i64 q ∧ q = z + 5 * j ∧ j ≤ xs.length ∧ RowsOwn encP 5 X wr v ((List.range j).map (mkP z) ++ xs.drop j) ∧ Kept X W wr

def mkNet (z : Nat) (n : Net) : Net := ⟨(List.range n.nodes.length).map (mkN z), (List.range n.pipes.length).map (mkP (z + 3 * n.nodes.length))⟩
def mkEnd (z : Nat) (n : Net) : Nat := z + 3 * n.nodes.length + 5 * n.pipes.length

end Go.Proofs.YtdbgncinaacheaaGreatDoor
