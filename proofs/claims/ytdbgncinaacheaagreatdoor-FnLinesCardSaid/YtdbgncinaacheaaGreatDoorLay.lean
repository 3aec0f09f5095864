/- What the library's variables hold, and the contracts of strings.Split, Cut, Join, the Builder and strconv.ParseInt over them. -/
import Derived.Test.YtdbgncinaacheaaGreatDoorLtx
import Derived.Test.YtdbgncinaacheaaGreatDoorDeci
import Derived.Test.YtdbgncinaacheaaGreatDoorStr
import Derived.Stop.LaidErr
namespace Go.Proofs.YtdbgncinaacheaaGreatDoor
open Go.RowKit Go.Lib

theorem var_below {w w' : World} {n : String} {cs : Array Value} (h : w.var? Tryz.prog n = some cs) (hb : Below w.heap.size w w') : w'.var? Tryz.prog n = some cs := by
  unfold World.var? at *
  cases hg : Tryz.prog.globalNamed n with
  | none => simp [hg] at h
  | some g =>
    simp only [hg, Option.bind_some] at h ⊢
    have hlt : g < w.heap.size := by
      rcases Nat.lt_or_ge g w.heap.size with h' | h'
      · exact h'
      · rw [Array.getElem?_eq_none h'] at h; simp at h
    rw [hb.block g hlt]
    exact h
/-- strconv's two errors are errors. -/
def Errs (w : World) : Prop := (∃ t p, w.var? Tryz.prog "strconv.ErrSyntax" = some #[.iface t p]) ∧ (∃ t p, w.var? Tryz.prog "strconv.ErrRange" = some #[.iface t p])
theorem Errs.below {w w' : World} (h : Errs w) (hb : Below w.heap.size w w') : Errs w' := by
  obtain ⟨⟨t, p, h1⟩, ⟨u, q, h2⟩⟩ := h
  exact ⟨⟨t, p, var_below h1 hb⟩, ⟨u, q, var_below h2 hb⟩⟩
/-- bytealg.MaxLen is a number. -/
def MaxL (w : World) : Prop := ∃ m : Int, w.cell? ⟨1, 0, none⟩ = some (.int .i64 m)
theorem MaxL.below {w w' : World} (h : MaxL w) (hb : Below w.heap.size w w') : MaxL w' := by
  obtain ⟨m, h⟩ := h
  exact ⟨m, (hb.cell (p := ⟨_, 0, none⟩) (World.block_lt_of_cell? _ _ h)).trans h⟩
/-- What the laws find in memory. -/
structure Lay (w : World) : Prop where
  tab : Tab w
  errs : Errs w
  maxl : MaxL w
theorem Lay.below {w w' : World} (h : Lay w) (hb : Below w.heap.size w w') : Lay w' := ⟨h.tab.below hb, h.errs.below hb, h.maxl.below hb⟩

theorem split_any (s : ByteArray) (c : UInt8) (w : World) (hs : s.size < 4294967281) (hm : MaxL w) :
    Calls Tryz.prog 17 #[.string s, .string ⟨#[c]⟩] w fun e w' => e = .returned (.slice (some ⟨w.heap.size, 0, none⟩) (pieces c s.data.toList).length (pieces c s.data.toList).length) ∧ RowsAt encS 1 w' (.slice (some ⟨w.heap.size, 0, none⟩) (pieces c s.data.toList).length (pieces c s.data.toList).length) ((pieces c s.data.toList).map tb) ∧ Below w.heap.size w w' := by
  obtain ⟨m, hm⟩ := hm
  have hp : (splitB ⟨#[c]⟩ 0 (countB s ⟨#[c]⟩) s) = (pieces c s.data.toList).map tb := by
    rw [← split_pieces, List.map_map]
    have : (tb ∘ fun x : ByteArray => x.data.toList) = id := by funext x; exact tb_of x
    rw [this, List.map_id]
  have hl : countB s ⟨#[c]⟩ + 1 = (pieces c s.data.toList).length := by
    have := splitB_all ⟨#[c]⟩ (Nat.le_refl 1) 0 _ s rfl
    rw [hp, List.length_map] at this
    omega
  have C := Any.strings_Split spl (by kernel_rfl) s ⟨#[c]⟩ m w hs hm (Nat.le_refl 1)
  rw [hp, hl] at C
  refine C.mono ?_
  rintro e w' ⟨rfl, rfl⟩
  refine ⟨rfl, ?_, below_new _ _⟩
  have hle := countB_le ⟨#[c]⟩ (Nat.le_refl 1) s.size s (Nat.le_refl _)
  have e : (pieces c s.data.toList).length = ((pieces c s.data.toList).map tb).length := by simp
  have hlen : ((pieces c s.data.toList).map tb).length ≤ 9223372036854775807 := by rw [← e, ← hl]; omega
  generalize (pieces c s.data.toList).map tb = L at e hlen ⊢
  rw [e]
  refine strs_mk (by simp) hlen (fun i hi => ?_)
  rw [World.cell?_alloc_new]
  simp [hi]

/-- How ParseInt ends. -/
def ParseEnd (l : Txt) (e : Ending) : Prop := (∃ v, parseIntB 64 l = .ok v ∧ e = .returned (.tuple #[.int .i64 v, .nilIface])) ∨ (∃ v t p, (∀ x, parseIntB 64 l ≠ .ok x) ∧ e = .returned (.tuple #[.int .i64 v, .iface t p]))
theorem parseInt_any (s : ByteArray) (w : World) (hs : s.size ≤ 281474976710656) (he : Errs w) :
    Calls Tryz.prog 52 #[.string s, .int .i64 10, .int .i64 64] w fun e w' => ParseEnd s.data.toList e ∧ Below w.heap.size w w' := by
  obtain ⟨⟨t1, p1, h1⟩, ⟨t2, p2, h2⟩⟩ := he
  rcases hp : parseIntB 64 s.data.toList with v | _ | _
  · refine (Any.strconv_ParseInt_10_at64_ok pari s (by omega) v hp w).mono ?_
    rintro e w' ⟨rfl, hw⟩
    refine ⟨Or.inl ⟨v, hp, rfl⟩, ?_⟩
    rcases hw with rfl | ⟨t, rfl⟩
    · exact Below.refl _ _
    · exact bytesWorld_below _ _ _
  · refine (Any.strconv_ParseInt_10_at64_syntax_var pari s hs hp t1 p1 w h1).mono ?_
    rintro e w' ⟨N, rfl, _, _, hb⟩
    exact ⟨Or.inr ⟨_, _, _, (fun x hx => by rw [hp] at hx; cases hx), rfl⟩, hb⟩
  · refine (Any.strconv_ParseInt_10_at64_range_var pari s hs hp t2 p2 w h2).mono ?_
    rintro e w' ⟨N, rfl, _, _, hb⟩
    exact ⟨Or.inr ⟨_, _, _, (fun x hx => by rw [hp] at hx; cases hx), rfl⟩, hb⟩

theorem extra_j : Builder.Extra Tryz.prog joi_ren := { sizeBuilder := by kernel_rfl, liesBuilder := by kernel_rfl, t5 := Tryz.underlying5, a5 := Tryz.isAgg5, z5 := Tryz.sizeOf5, v5 := Tryz.zeroValue5, infoByte := by kernel_rfl, cellsByte := by kernel_rfl, sizeByte := by kernel_rfl, neB5 := by decide }
theorem join_any (v : Value) (xs : List Txt) (sep : ByteArray) (w : World) (h : RowsAt encS 1 w v (xs.map tb)) (hcap : CapOk v) (hlen : (join xs sep.data.toList).length ≤ 140737488355328) (hN : xs.length ≤ 140737488355328) :
    Calls Tryz.prog 55 #[v, .string sep] w fun e w' => e = .returned (.string (tb (join xs sep.data.toList))) ∧ Below w.heap.size w w' := by
  obtain ⟨a, c, rfl⟩ := h.shape
  rw [List.length_map] at h hcap ⊢
  rcases Nat.eq_zero_or_pos xs.length with h0 | h0
  · obtain rfl : xs = [] := List.eq_nil_of_length_eq_zero h0
    refine (Any.strings_Join_none joi extra_j a c sep w).mono ?_
    rintro e w' ⟨rfl, rfl⟩
    exact ⟨rfl, Below.refl _ _⟩
  · obtain ⟨b, off, rfl, hl, hc⟩ := h.strs (by simpa using h0)
    have hm : ((xs.map tb).map (fun x : ByteArray => x.data.toList)) = xs := by
      rw [List.map_map]
      have : ((fun x : ByteArray => x.data.toList) ∘ tb) = id := by funext x; exact tb_data x
      rw [this, List.map_id]
    have C := Any.strings_Join joi extra_j b off c (xs.map tb) sep w (fun j x hx => by
      obtain ⟨hj, rfl⟩ := List.getElem?_eq_some_iff.1 hx
      exact hc j hj) hl (by simpa using hN) (by simpa using hcap.le) (by rw [hm]; exact hlen)
    rw [hm, List.length_map] at C
    exact C

end Go.Proofs.YtdbgncinaacheaaGreatDoor
