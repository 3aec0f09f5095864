/- Texts, plain: the pieces of a text, numbers in decimal. No program. -/
import Derived.Lib.ItoaNum
import Derived.Lib.ItoaLen
import Derived.Lib.ParseIntBTie
import Derived.Lib.AtoiTie
import Derived.Lib.Split
import Derived.Lib.SplitLaws
import Derived.Lib.Join
import Derived.Lib.IndexMore
namespace Go.Proofs.YtdbgncinaacheaaGreatDoor
open Go.Lib

abbrev Txt := List UInt8

/-- The pieces of a text between the bytes c. -/
def pieces (c : UInt8) : Txt → List Txt
  | [] => [[]]
  | b :: r => if b = c then [] :: pieces c r else match pieces c r with
    | [] => [[b]]
    | p :: ps => (b :: p) :: ps
theorem pieces_ne (c : UInt8) (l : Txt) : pieces c l ≠ [] := by
  cases l with
  | nil => simp [pieces]
  | cons b r =>
    unfold pieces
    split
    · simp
    · split <;> simp
theorem pieces_none {c : UInt8} {l : Txt} (h : c ∉ l) : pieces c l = [l] := by
  induction l with
  | nil => rfl
  | cons b r ih =>
    simp only [List.mem_cons, not_or] at h
    unfold pieces
    rw [if_neg (fun e => h.1 e.symm), ih h.2]
theorem pieces_cut {c : UInt8} {a : Txt} (h : c ∉ a) (r : Txt) : pieces c (a ++ c :: r) = a :: pieces c r := by
  induction a with
  | nil => show pieces c (c :: r) = _; rw [pieces, if_pos rfl]
  | cons b a ih =>
    simp only [List.mem_cons, not_or] at h
    show pieces c (b :: (a ++ c :: r)) = _
    rw [pieces, if_neg (fun e => h.1 e.symm), ih h.2]
/-- A byte more at the end. -/
theorem pieces_snoc (c : UInt8) (l : Txt) (b : UInt8) (ini : List Txt) (p : Txt) (h : pieces c l = ini ++ [p]) :
    pieces c (l ++ [b]) = if b = c then ini ++ [p, []] else ini ++ [p ++ [b]] := by
  induction l generalizing ini p with
  | nil =>
    have h' : [[]] = ini ++ [p] := h
    obtain ⟨rfl, rfl⟩ : ini = [] ∧ p = [] := by
      cases ini with
      | nil => simp at h'; exact ⟨rfl, h'⟩
      | cons => simp at h'
    show pieces c [b] = _
    simp only [pieces]
    split <;> simp
  | cons x r ih =>
    obtain ⟨i2, q, hq⟩ : ∃ i2 q, pieces c r = i2 ++ [q] := ⟨_, _, (List.dropLast_concat_getLast (pieces_ne c r)).symm⟩
    have hr := ih i2 q hq
    show pieces c (x :: (r ++ [b])) = _
    rw [pieces] at h ⊢
    rw [hr]
    by_cases e : x = c
    · rw [if_pos e] at h ⊢
      rw [hq] at h
      have h2 : ([] : Txt) :: i2 ++ [q] = ini ++ [p] := h
      obtain ⟨rfl, e2⟩ := List.append_inj' h2 rfl
      obtain rfl : q = p := by simpa using e2
      by_cases hbc : b = c <;> simp [hbc]
    · rw [if_neg e] at h ⊢
      rw [hq] at h
      cases i2 with
      | nil =>
        simp only [List.nil_append] at h ⊢
        have h2 : [x :: q] = ini ++ [p] := h
        obtain ⟨rfl, rfl⟩ : ini = [] ∧ p = x :: q := by
          cases ini with
          | nil => simp at h2; exact ⟨rfl, h2.symm⟩
          | cons => simp at h2
        by_cases hbc : b = c <;> simp [hbc]
      | cons y i2 =>
        simp only [List.cons_append] at h ⊢
        have h2 : ((x :: y) :: i2) ++ [q] = ini ++ [p] := h
        obtain ⟨rfl, e2⟩ := List.append_inj' h2 rfl
        obtain rfl : q = p := by simpa using e2
        by_cases hbc : b = c <;> simp [hbc]
theorem pieces_free {c : UInt8} {l : Txt} : ∀ p ∈ pieces c l, c ∉ p := by
  induction l with
  | nil => intro p hp; simp [pieces] at hp; subst hp; simp
  | cons b r ih =>
    intro p hp
    rw [pieces] at hp
    split at hp
    · rcases List.mem_cons.1 hp with rfl | hp
      · simp
      · exact ih p hp
    · next hb =>
      split at hp
      · simp at hp; subst hp; simp; exact fun e => hb e.symm
      · next q qs he =>
        rcases List.mem_cons.1 hp with rfl | hp
        · have := ih q (by rw [he]; simp)
          simp only [List.mem_cons, not_or]
          exact ⟨fun e => hb e.symm, this⟩
        · exact ih p (by rw [he]; exact List.mem_cons_of_mem _ hp)
/-- The pieces, joined, are the text. -/
def glue (c : UInt8) : List Txt → Txt
  | [] => []
  | [p] => p
  | p :: q :: r => p ++ c :: glue c (q :: r)
theorem glue_pieces (c : UInt8) (l : Txt) : glue c (pieces c l) = l := by
  induction l with
  | nil => rfl
  | cons b r ih =>
    obtain ⟨q, qs, hq⟩ : ∃ q qs, pieces c r = q :: qs := by
      cases h : pieces c r with
      | nil => exact absurd h (pieces_ne c r)
      | cons q qs => exact ⟨q, qs, rfl⟩
    rw [pieces]
    split
    · next e => rw [hq] at ih ⊢; show [] ++ c :: glue c (q :: qs) = _; rw [ih, e]; rfl
    · rw [hq] at ih ⊢
      simp only
      cases qs with
      | nil => show b :: q = _; rw [show q = r from ih]
      | cons y ys => show (b :: q) ++ c :: glue c (y :: ys) = _; rw [← ih]; rfl
theorem pieces_glue {c : UInt8} : ∀ {ps : List Txt}, ps ≠ [] → (∀ p ∈ ps, c ∉ p) → pieces c (glue c ps) = ps
  | [], h, _ => absurd rfl h
  | [p], _, h => pieces_none (h p (by simp))
  | p :: q :: r, _, h => by
    show pieces c (p ++ c :: glue c (q :: r)) = _
    rw [pieces_cut (h p (by simp)), pieces_glue (by simp) (fun x hx => h x (List.mem_cons_of_mem _ hx))]

/-! ### strings.Split at one byte -/
theorem index_one_none {c : UInt8} {l : Txt} (h : c ∉ l) : index l [c] = -1 := by
  refine index_none (fun j hj => ?_)
  unfold occAt
  cases hd : l.drop j with
  | nil => rfl
  | cons x r =>
    have : x ∈ l := List.mem_of_mem_drop (hd ▸ List.mem_cons_self ..)
    have hx : ¬ c = x := fun e => h (e ▸ this)
    simp [List.isPrefixOf, hx]
theorem index_one_cut {c : UInt8} {a : Txt} (h : c ∉ a) (r : Txt) : index (a ++ c :: r) [c] = a.length := by
  refine index_first (by simp) ?_ (fun j hj => ?_)
  · unfold occAt; simp [List.isPrefixOf]
  · unfold occAt
    rw [List.drop_append_of_le_length (by omega)]
    cases hd : a.drop j with
    | nil => have := congrArg List.length hd; simp at this; omega
    | cons x q =>
      have : x ∈ a := List.mem_of_mem_drop (hd ▸ List.mem_cons_self ..)
      have hx : ¬ c = x := fun e => h (e ▸ this)
      simp [List.isPrefixOf, hx]
theorem mem_cut {c : UInt8} {l : Txt} (h : c ∈ l) : ∃ a r, l = a ++ c :: r ∧ c ∉ a := by
  induction l with
  | nil => cases h
  | cons b l ih =>
    by_cases e : c = b
    · exact ⟨[], l, by simp [e], by simp⟩
    · obtain ⟨a, r, rfl, ha⟩ := ih ((List.mem_cons.1 h).resolve_left e)
      exact ⟨b :: a, r, rfl, by simp [e, ha]⟩
theorem splitK_pieces (c : UInt8) : ∀ (k : Nat) (l : Txt), l.count c = k → splitK [c] 0 k l = pieces c l := by
  intro k
  induction k with
  | zero => intro l h; rw [splitK, pieces_none (List.count_eq_zero.1 h)]
  | succ k ih =>
    intro l h
    obtain ⟨a, r, rfl, ha⟩ := mem_cut (List.count_pos_iff.1 (by omega : 0 < l.count c))
    have hc : r.count c = k := by
      rw [List.count_append, List.count_eq_zero.2 ha] at h
      simp at h; omega
    rw [splitK, index_one_cut ha, pieces_cut ha, if_neg (by simp)]
    simp only [Int.toNat_natCast, Nat.add_zero, List.length_singleton]
    rw [List.take_left, List.drop_append, List.drop_eq_nil_of_le (by omega), (by omega : a.length + 1 - a.length = 1)]
    rw [List.nil_append, List.drop_one, List.tail_cons, ih r hc]
theorem split_pieces (c : UInt8) (s : ByteArray) : (splitB ⟨#[c]⟩ 0 (countB s ⟨#[c]⟩) s).map (·.data.toList) = pieces c s.data.toList := by
  rw [splitB_data]
  have : countB s ⟨#[c]⟩ = s.data.toList.count c := count_one c s.data.toList
  rw [this]
  exact splitK_pieces c _ _ rfl

/-! ### strings.Cut at one byte -/
theorem cut_none {c : UInt8} {l : Txt} (h : c ∉ l) : cut l [c] = (l, [], false) := by
  unfold cut
  rw [index_one_none h]; rfl
theorem cut_some {c : UInt8} {a : Txt} (h : c ∉ a) (r : Txt) : cut (a ++ c :: r) [c] = (a, r, true) := by
  unfold cut
  rw [index_one_cut h]
  simp

/-! ### Numbers in decimal -/
theorem decFrom_snoc (l : Txt) (acc : Nat) (b : UInt8) : decFrom acc (l ++ [b]) = (decFrom acc l).bind (fun n => (digitVal b).map (fun d => n * 10 + d)) := by
  induction l generalizing acc with
  | nil => cases h : digitVal b <;> simp [decFrom, h]
  | cons x l ih =>
    cases h : digitVal x <;> simp [decFrom, h, ih]
theorem digitVal_mk (d : Nat) (h : d < 10) : digitVal (UInt8.ofNat (48 + d)) = some d := by
  have : (UInt8.ofNat (48 + d)).toNat = 48 + d := by simp; omega
  unfold digitVal
  rw [this, if_pos (by omega)]
  congr 1; omega
theorem decDigits_step {u : Nat} (h : ¬ u < 10) : decDigits u = decDigits (u / 10) ++ [UInt8.ofNat (48 + u % 10)] := by
  rw [decDigits, dif_neg h]
theorem decFrom_digits (u : Nat) : decFrom 0 (decDigits u) = some u := by
  induction u using Nat.strongRecOn with
  | ind u ih =>
    by_cases h : u < 10
    · rw [decDigits_one h, decFrom, digitVal_mk u h]
      simp [decFrom]
    · rw [decDigits_step h, decFrom_snoc, ih (u / 10) (by omega), digitVal_mk _ (by omega)]
      simp; omega
theorem decDigits_inj {a b : Nat} (h : decDigits a = decDigits b) : a = b := by
  have h1 := decFrom_digits a
  rw [h, decFrom_digits b] at h1
  simpa using h1.symm
theorem decDigits_ne (u : Nat) : decDigits u ≠ [] := fun h => by
  have := decDigits_length u
  have h2 := nDigits_pos u
  rw [h] at this; simp at this; omega
theorem decDigits_digit (u : Nat) : ∀ b ∈ decDigits u, 48 ≤ b.toNat ∧ b.toNat ≤ 57 := by
  intro b hb
  obtain ⟨k, hk⟩ := List.getElem?_of_mem hb
  obtain ⟨d, hd⟩ := digit_of_decFrom _ _ _ (decFrom_digits u) k b hk
  have := digitVal_eq hd
  omega
theorem decFrom_mono : ∀ (l : Txt) (acc n : Nat), decFrom acc l = some n → acc ≤ n
  | [], acc, n, h => by simp [decFrom] at h; omega
  | x :: l, acc, n, h => by
    cases hx : digitVal x with
    | none => simp [decFrom, hx] at h
    | some d =>
      simp [decFrom, hx] at h
      have := decFrom_mono l _ n h
      omega
theorem parseUint10_ok : ∀ (l : Txt) (acc n : Nat), decFrom acc l = some n → n < 18446744073709551616 → parseUint10 acc l = .ok n
  | [], acc, n, h, _ => by simp [decFrom] at h; subst h; rfl
  | x :: l, acc, n, h, hn => by
    cases hx : digitVal x with
    | none => simp [decFrom, hx] at h
    | some d =>
      simp [decFrom, hx] at h
      have hm := decFrom_mono l _ n h
      have he := digitVal_eq hx
      have hr := parseUint10_ok l _ n h hn
      unfold parseUint10
      obtain ⟨h1, h2, h3⟩ := he
      subst h3
      rw [if_pos ⟨h1, h2⟩, if_neg (by omega), if_neg (by omega)]
      exact hr
end Go.Proofs.YtdbgncinaacheaaGreatDoor
