/- Shares of a total: plain Lean. -/
namespace Go.Proofs.Ythbihlbbejcpcaa.Sh

/-- The first index of the greatest among the elements 0 .. k. -/
def bestTo (rs : List Int) : Nat → Nat
  | 0 => 0
  | k + 1 => if rs.getD (bestTo rs k) 0 < rs.getD (k + 1) 0 then k + 1 else bestTo rs k
theorem bestTo_le (rs : List Int) (k : Nat) : bestTo rs k ≤ k := by
  induction k with
  | zero => exact Nat.le_refl _
  | succ k ih => unfold bestTo; split <;> omega
theorem bestTo_max (rs : List Int) (k : Nat) : ∀ j, j ≤ k → rs.getD j 0 ≤ rs.getD (bestTo rs k) 0 := by
  induction k with
  | zero => intro j hj; obtain rfl : j = 0 := by omega
            exact Int.le_refl _
  | succ k ih =>
    intro j hj
    unfold bestTo
    split
    · rcases (by omega : j = k + 1 ∨ j ≤ k) with rfl | h
      · exact Int.le_refl _
      · have := ih j h; omega
    · rcases (by omega : j = k + 1 ∨ j ≤ k) with rfl | h
      · omega
      · exact ih j h
theorem bestTo_first (rs : List Int) (k : Nat) : ∀ j, j < bestTo rs k → rs.getD j 0 < rs.getD (bestTo rs k) 0 := by
  induction k with
  | zero => intro j hj; simp [bestTo] at hj
  | succ k ih =>
    intro j
    unfold bestTo
    split
    · intro hj
      have := bestTo_max rs k j (by omega); omega
    · exact ih j
def best (rs : List Int) : Nat := bestTo rs (rs.length - 1)
theorem best_lt {rs : List Int} (h : 0 < rs.length) : best rs < rs.length := by have := bestTo_le rs (rs.length - 1); unfold best; omega

def step (p : List Int × List Int) : List Int × List Int := (p.1.set (best p.2) (p.1.getD (best p.2) 0 + 1), p.2.set (best p.2) (-1))
def iter (p : List Int × List Int) : Nat → List Int × List Int
  | 0 => p
  | n + 1 => step (iter p n)
theorem iter_len (p : List Int × List Int) (n : Nat) : (iter p n).1.length = p.1.length ∧ (iter p n).2.length = p.2.length := by
  induction n with
  | zero => exact ⟨rfl, rfl⟩
  | succ n ih => simp [iter, step, ih]
theorem iter_bd (p : List Int × List Int) (M : Int) (h : ∀ x ∈ p.1, 0 ≤ x ∧ x ≤ M) (hM : 0 ≤ M) (n : Nat) : ∀ x ∈ (iter p n).1, 0 ≤ x ∧ x ≤ M + n := by
  induction n with
  | zero => intro x hx; have := h x hx; omega
  | succ n ih =>
    intro x hx
    simp only [iter, step] at hx
    rcases List.mem_or_eq_of_mem_set hx with hx | rfl
    · have := ih x hx; omega
    · by_cases hb : best (iter p n).2 < (iter p n).1.length
      · have := ih _ (List.getElem_mem hb)
        simp only [List.getD_eq_getElem?_getD, List.getElem?_eq_getElem hb, Option.getD_some]; omega
      · simp only [List.getD_eq_getElem?_getD, List.getElem?_eq_none (by omega : (iter p n).1.length ≤ best (iter p n).2), Option.getD_none]; omega

def sh (total sum : Int) (ws : List Int) : List Int := ws.map (fun x => total * x / sum)
def re (total sum : Int) (ws : List Int) : List Int := ws.map (fun x => total * x % sum)
def left (total sum : Int) (ws : List Int) : Int := total - (sh total sum ws).sum
def shares (total : Int) (ws : List Int) : List Int := (iter (sh total ws.sum ws, re total ws.sum ws) (left total ws.sum ws).toNat).1

theorem sum_nonneg {ws : List Int} (h : ∀ x ∈ ws, 0 ≤ x) : 0 ≤ ws.sum := by
  induction ws with
  | nil => simp
  | cons a l ih => simp only [List.sum_cons]; have := h a (by simp); have := ih (fun x hx => h x (by simp [hx])); omega
theorem sum_le {ws : List Int} {M : Int} (h : ∀ x ∈ ws, x ≤ M) : ws.sum ≤ ws.length * M := by
  induction ws with
  | nil => simp
  | cons a l ih =>
    simp only [List.sum_cons, List.length_cons]
    have := h a (by simp); have := ih (fun x hx => h x (by simp [hx]))
    rw [Int.natCast_add, Int.add_mul]; omega
theorem sh_sum (total sum : Int) (ws : List Int) : sum * (sh total sum ws).sum + (re total sum ws).sum = total * ws.sum := by
  induction ws with
  | nil => simp [sh, re]
  | cons a l ih =>
    simp only [sh, re, List.map_cons, List.sum_cons] at ih ⊢
    have := Int.mul_ediv_add_emod (total * a) sum
    rw [Int.mul_add, Int.mul_add]; omega
theorem re_nonneg {total sum : Int} (hs : 0 < sum) (ws : List Int) : ∀ x ∈ re total sum ws, 0 ≤ x ∧ x < sum := by
  intro x hx
  simp only [re, List.mem_map] at hx
  obtain ⟨y, _, rfl⟩ := hx
  exact ⟨Int.emod_nonneg _ (by omega), Int.emod_lt_of_pos _ hs⟩
theorem sh_nonneg {total sum : Int} (ht : 0 ≤ total) (hs : 0 < sum) {ws : List Int} (hw : ∀ x ∈ ws, 0 ≤ x) : ∀ x ∈ sh total sum ws, 0 ≤ x := by
  intro x hx
  simp only [sh, List.mem_map] at hx
  obtain ⟨y, hy, rfl⟩ := hx
  exact Int.ediv_nonneg (Int.mul_nonneg ht (hw y hy)) (by omega)
/-- Partial sums of the shares are at most the total. -/
theorem sh_part {total sum : Int} (ht : 0 ≤ total) (hs : 0 < sum) {ws : List Int} (hle : ws.sum ≤ sum) : (sh total sum ws).sum ≤ total := by
  have h1 := sh_sum total sum ws
  have h2 := sum_nonneg (fun x hx => (re_nonneg (total := total) hs ws x hx).1)
  have h3 : total * ws.sum ≤ total * sum := Int.mul_le_mul_of_nonneg_left hle ht
  have h4 : sum * (sh total sum ws).sum ≤ sum * total := by rw [Int.mul_comm sum total]; omega
  exact Int.le_of_mul_le_mul_left h4 hs
theorem take_sum_le {ws : List Int} (h : ∀ x ∈ ws, 0 ≤ x) (k : Nat) : (ws.take k).sum ≤ ws.sum := by
  have : (ws.take k ++ ws.drop k).sum = (ws.take k).sum + (ws.drop k).sum := List.sum_append
  rw [List.take_append_drop] at this
  have := sum_nonneg (fun x hx => h x (List.mem_of_mem_drop (i := k) hx))
  omega
theorem mem_le_sum {l : List Int} (hn : ∀ x ∈ l, 0 ≤ x) {x : Int} (hx : x ∈ l) : x ≤ l.sum := by
  induction l with
  | nil => simp at hx
  | cons a l ih =>
    have h2 := sum_nonneg (ws := l) (fun y hy => hn y (List.mem_cons_of_mem _ hy))
    have h3 := hn a List.mem_cons_self
    rw [List.sum_cons]
    rcases List.mem_cons.1 hx with rfl | hx
    · omega
    · have := ih (fun y hy => hn y (List.mem_cons_of_mem _ hy)) hx
      omega
theorem sh_le {total sum : Int} (ht : 0 ≤ total) (hs : 0 < sum) {ws : List Int} (hw : ∀ x ∈ ws, 0 ≤ x) (hsum : ws.sum = sum) : ∀ x ∈ sh total sum ws, x ≤ total := by
  intro x hx
  have h1 := sh_part ht hs (ws := ws) (by omega)
  have := mem_le_sum (sh_nonneg ht hs hw) hx
  omega

end Go.Proofs.Ythbihlbbejcpcaa.Sh
