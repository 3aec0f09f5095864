/- What reads numbers of thousandths, plain. No walk. -/
import Derived.Test.YtdbgncinaacheaaGreatDoorRd
import Derived.Test.YtdbgncinaacheaaGreatDoorThou
namespace Go.Proofs.YtdbgncinaacheaaGreatDoor
open Go.RowKit Go.Lib

def d3 (r : Nat) : Txt := [UInt8.ofNat (48 + r / 100), UInt8.ofNat (48 + r / 10 % 10), UInt8.ofNat (48 + r % 10)]
def sg (n : Int) : Txt := if n < 0 then [45] else []
def inT (n : Int) : Prop := inB n (-1000000000000000000) 1000000000000000000 = true
theorem thS_txt {n : Int} (h : inT n) : (thS n).data.toList = sg n ++ (decDigits (n.natAbs / 1000) ++ 46 :: d3 (n.natAbs % 1000)) := by
  have h' : inB n (-1000000000000000000) 1000000000000000000 = true := h
  rw [thS, if_pos h', dd4' _ (by omega), decS_eq]
  unfold sg sgn d3
  split <;> simp [ByteArray.data_append]
theorem thS_out {n : Int} (h : ¬ inT n) : thS n = ⟨#[]⟩ := by
  have h' : ¬ inB n (-1000000000000000000) 1000000000000000000 = true := h
  rw [thS, if_neg h']
theorem inT_b {n : Int} (h : inT n) : -1000000000000000000 ≤ n ∧ n ≤ 1000000000000000000 := inB_t h
theorem thS_ne {n : Int} (h : inT n) : (thS n).data.toList ≠ [] := by rw [thS_txt h]; simp [d3]
theorem dg3 {r : Nat} (h : r < 1000) : decDigits (1000 + r) = 49 :: d3 r := dd4 r h
theorem decFrom_app (a b : Txt) (acc : Nat) : decFrom acc (a ++ b) = (decFrom acc a).bind (fun n => decFrom n b) := by
  induction a generalizing acc with
  | nil => rfl
  | cons x a ih => cases h : digitVal x <;> simp [decFrom, h, ih]
theorem decFrom_d3 {r : Nat} (h : r < 1000) (q : Nat) : decFrom q (d3 r) = some (q * 1000 + r) := by
  simp only [d3, decFrom, digitVal_mk (r / 100) (by omega), digitVal_mk (r / 10 % 10) (by omega), digitVal_mk (r % 10) (by omega)]
  congr 1; omega
theorem d3_no {c : UInt8} (hc : c.toNat < 48) {r : Nat} (h : r < 1000) : c ∉ d3 r := by
  have := dd_no (c := c) (by omega) (1000 + r)
  rw [dg3 h] at this
  exact fun hm => this (List.mem_cons_of_mem _ hm)
theorem sg_no {c : UInt8} (h : c ≠ 45) (n : Int) : c ∉ sg n := by unfold sg; split <;> simp [h]
/-- The text, cut at its point, and parsed. -/
theorem thS_cut {n : Int} (h : inT n) : cut (thS n).data.toList [46] = (sg n ++ decDigits (n.natAbs / 1000), d3 (n.natAbs % 1000), true) := by
  rw [thS_txt h, ← List.append_assoc]
  refine cut_some ?_ _
  simp only [List.mem_append, not_or]
  exact ⟨sg_no (by decide) _, dd_no (by decide) _⟩
theorem thS_parse {n : Int} (h : inT n) : parseIntB 64 ((sg n ++ decDigits (n.natAbs / 1000)) ++ d3 (n.natAbs % 1000)) = .ok n := by
  have hb := inT_b h
  have hd : decFrom 0 (decDigits (n.natAbs / 1000) ++ d3 (n.natAbs % 1000)) = some n.natAbs := by
    rw [decFrom_app, decFrom_digits]
    show decFrom (n.natAbs / 1000) (d3 (n.natAbs % 1000)) = _
    rw [decFrom_d3 (by omega)]
    congr 1; omega
  have hp := parse_digits hd (by simp [d3]) (by omega)
  rw [List.append_assoc]
  unfold sg
  split
  · rw [List.cons_append, List.nil_append, hp.2]; congr 1; omega
  · rw [List.nil_append, hp.1]; congr 1; omega
theorem thS_inj {a b : Int} (ha : inT a) (hb : inT b) (h : (thS a).data.toList = (thS b).data.toList) : a = b := by
  have h1 := (thS_cut ha).symm.trans ((congrArg (fun l => cut l [46]) h).trans (thS_cut hb))
  simp only [Prod.mk.injEq, and_true] at h1
  have h2 := thS_parse ha
  rw [h1.1, h1.2, thS_parse hb] at h2
  simpa using h2.symm

open Classical in
/-- The number with the text s. -/
noncomputable def rdTh (s : ByteArray) : Option Int := if h : ∃ v, inT v ∧ thS v = s then some (Classical.choose h) else none
theorem rdTh_some {s : ByteArray} {v : Int} (hv : inT v) (h : thS v = s) : rdTh s = some v := by
  have he : ∃ v, inT v ∧ thS v = s := ⟨v, hv, h⟩
  rw [rdTh, dif_pos he]
  have := Classical.choose_spec he
  rw [thS_inj this.1 hv (by rw [this.2, h])]
theorem rdTh_none {s : ByteArray} (h : ∀ v, inT v → thS v ≠ s) : rdTh s = none := by rw [rdTh, dif_neg (fun ⟨v, h1, h2⟩ => h v h1 h2)]
theorem rdTh_t {s : ByteArray} {v : Int} (h : rdTh s = some v) : inT v ∧ thS v = s := by
  unfold rdTh at h
  split at h
  · next he => simp only [Option.some.injEq] at h; subst h; exact Classical.choose_spec he
  · cases h
theorem rdTh_th {n : Int} (h : inT n) : rdTh (thS n) = some n := rdTh_some h rfl
theorem inT_of {n : Int} {s : ByteArray} (h : thS n = s) (hs : s.data.toList ≠ []) : inT n := by
  unfold inT
  cases hb : inB n (-1000000000000000000) 1000000000000000000 with
  | true => rfl
  | false => rw [thS_out (by unfold inT; rw [hb]; simp)] at h; subst h; exact absurd rfl hs

/-- The exits of the program's reader: cut, parse, compare. -/
theorem rdTh_cut {s : ByteArray} (h : (cut s.data.toList [46]).2.2 = false) : rdTh s = none := rdTh_none fun v hv e => by
  rw [← e, thS_cut hv] at h; cases h
def catTh (s : ByteArray) : Txt := (cut s.data.toList [46]).1 ++ (cut s.data.toList [46]).2.1
theorem rdTh_bad {s : ByteArray} (h : ∀ v, parseIntB 64 (catTh s) ≠ .ok v) : rdTh s = none := rdTh_none fun v hv e => h v (by
  rw [← e, catTh, thS_cut hv]; exact thS_parse hv)
theorem rdTh_val {s : ByteArray} {v : Int} (hf : (cut s.data.toList [46]).2.2 = true) (h : parseIntB 64 (catTh s) = .ok v) : rdTh s = if thS v = s then some v else none := by
  split
  · next e =>
    refine rdTh_some (inT_of e (fun e0 => ?_)) e
    rw [e0] at hf
    simp [cut_none (c := 46) (l := [])] at hf
  · next hn =>
    refine rdTh_none fun x hx e => hn ?_
    have hp := thS_parse hx
    rw [← e, catTh, thS_cut hx] at h
    rw [h] at hp
    simp only [NumEnd.ok.injEq] at hp
    rw [hp]; exact e

/-! ### The exits of the reference's reader -/
/-- Behind the sign. -/
def body (s : ByteArray) : Txt := match s.data.toList with | 45 :: r => r | l => l
def neg (s : ByteArray) : Bool := match s.data.toList with | 45 :: _ => true | _ => false
theorem th_body {n : Int} (h : inT n) : body (thS n) = decDigits (n.natAbs / 1000) ++ 46 :: d3 (n.natAbs % 1000) ∧ neg (thS n) = decide (n < 0) := by
  unfold body neg
  rw [thS_txt h]
  unfold sg
  by_cases hn : n < 0
  · rw [if_pos hn]; simp [hn]
  · rw [if_neg hn]
    have hne : ∀ r, decDigits (n.natAbs / 1000) ++ 46 :: d3 (n.natAbs % 1000) ≠ 45 :: r := fun r e => by
      cases hd : decDigits (n.natAbs / 1000) with
      | nil => exact decDigits_ne _ hd
      | cons c t =>
        rw [hd] at e
        have hc : c = 45 := (List.cons.inj e).1
        exact dd_no (c := 45) (by decide) (n.natAbs / 1000) (by rw [hd, hc]; simp)
    simp only [List.nil_append]
    exact ⟨trivial, (decide_eq_false hn).symm⟩
def whS (s : ByteArray) : Txt := (body s).take ((body s).length - 4)
def paS (s : ByteArray) : Txt := 49 :: (body s).drop ((body s).length - 3)
def formB (s : ByteArray) : Prop := 5 ≤ (body s).length ∧ (body s).length ≤ 20 ∧ (body s).getD ((body s).length - 4) 0 = 46
theorem th_form {n : Int} (h : inT n) : formB (thS n) ∧ whS (thS n) = decDigits (n.natAbs / 1000) ∧ paS (thS n) = decDigits (1000 + n.natAbs % 1000) := by
  obtain ⟨hb, _⟩ := th_body h
  have hr := inT_b h
  have hl1 : (decDigits (n.natAbs / 1000)).length ≤ 16 := by rw [decDigits_length]; exact nDigits_le (k := 15) (by omega)
  have hl0 : 1 ≤ (decDigits (n.natAbs / 1000)).length := by rw [decDigits_length]; exact nDigits_pos _
  have hlen : (body (thS n)).length = (decDigits (n.natAbs / 1000)).length + 4 := by rw [hb]; simp [d3]
  refine ⟨⟨by omega, by omega, ?_⟩, ?_, ?_⟩
  · rw [hlen, hb, Nat.add_sub_cancel]
    simp [List.getD_eq_getElem?_getD]
  · rw [whS, hlen, hb, Nat.add_sub_cancel, List.take_left]
  · rw [paS, hlen, hb, dg3 (by omega)]
    congr 1
    rw [show (decDigits (n.natAbs / 1000)).length + 4 - 3 = (decDigits (n.natAbs / 1000)).length + 1 by omega, List.drop_append]
    rw [List.drop_eq_nil_of_le (by omega)]
    simp
theorem rdTh_form {s : ByteArray} (h : ¬ formB s) : rdTh s = none := rdTh_none fun v hv e => h (by rw [← e]; exact (th_form hv).1)
theorem rdTh_wh {s : ByteArray} (h : numS (whS s) = none) : rdTh s = none := rdTh_none fun v hv e => by
  have hb := inT_b hv
  have h2 : numS (whS s) = some ((v.natAbs / 1000 : Nat) : Int) := by
    rw [← e, (th_form hv).2.1, ← itoa_nonneg]; exact numS_itoa (by omega) (by omega)
  rw [h] at h2; cases h2
theorem rdTh_pa {s : ByteArray} (h : numS (paS s) = none) : rdTh s = none := rdTh_none fun v hv e => by
  have h2 : numS (paS s) = some ((1000 + v.natAbs % 1000 : Nat) : Int) := by
    rw [← e, (th_form hv).2.2, ← itoa_nonneg]; exact numS_itoa (by omega) (by omega)
  rw [h] at h2; cases h2
theorem th_nums {s : ByteArray} {a b v : Int} (ha : numS (whS s) = some a) (hb : numS (paS s) = some b) (hv : inT v) (e : thS v = s) : a = (v.natAbs / 1000 : Nat) ∧ b = (1000 + v.natAbs % 1000 : Nat) := by
  have hr := inT_b hv
  have h1 : numS (whS s) = some ((v.natAbs / 1000 : Nat) : Int) := by
    rw [← e, (th_form hv).2.1, ← itoa_nonneg]; exact numS_itoa (by omega) (by omega)
  have h2 : numS (paS s) = some ((1000 + v.natAbs % 1000 : Nat) : Int) := by
    rw [← e, (th_form hv).2.2, ← itoa_nonneg]; exact numS_itoa (by omega) (by omega)
  rw [ha] at h1; rw [hb] at h2
  simp only [Option.some.injEq] at h1 h2
  exact ⟨h1, h2⟩
theorem rdTh_big {s : ByteArray} {a b : Int} (ha : numS (whS s) = some a) (hb : numS (paS s) = some b) (h : 1000000000000000 < a) : rdTh s = none := rdTh_none fun v hv e => by
  have hr := inT_b hv
  have := (th_nums ha hb hv e).1
  omega
def valTh (s : ByteArray) (a b : Int) : Int := (if neg s = true then -1 else 1) * (1000 * a + b - 1000)
theorem rdTh_valS {s : ByteArray} {a b : Int} (hf : formB s) (ha : numS (whS s) = some a) (hb : numS (paS s) = some b) : rdTh s = if thS (valTh s a b) = s then some (valTh s a b) else none := by
  split
  · next e =>
    refine rdTh_some (inT_of e (fun e0 => ?_)) e
    have := hf.1
    rw [body, e0] at this
    simp at this
  · next hn =>
    refine rdTh_none fun x hx e => hn ?_
    obtain ⟨h1, h2⟩ := th_nums ha hb hx e
    have h3 : valTh s a b = x := by
      rw [valTh, h1, h2, ← e, (th_body hx).2]
      by_cases hneg : x < 0 <;> simp [hneg] <;> omega
    rw [h3]; exact e
theorem numS_lt {l : Txt} {v : Int} (h : numS l = some v) : 0 ≤ v ∧ v < 1000000000000000000 := by
  obtain ⟨h0, h1, h2⟩ := numS_some h
  refine ⟨h0, ?_⟩
  obtain ⟨n, rfl⟩ : ∃ n : Nat, v = n := ⟨v.toNat, by omega⟩
  rw [itoa_nonneg] at h1
  rw [← h1, decDigits_length] at h2
  have := lt_pow_nDigits n
  have h3 : 10 ^ nDigits n ≤ 10 ^ 18 := Nat.pow_le_pow_right (by omega) h2
  omega

end Go.Proofs.YtdbgncinaacheaaGreatDoor
