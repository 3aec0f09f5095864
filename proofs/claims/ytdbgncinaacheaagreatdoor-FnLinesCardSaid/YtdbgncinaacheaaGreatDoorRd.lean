/- The lines of a network and what reads them, plain. No walk. -/
import Derived.Test.YtdbgncinaacheaaGreatDoorTxt
import Derived.Test.YtdbgncinaacheaaGreatDoorIsNetS
import Derived.Lib.ItoaMem
namespace Go.Proofs.YtdbgncinaacheaaGreatDoor
open Go.RowKit Go.Lib

def tb (l : Txt) : ByteArray := ⟨l.toArray⟩
theorem tb_data (l : Txt) : (tb l).data.toList = l := by simp [tb]
theorem tb_of (s : ByteArray) : tb s.data.toList = s := by cases s; simp [tb]
theorem tb_app (a b : Txt) : tb a ++ tb b = tb (a ++ b) := by apply ByteArray.ext; simp [tb, ByteArray.data_append]
theorem tb_size (l : Txt) : (tb l).size = l.length := by simp [tb, ByteArray.size]
theorem tb_inj {a b : Txt} (h : tb a = tb b) : a = b := by
  have := congrArg (fun s : ByteArray => s.data.toList) h
  simpa [tb_data] using this
theorem data_inj {a b : ByteArray} (h : a.data.toList = b.data.toList) : a = b := by rw [← tb_of a, ← tb_of b, h]

/-! ### Numbers -/
theorem dd_no {c : UInt8} (h : c.toNat < 48 ∨ 57 < c.toNat) (u : Nat) : c ∉ decDigits u := fun hm => by
  have := decDigits_digit u c hm; omega
theorem itoa_no {c : UInt8} (h : c.toNat < 45 ∨ 57 < c.toNat) (z : Int) : c ∉ itoa z := by
  unfold itoa
  split
  · simp only [List.mem_cons, not_or]
    refine ⟨fun e => ?_, dd_no (by omega) _⟩
    subst e; simp at h
  · exact dd_no (by omega) _
theorem itoa_inj {a b : Int} (h : itoa a = itoa b) : a = b := by
  unfold itoa at h
  by_cases ha : a < 0 <;> by_cases hb : b < 0
  · rw [if_pos ha, if_pos hb] at h
    have := decDigits_inj (List.cons.inj h).2; omega
  · rw [if_pos ha, if_neg hb] at h
    exact absurd (h ▸ List.mem_cons_self .. : (45 : UInt8) ∈ decDigits b.toNat) (dd_no (by decide) _)
  · rw [if_neg ha, if_pos hb] at h
    exact absurd (h.symm ▸ List.mem_cons_self .. : (45 : UInt8) ∈ decDigits a.toNat) (dd_no (by decide) _)
  · rw [if_neg ha, if_neg hb] at h
    have := decDigits_inj h; omega
theorem itoa_ne (z : Int) : itoa z ≠ [] := by
  unfold itoa
  split
  · simp
  · exact decDigits_ne _
/-- Digits, with a minus sign or none, are parsed. -/
theorem parse_digits {ds : Txt} {m : Nat} (h : decFrom 0 ds = some m) (hne : ds ≠ []) (hm : m ≤ 9223372036854775807) : parseIntB 64 ds = .ok (m : Int) ∧ parseIntB 64 (45 :: ds) = .ok (-(m : Int)) := by
  have hp : parseMag ds = .ok m := by rw [parseMag, if_neg hne]; exact parseUint10_ok ds 0 m h (by omega)
  constructor
  · rw [parseIntB_64]
    cases ds with
    | nil => exact absurd rfl hne
    | cons c r =>
      have hc : 48 ≤ c.toNat := by
        cases hv : digitVal c with
        | none => simp [decFrom, hv] at h
        | some d => have := digitVal_eq hv; omega
      have h1 : ¬ (c.toNat = 43 ∨ c.toNat = 45) := by omega
      have h2 : ¬ (c.toNat = 45) := by omega
      simp only [atoiAll, if_neg h1, hp]
      rw [if_neg (by omega), if_neg (by omega), if_neg h2]
  · rw [parseIntB_64]
    have e45 : (45 : UInt8).toNat = 45 := rfl
    simp only [atoiAll, e45, or_true, if_true, hp]
    rw [if_neg (by omega), if_neg (by omega)]
theorem parse_itoa {v : Int} (h0 : -9223372036854775807 ≤ v) (h1 : v ≤ 9223372036854775807) : parseIntB 64 (itoa v) = .ok v := by
  unfold itoa
  split
  · rw [(parse_digits (decFrom_digits v.natAbs) (decDigits_ne _) (by omega)).2]
    congr 1; omega
  · rw [(parse_digits (decFrom_digits v.toNat) (decDigits_ne _) (by omega)).1]
    congr 1; omega

/-- What readNumber reads. -/
def numI (l : Txt) : Option Int := match parseIntB 64 l with | .ok v => if itoa v = l then some v else none | _ => none
theorem numI_ok {l : Txt} {v : Int} (h : parseIntB 64 l = .ok v) (he : itoa v = l) : numI l = some v := by simp [numI, h, he]
theorem numI_ne {l : Txt} {v : Int} (h : parseIntB 64 l = .ok v) (he : itoa v ≠ l) : numI l = none := by simp [numI, h, he]
theorem numI_bad {l : Txt} (h : ∀ v, parseIntB 64 l ≠ .ok v) : numI l = none := by
  unfold numI
  split
  · next v hv => exact absurd hv (h v)
  · rfl
theorem numI_itoa {v : Int} (h0 : -9223372036854775807 ≤ v) (h1 : v ≤ 9223372036854775807) : numI (itoa v) = some v := numI_ok (parse_itoa h0 h1) rfl
theorem numI_some {l : Txt} {v : Int} (h : numI l = some v) : itoa v = l ∧ parseIntB 64 l = .ok v := by
  unfold numI at h
  split at h
  · next x hx =>
    split at h
    · next e => simp only [Option.some.injEq] at h; subst h; exact ⟨e, hx⟩
    · cases h
  · cases h
theorem numI_range {l : Txt} {v : Int} (h : numI l = some v) : -9223372036854775808 ≤ v ∧ v ≤ 9223372036854775807 := by
  have := parseIntB_bounds (numI_some h).2
  simp at this; omega

/-- What l01Value reads. -/
def numS (l : Txt) : Option Int := if 1 ≤ l.length ∧ l.length ≤ 18 then (match decFrom 0 l with | some n => if decDigits n = l then some (n : Int) else none | none => none) else none
theorem numS_long {l : Txt} (h : ¬ (1 ≤ l.length ∧ l.length ≤ 18)) : numS l = none := by rw [numS, if_neg h]
theorem numS_bad {l : Txt} (h : decFrom 0 l = none) : numS l = none := by rw [numS]; split <;> simp [h]
theorem numS_ok {l : Txt} {n : Nat} (h1 : 1 ≤ l.length) (h2 : l.length ≤ 18) (h : decFrom 0 l = some n) : numS l = if decDigits n = l then some (n : Int) else none := by rw [numS, if_pos ⟨h1, h2⟩]; simp [h]
theorem numS_some {l : Txt} {v : Int} (h : numS l = some v) : 0 ≤ v ∧ itoa v = l ∧ l.length ≤ 18 := by
  unfold numS at h
  split at h
  · next hl =>
    split at h
    · split at h
      · next n _ e =>
        simp only [Option.some.injEq] at h
        subst h
        exact ⟨by omega, by rw [itoa_nonneg]; exact e, hl.2⟩
      · cases h
    · cases h
  · cases h
theorem nDigits_le {u k : Nat} (h : u < 10 ^ (k + 1)) : nDigits u ≤ k + 1 := by
  induction k generalizing u with
  | zero => rw [nDigits_small (by simpa using h)]; omega
  | succ k ih =>
    by_cases h10 : u < 10
    · rw [nDigits_small h10]; omega
    · rw [nDigits_big h10]
      have := ih (u := u / 10) (by rw [Nat.pow_succ] at h; omega)
      omega
theorem numS_itoa {v : Int} (h0 : 0 ≤ v) (h1 : v < 1000000000000000000) : numS (itoa v) = some v := by
  obtain ⟨n, rfl⟩ : ∃ n : Nat, v = n := ⟨v.toNat, by omega⟩
  rw [itoa_nonneg]
  have hl : (decDigits n).length ≤ 18 := by rw [decDigits_length]; exact nDigits_le (k := 17) (by omega)
  have hl1 : 1 ≤ (decDigits n).length := by rw [decDigits_length]; exact nDigits_pos n
  rw [numS_ok hl1 hl (decFrom_digits n), if_pos rfl]

/-- Words read as numbers by f. -/
def numsBy (f : Txt → Option Int) : List Txt → Option (List Int)
  | [] => some []
  | w :: r => match f w with
    | none => none
    | some v => match numsBy f r with
      | none => none
      | some vs => some (v :: vs)
theorem numsBy_no {f : Txt → Option Int} : ∀ {ws : List Txt} (k : Nat) (hk : k < ws.length), f ws[k] = none → numsBy f ws = none
  | w :: r, 0, _, h => by simp at h; simp [numsBy, h]
  | w :: r, k + 1, hk, h => by
    have := numsBy_no (ws := r) k (by simpa using hk) (by simpa using h)
    unfold numsBy
    cases f w <;> simp [this]
theorem numsBy_mk {f : Txt → Option Int} : ∀ {ws : List Txt} {zs : List Int} (_ : zs.length = ws.length), (∀ j (h1 : j < ws.length) (h2 : j < zs.length), f ws[j] = some zs[j]) → numsBy f ws = some zs
  | [], [], _, _ => rfl
  | w :: r, z :: zs, hl, h => by
    have h0 := h 0 (by simp) (by simp)
    simp only [List.getElem_cons_zero] at h0
    have := numsBy_mk (ws := r) (zs := zs) (by simpa using hl) (fun j h1 h2 => by
      have := h (j + 1) (by simpa using h1) (by simpa using h2)
      simpa using this)
    simp [numsBy, h0, this]
theorem numsBy_len {f : Txt → Option Int} : ∀ {ws : List Txt} {zs : List Int}, numsBy f ws = some zs → zs.length = ws.length
  | [], zs, h => by simp [numsBy] at h; subst h; rfl
  | w :: r, zs, h => by
    unfold numsBy at h
    split at h
    · cases h
    · split at h
      · cases h
      · next vs hv =>
        simp only [Option.some.injEq] at h; subst h
        simp [numsBy_len hv]
theorem numsBy_at {f : Txt → Option Int} : ∀ {ws : List Txt} {zs : List Int}, numsBy f ws = some zs → ∀ j (h1 : j < ws.length) (h2 : j < zs.length), f ws[j] = some zs[j]
  | [], zs, h, j, h1, h2 => by simp at h1
  | w :: r, zs, h, j, h1, h2 => by
    unfold numsBy at h
    split at h
    · cases h
    · next v hv =>
      split at h
      · cases h
      · next vs hvs =>
        simp only [Option.some.injEq] at h; subst h
        cases j with
        | zero => simpa using hv
        | succ j => simpa using numsBy_at hvs j (by simpa using h1) (by simpa using h2)

/-! ### Lines of nodes -/
def wNode : Txt := [110, 111, 100, 101]
def wPipe : Txt := [112, 105, 112, 101]
def nm (x : Nd) : Txt := x.name.data.toList
def ndL (x : Nd) : Txt := glue 32 [wNode, nm x, itoa x.low, itoa x.high]
theorem ndL_app (x : Nd) : ndL x = [110, 111, 100, 101, 32] ++ nm x ++ [32] ++ itoa x.low ++ [32] ++ itoa x.high := by
  simp [ndL, glue, wNode]
theorem nameB_no {s : ByteArray} (h : nameB s = true) {c : UInt8} (hc : c.toNat < 48) : c ∉ s.data.toList := fun hm => by
  simp only [nameB, Bool.and_eq_true] at h
  obtain ⟨i, hi⟩ := List.getElem?_of_mem hm
  have hlt : i < s.data.toList.length := (List.getElem?_eq_some_iff.1 hi).1
  have := List.all_eq_true.1 h.2 i (List.mem_range.2 (by rw [Array.length_toList] at hlt; exact hlt))
  have e : s.data.toList.getD i 0 = c := by rw [List.getD_eq_getElem?_getD, hi]; rfl
  rw [e] at this
  have := chB_t this
  omega
theorem nodeB_parts {x : Nd} (h : nodeB x = true) : nameB x.name = true ∧ 0 ≤ x.low ∧ x.low ≤ x.high ∧ x.high ≤ 100000000 := by
  simp only [nodeB, Bool.and_eq_true, decide_eq_true_eq] at h
  exact ⟨h.1.1.1, h.1.1.2, h.1.2, h.2⟩
theorem nameB_sz {s : ByteArray} (h : nameB s = true) : 1 ≤ s.size ∧ s.size ≤ 8 := by
  simp only [nameB, Bool.and_eq_true] at h
  have := inB_t h.1
  omega
theorem no32 (z : Int) : (32 : UInt8) ∉ itoa z := itoa_no (by decide) z
theorem no10 (z : Int) : (10 : UInt8) ∉ itoa z := itoa_no (by decide) z
theorem pieces_ndL {x : Nd} (h : nodeB x = true) : pieces 32 (ndL x) = [wNode, nm x, itoa x.low, itoa x.high] := by
  refine pieces_glue (by simp) (fun p hp => ?_)
  simp only [List.mem_cons, List.not_mem_nil, or_false] at hp
  rcases hp with rfl | rfl | rfl | rfl
  · decide
  · exact nameB_no (nodeB_parts h).1 (by decide)
  · exact no32 _
  · exact no32 _
theorem ndL_inj {x y : Nd} (hx : nodeB x = true) (hy : nodeB y = true) (h : ndL x = ndL y) : x = y := by
  have := (pieces_ndL hx).symm.trans ((congrArg (pieces 32) h).trans (pieces_ndL hy))
  simp only [List.cons.injEq, true_and, and_true] at this
  obtain ⟨h1, h2, h3⟩ := this
  have e1 := data_inj h1
  have e2 := itoa_inj h2
  have e3 := itoa_inj h3
  cases x; cases y; simp_all
theorem ndL_no10 {x : Nd} (h : nodeB x = true) : (10 : UInt8) ∉ ndL x := by
  rw [ndL_app]
  simp only [List.mem_append, not_or]
  exact ⟨⟨⟨⟨⟨by decide, nameB_no (nodeB_parts h).1 (by decide)⟩, by decide⟩, no10 _⟩, by decide⟩, no10 _⟩

open Classical in
/-- The node whose line l is. -/
noncomputable def rdNode (l : Txt) : Option Nd := if h : ∃ x, nodeB x = true ∧ ndL x = l then some (Classical.choose h) else none
theorem rdNode_some {l : Txt} {x : Nd} (hx : nodeB x = true) (h : ndL x = l) : rdNode l = some x := by
  have he : ∃ x, nodeB x = true ∧ ndL x = l := ⟨x, hx, h⟩
  rw [rdNode, dif_pos he]
  have := Classical.choose_spec he
  rw [ndL_inj this.1 hx (this.2.trans h.symm)]
theorem rdNode_none {l : Txt} (h : ∀ x, nodeB x = true → ndL x ≠ l) : rdNode l = none := by
  rw [rdNode, dif_neg (fun ⟨x, h1, h2⟩ => h x h1 h2)]
theorem rdNode_t {l : Txt} {x : Nd} (h : rdNode l = some x) : nodeB x = true ∧ ndL x = l := by
  unfold rdNode at h
  split at h
  · next he =>
    simp only [Option.some.injEq] at h
    subst h
    exact Classical.choose_spec he
  · cases h
/-- The exits of a reader of nodes. -/
theorem rdNode_words {l : Txt} (h : (pieces 32 l).length ≠ 4) : rdNode l = none := rdNode_none fun x hx e => h (by rw [← e, pieces_ndL hx]; rfl)
theorem rdNode_word {l : Txt} (h : (pieces 32 l).head? ≠ some wNode) : rdNode l = none := rdNode_none fun x hx e => h (by rw [← e, pieces_ndL hx]; rfl)
theorem rdNode_numsI {l : Txt} (h : numsBy numI ((pieces 32 l).drop 2) = none) : rdNode l = none := rdNode_none fun x hx e => by
  obtain ⟨h1, h2, h3, h4⟩ := nodeB_parts hx
  rw [← e, pieces_ndL hx] at h
  simp [numsBy, numI_itoa (v := x.low) (by omega) (by omega), numI_itoa (v := x.high) (by omega) (by omega)] at h
theorem rdNode_numsS {l : Txt} (h : numsBy numS ((pieces 32 l).drop 2) = none) : rdNode l = none := rdNode_none fun x hx e => by
  obtain ⟨h1, h2, h3, h4⟩ := nodeB_parts hx
  rw [← e, pieces_ndL hx] at h
  simp [numsBy, numS_itoa (v := x.low) (by omega) (by omega), numS_itoa (v := x.high) (by omega) (by omega)] at h
theorem numsI_two {l : Txt} {a b : Int} (h4 : (pieces 32 l).length = 4) (h : numsBy numI ((pieces 32 l).drop 2) = some [a, b]) : ∃ w0 w1, pieces 32 l = [w0, w1, itoa a, itoa b] := by
  obtain ⟨w0, w1, w2, w3, hw⟩ : ∃ w0 w1 w2 w3, pieces 32 l = [w0, w1, w2, w3] := by
    match pieces 32 l, h4 with
    | [a, b, c, d], _ => exact ⟨a, b, c, d, rfl⟩
  rw [hw] at h
  have h0 := numsBy_at h 0 (by simp) (by simp)
  have h1 := numsBy_at h 1 (by simp) (by simp)
  simp at h0 h1
  exact ⟨w0, w1, by rw [hw, (numI_some h0).1, (numI_some h1).1]⟩
theorem numsS_two {l : Txt} {a b : Int} (h4 : (pieces 32 l).length = 4) (h : numsBy numS ((pieces 32 l).drop 2) = some [a, b]) : ∃ w0 w1, pieces 32 l = [w0, w1, itoa a, itoa b] ∧ 0 ≤ a ∧ 0 ≤ b ∧ (itoa a).length ≤ 18 ∧ (itoa b).length ≤ 18 := by
  obtain ⟨w0, w1, w2, w3, hw⟩ : ∃ w0 w1 w2 w3, pieces 32 l = [w0, w1, w2, w3] := by
    match pieces 32 l, h4 with
    | [a, b, c, d], _ => exact ⟨a, b, c, d, rfl⟩
  rw [hw] at h
  have h0 := numsBy_at h 0 (by simp) (by simp)
  have h1 := numsBy_at h 1 (by simp) (by simp)
  simp at h0 h1
  obtain ⟨a0, a1, a2⟩ := numS_some h0
  obtain ⟨b0, b1, b2⟩ := numS_some h1
  exact ⟨w0, w1, by rw [hw, a1, b1], a0, b0, a1 ▸ a2, b1 ▸ b2⟩
/-- The node read of the words. -/
def wdNd (W : List Txt) (a b : Int) : Nd := ⟨tb (W.getD 1 []), a, b⟩
theorem rdNode_I {l : Txt} {a b : Int} (h4 : (pieces 32 l).length = 4) (hw : (pieces 32 l).head? = some wNode) (h : numsBy numI ((pieces 32 l).drop 2) = some [a, b]) :
    rdNode l = if nodeB (wdNd (pieces 32 l) a b) = true then some (wdNd (pieces 32 l) a b) else none := by
  obtain ⟨w0, w1, hp⟩ := numsI_two h4 h
  have hg : glue 32 (pieces 32 l) = l := glue_pieces 32 l
  rw [hp] at hw hg ⊢
  simp only [List.head?_cons, Option.some.injEq] at hw
  subst hw
  have e : ndL (wdNd [wNode, w1, itoa a, itoa b] a b) = l := by
    rw [← hg]
    simp [ndL, wdNd, nm, tb_data]
  split
  · next hb => exact rdNode_some hb e
  · next hb =>
    refine rdNode_none fun x hx hxl => hb ?_
    have := (pieces_ndL hx).symm.trans ((congrArg (pieces 32) hxl).trans hp)
    simp only [List.cons.injEq, true_and, and_true] at this
    obtain ⟨h1, h2, h3⟩ := this
    have : wdNd [wNode, w1, itoa a, itoa b] a b = x := by
      have e2 := itoa_inj h2
      have e3 := itoa_inj h3
      have e1 : tb w1 = x.name := by rw [← h1]; exact tb_of _
      cases x; simp_all [wdNd]
    rw [this]; exact hx
theorem rdNode_S {l : Txt} {a b : Int} (h4 : (pieces 32 l).length = 4) (h : numsBy numS ((pieces 32 l).drop 2) = some [a, b]) :
    rdNode l = if nodeB (wdNd (pieces 32 l) a b) = true ∧ ndL (wdNd (pieces 32 l) a b) = l then some (wdNd (pieces 32 l) a b) else none := by
  obtain ⟨w0, w1, hp, _⟩ := numsS_two h4 h
  rw [hp]
  split
  · next hb => exact rdNode_some hb.1 hb.2
  · next hb =>
    refine rdNode_none fun x hx hxl => hb ?_
    have := (pieces_ndL hx).symm.trans ((congrArg (pieces 32) hxl).trans hp)
    simp only [List.cons.injEq, and_true] at this
    obtain ⟨_, h1, h2, h3⟩ := this
    have : wdNd [w0, w1, itoa a, itoa b] a b = x := by
      have e2 := itoa_inj h2
      have e3 := itoa_inj h3
      have e1 : tb w1 = x.name := by rw [← h1]; exact tb_of _
      cases x; simp_all [wdNd]
    rw [this]; exact ⟨hx, hxl⟩

/-! ### Lines of networks -/
def nmAt (ns : List Nd) (z : Int) : Txt := nm (ns.getD z.toNat zN)
def ppL (ns : List Nd) (p : Pp) : Txt := glue 32 [wPipe, nmAt ns p.fr, nmAt ns p.to, itoa p.k, itoa p.vol, itoa p.lim]
def netL (n : Net) : List Txt := n.nodes.map ndL ++ n.pipes.map (ppL n.nodes)
def lns (L : List Txt) : Txt := L.flatMap (· ++ [10])
def netTx (n : Net) : Txt := lns (netL n)
theorem lns_glue (L : List Txt) (r : Txt) : glue 10 (L ++ [r]) = lns L ++ r := by
  induction L with
  | nil => rfl
  | cons l L ih =>
    cases L with
    | nil => simp [glue, lns]
    | cons m M =>
      show l ++ 10 :: glue 10 (m :: M ++ [r]) = _
      rw [ih]; simp [lns]
theorem lns_app (A B : List Txt) : lns (A ++ B) = lns A ++ lns B := by simp [lns]
theorem pieces_lns {L : List Txt} (h : ∀ l ∈ L, (10 : UInt8) ∉ l) (r : Txt) (hr : (10 : UInt8) ∉ r) : pieces 10 (lns L ++ r) = L ++ [r] := by
  rw [← lns_glue]
  refine pieces_glue (by simp) (fun p hp => ?_)
  rcases List.mem_append.1 hp with hp | hp
  · exact h p hp
  · simp at hp; subst hp; exact hr
/-- The lines of a text that end with a newline, and what follows them. -/
def lnL (s : Txt) : List Txt := (pieces 10 s).dropLast
def lnR (s : Txt) : Txt := (pieces 10 s).getLast (pieces_ne 10 s)
theorem ln_eq (s : Txt) : pieces 10 s = lnL s ++ [lnR s] := (List.dropLast_concat_getLast (pieces_ne 10 s)).symm
theorem ln_text (s : Txt) : lns (lnL s) ++ lnR s = s := by rw [← lns_glue, ← ln_eq, glue_pieces]
theorem ln_free (s : Txt) : (∀ l ∈ lnL s, (10 : UInt8) ∉ l) ∧ (10 : UInt8) ∉ lnR s :=
  ⟨fun l hl => pieces_free l ((List.dropLast_sublist _).subset hl), pieces_free _ (List.getLast_mem _)⟩
theorem ln_of {L : List Txt} {r : Txt} (h : ∀ l ∈ L, (10 : UInt8) ∉ l) (hr : (10 : UInt8) ∉ r) : lnL (lns L ++ r) = L ∧ lnR (lns L ++ r) = r := by
  have := (ln_eq (lns L ++ r)).symm.trans (pieces_lns h r hr)
  have h2 := List.append_inj' this rfl
  exact ⟨h2.1, by simpa using h2.2⟩
theorem nodesB_mem {ns : List Nd} (h : nodesB ns = true) : ∀ x ∈ ns, nodeB x = true := fun x hx => by
  obtain ⟨i, hi, rfl⟩ := List.getElem_of_mem hx
  have := nodesB_at h i hi
  simp only [nodeAtB, getD_eq hi, Bool.and_eq_true] at this
  exact this.1
theorem nmAt_in {ns : List Nd} {z : Int} (h0 : 0 ≤ z) (h1 : z < ns.length) : ∃ hz : z.toNat < ns.length, nmAt ns z = nm ns[z.toNat] :=
  ⟨by omega, by rw [nmAt, getD_eq (by omega)]⟩
theorem pieces_ppL {n : Net} (h : netB n = true) {p : Pp} (hp : p ∈ n.pipes) : pieces 32 (ppL n.nodes p) = [wPipe, nmAt n.nodes p.fr, nmAt n.nodes p.to, itoa p.k, itoa p.vol, itoa p.lim] := by
  obtain ⟨f0, f1, t0, t1, _⟩ := netB_pipe h hp
  obtain ⟨_, _, _, hn, _⟩ := netB_t h
  obtain ⟨z1, e1⟩ := nmAt_in f0 f1
  obtain ⟨z2, e2⟩ := nmAt_in t0 t1
  refine pieces_glue (by simp) (fun q hq => ?_)
  simp only [List.mem_cons, List.not_mem_nil, or_false] at hq
  rcases hq with rfl | rfl | rfl | rfl | rfl | rfl
  · decide
  · rw [e1]; exact nameB_no (nodeB_parts (nodesB_mem hn _ (List.getElem_mem z1))).1 (by decide)
  · rw [e2]; exact nameB_no (nodeB_parts (nodesB_mem hn _ (List.getElem_mem z2))).1 (by decide)
  · exact no32 _
  · exact no32 _
  · exact no32 _
theorem netL_free {n : Net} (h : netB n = true) : ∀ l ∈ netL n, (10 : UInt8) ∉ l := fun l hl => by
  obtain ⟨_, _, _, hn, _⟩ := netB_t h
  rcases List.mem_append.1 hl with hl | hl
  · obtain ⟨x, hx, rfl⟩ := List.mem_map.1 hl
    exact ndL_no10 (nodesB_mem hn x hx)
  · obtain ⟨p, hp, rfl⟩ := List.mem_map.1 hl
    obtain ⟨f0, f1, t0, t1, _⟩ := netB_pipe h hp
    obtain ⟨z1, e1⟩ := nmAt_in f0 f1
    obtain ⟨z2, e2⟩ := nmAt_in t0 t1
    have a1 := nameB_no (c := 10) (nodeB_parts (nodesB_mem hn _ (List.getElem_mem z1))).1 (by decide)
    have a2 := nameB_no (c := 10) (nodeB_parts (nodesB_mem hn _ (List.getElem_mem z2))).1 (by decide)
    simp only [ppL, glue, List.mem_append, List.mem_cons, not_or, e1, e2, wPipe]
    exact ⟨by decide, by decide, a1, by decide, a2, by decide, no10 _, by decide, no10 _, by decide, no10 _⟩
theorem netTx_ln {n : Net} (h : netB n = true) : lnL (netTx n) = netL n ∧ lnR (netTx n) = [] := by
  have := ln_of (netL_free h) (r := []) (by simp)
  rwa [List.append_nil] at this
/-- The name at an index is found there. -/
theorem nIdx_at {n : Net} (h : netB n = true) {z : Int} (h0 : 0 ≤ z) (h1 : z < n.nodes.length) : nIdx n.nodes (tb (nmAt n.nodes z)) = z := by
  obtain ⟨hz, e⟩ := nmAt_in h0 h1
  obtain ⟨_, _, _, hn, _⟩ := netB_t h
  rw [e, nm, tb_of]
  rcases nIdx_cases n.nodes n.nodes[z.toNat].name with ⟨_, hm⟩ | ⟨k, hk, e1, e2, e3⟩
  · have := hm z.toNat hz
    rw [sEq_f] at this; exact absurd rfl this
  · rw [e1]
    by_cases hlt : k < z.toNat
    · have := nodesB_at hn z.toNat hz
      simp only [nodeAtB, getD_eq hz, Bool.and_eq_true, decide_eq_true_eq] at this
      have h2 := this.2
      rcases nIdx_cases (n.nodes.take z.toNat) n.nodes[z.toNat].name with ⟨_, hm⟩ | ⟨j, hj, ej, _⟩
      · have := hm k (by simp; omega)
        simp only [List.getElem_take] at this
        rw [e2] at this; cases this
      · rw [ej] at h2; omega
    · by_cases hgt : z.toNat < k
      · have := e3 z.toNat hz hgt
        rw [sEq_f] at this; exact absurd rfl this
      · omega
theorem nIdx_ge {ns : List Nd} {s : ByteArray} (h : 0 ≤ nIdx ns s) : nmAt ns (nIdx ns s) = s.data.toList := by
  rcases nIdx_cases ns s with ⟨e, _⟩ | ⟨k, hk, e1, e2, _⟩
  · omega
  · rw [e1]
    have : nmAt ns (k : Int) = nm ns[k] := by rw [nmAt, Int.toNat_natCast, getD_eq hk]
    rw [this, nm, sEq_iff.1 e2]

/-! ### Reading a network, line by line -/
abbrev St := List Nd × List Pp
def foldO (f : St → Txt → Option St) : St → List Txt → Option St
  | s, [] => some s
  | s, l :: r => match f s l with
    | none => none
    | some t => foldO f t r
theorem foldO_app (f : St → Txt → Option St) : ∀ (A B : List Txt) (s : St), foldO f s (A ++ B) = (foldO f s A).bind (fun t => foldO f t B)
  | [], _, _ => rfl
  | l :: A, B, s => by
    show foldO f s (l :: (A ++ B)) = _
    cases h : f s l with
    | none => simp [foldO, h]
    | some t => simp only [foldO, h]; exact foldO_app f A B t
theorem foldO_step {f : St → Txt → Option St} {L : List Txt} {s t : St} (k : Nat) (hk : k < L.length) (h : foldO f s (L.take k) = some t) : foldO f s (L.take (k + 1)) = f t L[k] := by
  rw [List.take_succ_eq_append_getElem hk, foldO_app, h]
  show foldO f t [L[k]] = _
  unfold foldO
  cases f t L[k] <;> rfl
theorem foldO_no {f : St → Txt → Option St} {L : List Txt} {s t : St} (k : Nat) (hk : k < L.length) (h : foldO f s (L.take k) = some t) (h2 : f t L[k] = none) : foldO f s L = none := by
  have h3 := foldO_step k hk h
  rw [h2] at h3
  rw [← List.take_append_drop (k + 1) L, foldO_app, h3]; rfl
/-- The pipe of a line's words. -/
def wdPp (ns : List Nd) (W : List Txt) (a b c : Int) : Pp := ⟨nIdx ns (tb (W.getD 1 [])), nIdx ns (tb (W.getD 2 [])), a, b, c⟩
noncomputable def addNd (s : St) (l : Txt) : Option St := (rdNode l).map (fun x => (s.1 ++ [x], s.2))
def addPp (f : Txt → Option Int) (s : St) (l : Txt) : Option St := match numsBy f ((pieces 32 l).drop 3) with | some [a, b, c] => some (s.1, s.2 ++ [wdPp s.1 (pieces 32 l) a b c]) | _ => none
noncomputable def stepI (s : St) (l : Txt) : Option St :=
  if (pieces 32 l).head? = some wNode ∧ s.2 = [] then addNd s l
  else if (pieces 32 l).head? = some wPipe ∧ (pieces 32 l).length = 6 then addPp numI s l else none
noncomputable def stepS (s : St) (l : Txt) : Option St :=
  if (pieces 32 l).length = 4 then addNd s l
  else if (pieces 32 l).length = 6 then addPp numS s l else none
noncomputable def rdNet (s : Txt) : Option Net := match foldO stepI ([], []) (lnL s) with
  | some t => if lnR s = [] ∧ netB ⟨t.1, t.2⟩ = true then some ⟨t.1, t.2⟩ else none
  | none => none
noncomputable def rdNetS (s : Txt) : Option Net := match foldO stepS ([], []) (lnL s) with
  | some t => if netB ⟨t.1, t.2⟩ = true ∧ netTx ⟨t.1, t.2⟩ = s then some ⟨t.1, t.2⟩ else none
  | none => none
theorem addNd_ok {s : St} {x : Nd} (h : nodeB x = true) : addNd s (ndL x) = some (s.1 ++ [x], s.2) := by rw [addNd, rdNode_some h rfl]; rfl
theorem addPp_ok {f : Txt → Option Int} (hf : ∀ v : Int, 0 ≤ v → v ≤ 1000000 → f (itoa v) = some v) {n : Net} (h : netB n = true) {p : Pp} (hp : p ∈ n.pipes) (ps : List Pp) :
    addPp f (n.nodes, ps) (ppL n.nodes p) = some (n.nodes, ps ++ [p]) := by
  obtain ⟨i, hi, rfl⟩ := List.getElem_of_mem hp
  obtain ⟨f0, f1, t0, t1, _, k0, k1, v0, v1, l0, l1⟩ := pipeB_t (pipesB_at (netB_t h).2.2.2.2 i hi)
  have e : numsBy f ((pieces 32 (ppL n.nodes n.pipes[i])).drop 3) = some [n.pipes[i].k, n.pipes[i].vol, n.pipes[i].lim] := by
    rw [pieces_ppL h hp]
    simp [numsBy, hf n.pipes[i].k (by omega) (by omega), hf n.pipes[i].vol (by omega) (by omega), hf n.pipes[i].lim (by omega) (by omega)]
  unfold addPp
  rw [e]
  simp only [wdPp, pieces_ppL h hp]
  simp [nIdx_at h f0 f1, nIdx_at h t0 t1]
theorem fold_nodes {f : St → Txt → Option St} {ns : List Nd} (hs : ∀ (a : List Nd) x, x ∈ ns → f (a, []) (ndL x) = some (a ++ [x], [])) (a : List Nd) : foldO f (a, []) (ns.map ndL) = some (a ++ ns, []) := by
  induction ns generalizing a with
  | nil => simp [foldO]
  | cons x r ih =>
    show foldO f (a, []) (ndL x :: r.map ndL) = _
    unfold foldO
    rw [hs a x (by simp)]
    show foldO f (a ++ [x], []) (r.map ndL) = _
    rw [ih (fun b y hy => hs b y (List.mem_cons_of_mem _ hy))]
    simp
theorem fold_pipes {f : St → Txt → Option St} {ns : List Nd} {ps : List Pp} (hs : ∀ (b : List Pp) p, p ∈ ps → f (ns, b) (ppL ns p) = some (ns, b ++ [p])) (b : List Pp) : foldO f (ns, b) (ps.map (ppL ns)) = some (ns, b ++ ps) := by
  induction ps generalizing b with
  | nil => simp [foldO]
  | cons p r ih =>
    show foldO f (ns, b) (ppL ns p :: r.map (ppL ns)) = _
    unfold foldO
    rw [hs b p (by simp)]
    show foldO f (ns, b ++ [p]) (r.map (ppL ns)) = _
    rw [ih (fun c q hq => hs c q (List.mem_cons_of_mem _ hq))]
    simp
theorem fold_net {f : St → Txt → Option St} {n : Net} (h1 : ∀ (a : List Nd) x, x ∈ n.nodes → f (a, []) (ndL x) = some (a ++ [x], [])) (h2 : ∀ (b : List Pp) p, p ∈ n.pipes → f (n.nodes, b) (ppL n.nodes p) = some (n.nodes, b ++ [p])) :
    foldO f ([], []) (netL n) = some (n.nodes, n.pipes) := by
  rw [netL, foldO_app, fold_nodes h1]
  simpa using fold_pipes h2 []
theorem stepI_node {x : Nd} (h : nodeB x = true) (a : List Nd) : stepI (a, []) (ndL x) = some (a ++ [x], []) := by
  rw [stepI, if_pos ⟨by rw [pieces_ndL h]; rfl, rfl⟩]; exact addNd_ok h
theorem stepI_pipe {n : Net} (h : netB n = true) {p : Pp} (hp : p ∈ n.pipes) (b : List Pp) : stepI (n.nodes, b) (ppL n.nodes p) = some (n.nodes, b ++ [p]) := by
  rw [stepI, pieces_ppL h hp, if_neg (fun e => by have := e.1; simp [wPipe, wNode] at this), if_pos ⟨rfl, rfl⟩]
  exact addPp_ok (fun v h0 h1 => numI_itoa (by omega) (by omega)) h hp b
theorem stepS_node {x : Nd} (h : nodeB x = true) (a : List Nd) : stepS (a, []) (ndL x) = some (a ++ [x], []) := by
  rw [stepS, if_pos (by rw [pieces_ndL h]; rfl)]; exact addNd_ok h
theorem stepS_pipe {n : Net} (h : netB n = true) {p : Pp} (hp : p ∈ n.pipes) (b : List Pp) : stepS (n.nodes, b) (ppL n.nodes p) = some (n.nodes, b ++ [p]) := by
  rw [stepS, pieces_ppL h hp, if_neg (by simp), if_pos (by simp)]
  exact addPp_ok (fun v h0 h1 => numS_itoa (by omega) (by omega)) h hp b
theorem rdNet_ok {n : Net} (h : netB n = true) : rdNet (netTx n) = some n := by
  obtain ⟨_, _, _, hn, _⟩ := netB_t h
  rw [rdNet, (netTx_ln h).1, fold_net (fun a x hx => stepI_node (nodesB_mem hn x hx) a) (fun b p hp => stepI_pipe h hp b)]
  exact if_pos ⟨(netTx_ln h).2, h⟩
theorem rdNetS_ok {n : Net} (h : netB n = true) : rdNetS (netTx n) = some n := by
  obtain ⟨_, _, _, hn, _⟩ := netB_t h
  rw [rdNetS, (netTx_ln h).1, fold_net (fun a x hx => stepS_node (nodesB_mem hn x hx) a) (fun b p hp => stepS_pipe h hp b)]
  exact if_pos ⟨h, rfl⟩
theorem rdNetS_t {s : Txt} {n : Net} (h : rdNetS s = some n) : netB n = true ∧ netTx n = s := by
  unfold rdNetS at h
  split at h
  · split at h
    · next hc => simp only [Option.some.injEq] at h; subst h; exact hc
    · cases h
  · cases h

/-- What the lines read so far are. -/
def PLine (ns : List Nd) (l : Txt) (p : Pp) : Prop := ∃ w1 w2, l = glue 32 [wPipe, w1, w2, itoa p.k, itoa p.vol, itoa p.lim] ∧ p.fr = nIdx ns (tb w1) ∧ p.to = nIdx ns (tb w2)
def Inv (L : List Txt) (s : St) : Prop := ∃ Lp, L = s.1.map ndL ++ Lp ∧ Lp.length = s.2.length ∧ ∀ i (h1 : i < Lp.length) (h2 : i < s.2.length), PLine s.1 Lp[i] s.2[i]
theorem six {W : List Txt} (h : W.length = 6) : ∃ a b c d e f, W = [a, b, c, d, e, f] := by
  match W, h with
  | [a, b, c, d, e, f], _ => exact ⟨a, b, c, d, e, f, rfl⟩
theorem addPp_t {s t : St} {l : Txt} (hp : (pieces 32 l).head? = some wPipe) (h6 : (pieces 32 l).length = 6) (h : addPp numI s l = some t) : ∃ p, t = (s.1, s.2 ++ [p]) ∧ PLine s.1 l p := by
  unfold addPp at h
  split at h
  · next a b c hn =>
    simp only [Option.some.injEq] at h
    refine ⟨_, h.symm, ?_⟩
    obtain ⟨w0, w1, w2, w3, w4, w5, hw⟩ := six h6
    have hg := glue_pieces 32 l
    rw [hw] at hn hp hg ⊢
    have h0 := numsBy_at hn 0 (by simp) (by simp)
    have h1 := numsBy_at hn 1 (by simp) (by simp)
    have h2 := numsBy_at hn 2 (by simp) (by simp)
    simp at h0 h1 h2 hp
    refine ⟨w1, w2, ?_, rfl, rfl⟩
    rw [← hg, hp]
    simp only [wdPp]
    rw [(numI_some h0).1, (numI_some h1).1, (numI_some h2).1]
  · cases h
theorem Inv.step {L : List Txt} {s t : St} {l : Txt} (hi : Inv L s) (h : stepI s l = some t) : Inv (L ++ [l]) t := by
  obtain ⟨Lp, hL, hlen, hall⟩ := hi
  unfold stepI at h
  split at h
  · next hc =>
    unfold addNd at h
    cases hr : rdNode l with
    | none => rw [hr] at h; cases h
    | some x =>
      rw [hr] at h
      simp only [Option.map_some, Option.some.injEq] at h
      subst h
      have h0 : Lp = [] := by rw [hc.2] at hlen; exact List.eq_nil_of_length_eq_zero hlen
      subst h0
      refine ⟨[], ?_, by simp [hc.2], fun i h1 _ => by simp at h1⟩
      rw [hL]
      simp [(rdNode_t hr).2]
  · split at h
    · next hc =>
      obtain ⟨p, rfl, hp⟩ := addPp_t hc.1 hc.2 h
      refine ⟨Lp ++ [l], by rw [hL]; simp, by simp [hlen], fun i h1 h2 => ?_⟩
      by_cases hi : i < Lp.length
      · have := hall i hi (by omega)
        simpa [List.getElem_append_left hi, List.getElem_append_left (hlen ▸ hi : i < s.2.length)] using this
      · have e : i = Lp.length := by simp at h1; omega
        subst e
        simpa [hlen] using hp
    · cases h
theorem Inv.fold {L : List Txt} {t : St} (h : foldO stepI ([], []) L = some t) : Inv L t := by
  have : ∀ (k : Nat), k ≤ L.length → ∃ s, foldO stepI ([], []) (L.take k) = some s ∧ Inv (L.take k) s := by
    intro k
    induction k with
    | zero => intro _; exact ⟨([], []), rfl, [], rfl, rfl, fun i h1 _ => by simp at h1⟩
    | succ k ih =>
      intro hk
      obtain ⟨s, h1, h2⟩ := ih (by omega)
      have hs := foldO_step k (by omega) h1
      cases hst : stepI s L[k] with
      | none => rw [foldO_no k (by omega) h1 hst] at h; cases h
      | some t' =>
        rw [hst] at hs
        exact ⟨t', hs, by rw [List.take_succ_eq_append_getElem (by omega)]; exact h2.step hst⟩
  obtain ⟨s, h1, h2⟩ := this L.length (Nat.le_refl _)
  rw [List.take_length] at h1 h2
  rw [h] at h1
  simp only [Option.some.injEq] at h1
  subst h1; exact h2
theorem rdNet_t {s : Txt} {n : Net} (h : rdNet s = some n) : netB n = true ∧ netTx n = s := by
  unfold rdNet at h
  split at h
  · next t ht =>
    split at h
    · next hc =>
      simp only [Option.some.injEq] at h; subst h
      refine ⟨hc.2, ?_⟩
      obtain ⟨Lp, hL, hlen, hall⟩ := Inv.fold ht
      have hs := ln_text s
      rw [hc.1, List.append_nil] at hs
      rw [← hs, hL, netTx, netL]
      congr 2
      refine List.ext_getElem (by simp [hlen]) (fun i h1 h2 => ?_)
      rw [List.getElem_map]
      have hi : i < t.2.length := by simpa using h1
      obtain ⟨w1, w2, e, e1, e2⟩ := hall i h2 hi
      have hp := netB_pipe hc.2 (p := t.2[i]) (List.getElem_mem hi)
      rw [e, ppL]
      have a1 : nmAt t.1 t.2[i].fr = w1 := by rw [e1, nIdx_ge (by rw [← e1]; exact hp.1), tb_data]
      have a2 : nmAt t.1 t.2[i].to = w2 := by rw [e2, nIdx_ge (by rw [← e2]; exact hp.2.2.1), tb_data]
      rw [a1, a2]
    · cases h
  · cases h
theorem rdNetS_eq (s : Txt) : rdNetS s = rdNet s := by
  cases h : rdNetS s with
  | some n =>
    obtain ⟨h1, h2⟩ := rdNetS_t h
    rw [← h2, rdNet_ok h1]
  | none =>
    cases h' : rdNet s with
    | none => rfl
    | some n =>
      obtain ⟨h1, h2⟩ := rdNet_t h'
      rw [← h2, rdNetS_ok h1] at h; cases h
theorem netTx_ne {n : Net} (h : netB n = true) : netTx n ≠ [] := by
  obtain ⟨h1, _⟩ := netB_t h
  unfold netTx netL
  cases hn : n.nodes with
  | nil => rw [hn] at h1; simp at h1
  | cons x r => simp [lns]
theorem rdNet_nil : rdNet [] = none := by
  cases h : rdNet [] with
  | none => rfl
  | some n => exact absurd (rdNet_t h).2 (netTx_ne (rdNet_t h).1)

end Go.Proofs.YtdbgncinaacheaaGreatDoor
