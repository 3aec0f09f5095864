/- PipesBetween of both sides. -/
import Derived.Test.YtdapdaadglaoiaaPipesAt
namespace Go.Proofs.Ytdapdaadglaoiaa
open Go.RowKit

def betF (a b : Int) (p : Pp) : Bool := (p.fr == a && p.to == b) || (p.fr == b && p.to == a)
def pbR (n : Net) (a b : Int) : List Int × Int := if codeNs n [a, b] = 0 then (selP (betF a b) n.pipes n.pipes.length, 0) else ([], codeNs n [a, b])
theorem pbR_len (n : Net) (a b : Int) (h : n.pipes.length ≤ 2000000) : (pbR n a b).1.length ≤ 2000000 := by
  unfold pbR
  split
  · exact Nat.le_trans (selP_len _ _ _) h
  · simp
theorem selP_no (f : Pp → Bool) (ps : List Pp) (k : Nat) (h : k < ps.length) (hf : f ps[k] = false) : selP f ps (k + 1) = selP f ps k := by rw [selP_succ f ps k h, hf]; simp
theorem selP_yes (f : Pp → Bool) (ps : List Pp) (k : Nat) (h : k < ps.length) (hf : f ps[k] = true) : selP f ps (k + 1) = selP f ps k ++ [(k : Int)] := by rw [selP_succ f ps k h, hf]; simp
theorem bet_cases (a b : Int) (p : Pp) : (betF a b p = true ∧ (p.fr == a) = true ∧ (p.to == b) = true)
    ∨ (betF a b p = true ∧ (p.fr == a) = true ∧ (p.to == b) = false ∧ (p.fr == b) = true ∧ (p.to == a) = true)
    ∨ (betF a b p = true ∧ (p.fr == a) = false ∧ (p.fr == b) = true ∧ (p.to == a) = true)
    ∨ (betF a b p = false ∧ (p.fr == a) = true ∧ (p.to == b) = false ∧ (p.fr == b) = true ∧ (p.to == a) = false)
    ∨ (betF a b p = false ∧ (p.fr == a) = true ∧ (p.to == b) = false ∧ (p.fr == b) = false)
    ∨ (betF a b p = false ∧ (p.fr == a) = false ∧ (p.fr == b) = true ∧ (p.to == a) = false)
    ∨ (betF a b p = false ∧ (p.fr == a) = false ∧ (p.fr == b) = false) := by
  unfold betF
  cases (p.fr == a) <;> cases (p.to == b) <;> cases (p.fr == b) <;> cases (p.to == a) <;> simp

set_option maxHeartbeats 2000000 in
theorem impl_PipesBetween_any (nv pv : Value) (n : Net) (a b : Int) (w : World) (h : NetAt w nv pv n) (hcap : CapOk nv) :
    Calls Try.prog 25 #[.agg #[nv, pv], .int .i64 a, .int .i64 b] w (OutI w (pbR n a b)) := by
  obtain ⟨a0, k0, rfl⟩ := h.1.shape
  obtain ⟨a1, k1, rfl⟩ := h.2.2.shape
  have HP := hid h.2.2
  have hWb := below_new w (.cells #[.slice a0 n.nodes.length k0, .slice a1 n.pipes.length k1] 27)
  have hbx := Box.new w #[.slice a0 n.nodes.length k0, .slice a1 n.pipes.length k1] 27
  have hW2 := hWb.alloc hWb.size (.cells #[.int .i64 a, .int .i64 b] 2)
  have hbx := hbx.below (below_new _ (.cells #[.int .i64 a, .int .i64 b] 2))
  have hvb := Box.new (w.alloc (.cells #[.slice a0 n.nodes.length k0, .slice a1 n.pipes.length k1] 27)) #[.int .i64 a, .int .i64 b] 2
  have h := h.below hW2
  rw [World.size_alloc] at hvb
  have hcell : ∀ j (hj : j < [a, b].length), ((w.alloc (.cells #[.slice a0 n.nodes.length k0, .slice a1 n.pipes.length k1] 27)).alloc (.cells #[.int .i64 a, .int .i64 b] 2)).cell? ⟨w.heap.size + 1, j, none⟩ = some (.int .i64 [a, b][j]) := fun j hj => by
    have hj' : j < 2 := by simpa using hj
    rcases (by omega : j = 0 ∨ j = 1) with rfl | rfl
    · exact hvb.two.1
    · exact hvb.two.2
  go_enter Try.func25, Try.ntmps25
  go_wp2_with fail
  refine (checkNodes_any _ _ n (w.heap.size + 1) [a, b] 2 _ h hcap hvb.1 hcell (by simp)).mono ?_
  by_cases hc : codeNs n [a, b] = 0
  case neg =>
    have hr : Hid (pbR n a b = ([], codeNs n [a, b])) := by simp [Hid, pbR, hc]
    obtain ⟨c, hcc⟩ : ∃ c, codeNs n [a, b] = c := ⟨_, rfl⟩
    rw [hcc] at hr hc ⊢
    have hc' : (c != 0) = true := by simpa using hc
    rintro e w1 ⟨rfl, b1⟩
    have B := hid (hW2.trans (b1.mono hW2.size))
    clear hcc
    go_wp2_with fail
    go_ret2
    rw [hr.out]
    exact ⟨_, rfl, Slc.nil _ _, B.out⟩
  have hr : Hid (pbR n a b = (selP (betF a b) n.pipes n.pipes.length, 0)) := by simp [Hid, pbR, hc]
  have hl : n.pipes.length ≤ 1000 := by
    have hb : netB n = true := by
      cases hb : netB n
      · simp [codeNs, hb] at hc
      · rfl
    have := (netB_t hb).2.2.1
    omega
  rw [hc]
  rintro e w1 ⟨rfl, b1⟩
  have B := hid (hW2.trans (b1.mono hW2.size))
  obtain ⟨c0, c1⟩ := (hbx.below b1).two
  clear hWb hW2 b1 hbx hc hvb hcell h
  go_wp2_with fail
  clear c0 c1
  go_loopw [23, 9] (fun i s wr => PaRel (betF a b) n.pipes w i s wr) (fun i _ _ => n.pipes.length - (intOf i).toNat)
  case atStart => exact ⟨0, rfl, by omega, OwnI.nil _ _ _, B.out⟩
  case round =>
    obtain ⟨k, rfl, hk, hown, hbel⟩ := hrel
    have HO := hid hown
    have hsz := hbel.size
    have HB := hid hbel
    by_cases hlt : k < n.pipes.length
    case neg =>
      obtain rfl : k = n.pipes.length := by omega
      have hlen := selP_len (betF a b) n.pipes n.pipes.length
      clear hown hbel
      obtain ⟨_, ra, rc, rfl, _⟩ := HO.out.slc (by omega)
      go_wp2_with fail
      go_ret2
      rw [hr.out]
      exact ⟨_, rfl, HO.out.slc (by omega), HB.out⟩
    have hlen := selP_len (betF a b) n.pipes k
    obtain ⟨bb, off, rfl, hb, hcc⟩ := (HP.out.below hbel).at' (by omega)
    obtain ⟨c0, c1, c2, c3, c4⟩ := cellsP (hcc k hlt)
    clear hcc hown hbel
    rcases bet_cases a b n.pipes[k] with ⟨hf, f1, f2⟩ | ⟨hf, f1, f2, f3, f4⟩ | ⟨hf, f1, f3, f4⟩ | ⟨hf, f1, f2, f3, f4⟩ | ⟨hf, f1, f2, f3⟩ | ⟨hf, f1, f3, f4⟩ | ⟨hf, f1, f3⟩
    · have hS := hid (selP_yes _ _ k hlt hf)
      clear hf
      go_wp2_with (at_builtin; refine wpList_app1 rfl (.tmp 50) (.tmp 52) rfl w.heap.size u9 _ rfl ((HO.out.alloc _).alloc _) (wr.heap.size + 1) (k : Int) rfl ?c1 ?c2 ?c3 ?_)
      case c1 => simp
      case c2 => omega
      case c3 => simp; omega
      intro v1 w2 hv1 hk1 hb1
      have HV1 := hid hv1
      have HB1 := hid (((HB.out.alloc hsz _).alloc (by simp; omega) _).trans (hk1.below (by simp; omega) (fun b h => (HO.out.lt b h).1)))
      clear hv1 hk1 hb1
      go_wp2_with fail
      go_roundw
      case rel => exact ⟨k + 1, by go_num, by omega, by rw [hS.out]; exact HV1.out, HB1.out⟩
      case measure => simp [intOf]; omega
    · have hS := hid (selP_yes _ _ k hlt hf)
      clear hf
      go_wp2_with (at_builtin; refine wpList_app1 rfl (.tmp 50) (.tmp 52) rfl w.heap.size u9 _ rfl ((HO.out.alloc _).alloc _) (wr.heap.size + 1) (k : Int) rfl ?c1 ?c2 ?c3 ?_)
      case c1 => simp
      case c2 => omega
      case c3 => simp; omega
      intro v1 w2 hv1 hk1 hb1
      have HV1 := hid hv1
      have HB1 := hid (((HB.out.alloc hsz _).alloc (by simp; omega) _).trans (hk1.below (by simp; omega) (fun b h => (HO.out.lt b h).1)))
      clear hv1 hk1 hb1
      go_wp2_with fail
      go_roundw
      case rel => exact ⟨k + 1, by go_num, by omega, by rw [hS.out]; exact HV1.out, HB1.out⟩
      case measure => simp [intOf]; omega
    · have hS := hid (selP_yes _ _ k hlt hf)
      clear hf
      go_wp2_with (at_builtin; refine wpList_app1 rfl (.tmp 50) (.tmp 52) rfl w.heap.size u9 _ rfl ((HO.out.alloc _).alloc _) (wr.heap.size + 1) (k : Int) rfl ?c1 ?c2 ?c3 ?_)
      case c1 => simp
      case c2 => omega
      case c3 => simp; omega
      intro v1 w2 hv1 hk1 hb1
      have HV1 := hid hv1
      have HB1 := hid (((HB.out.alloc hsz _).alloc (by simp; omega) _).trans (hk1.below (by simp; omega) (fun b h => (HO.out.lt b h).1)))
      clear hv1 hk1 hb1
      go_wp2_with fail
      go_roundw
      case rel => exact ⟨k + 1, by go_num, by omega, by rw [hS.out]; exact HV1.out, HB1.out⟩
      case measure => simp [intOf]; omega
    · have hS := hid (selP_no _ _ k hlt hf)
      clear hf
      go_wp2_with fail
      go_roundw
      case rel => exact ⟨k + 1, by go_num, by omega, by rw [hS.out]; exact HO.out.alloc _, HB.out.alloc hsz _⟩
      case measure => simp [intOf]; omega
    · have hS := hid (selP_no _ _ k hlt hf)
      clear hf
      go_wp2_with fail
      go_roundw
      case rel => exact ⟨k + 1, by go_num, by omega, by rw [hS.out]; exact HO.out.alloc _, HB.out.alloc hsz _⟩
      case measure => simp [intOf]; omega
    · have hS := hid (selP_no _ _ k hlt hf)
      clear hf
      go_wp2_with fail
      go_roundw
      case rel => exact ⟨k + 1, by go_num, by omega, by rw [hS.out]; exact HO.out.alloc _, HB.out.alloc hsz _⟩
      case measure => simp [intOf]; omega
    · have hS := hid (selP_no _ _ k hlt hf)
      clear hf
      go_wp2_with fail
      go_roundw
      case rel => exact ⟨k + 1, by go_num, by omega, by rw [hS.out]; exact HO.out.alloc _, HB.out.alloc hsz _⟩
      case measure => simp [intOf]; omega

end Go.Proofs.Ytdapdaadglaoiaa
