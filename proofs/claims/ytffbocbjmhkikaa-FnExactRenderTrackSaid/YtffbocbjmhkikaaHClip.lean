/- Clip: records in memory, and the laws' helpers on them. No conditions. -/
import Derived.Test.YtffbocbjmhkikaaB0
import Derived.Test.YtffbocbjmhkikaaLA
import Derived.Laws.StructEq
namespace Go.Proofs.Ytffbocbjmhkikaa
open Go.RowKit
set_option linter.unusedVariables false
set_option linter.unusedSimpArgs false
set_option maxRecDepth 100000
attribute [local simp] List.getElem?_cons_zero
attribute [local irreducible] awCond awCall awLoop awDraw ow retQ retC resQ Keeps
structure Clip where
  (src fr len at_ gain : Int)
deriving Inhabited, DecidableEq
def Clip.row (c : Clip) : List Value := [iv c.src, iv c.fr, iv c.len, iv c.at_, iv c.gain]
def clipR : RecV Clip 5 := ⟨Clip.row, fun _ => rfl⟩
abbrev Clip.v (c : Clip) : Value := .agg #[iv c.src, iv c.fr, iv c.len, iv c.at_, iv c.gain]
theorem clip_cells {M : Mem} {id off : Nat} {g : Clip} (h : Cl M id off g.row) : cellAt M id off = some (iv g.src) ∧ cellAt M id (off + 1) = some (iv g.fr) ∧ cellAt M id (off + 2) = some (iv g.len) ∧ cellAt M id (off + 3) = some (iv g.at_) ∧ cellAt M id (off + 4) = some (iv g.gain) :=
  ⟨h 0 _ rfl, h 1 _ rfl, h 2 _ rfl, h 3 _ rfl, h 4 _ rfl⟩
theorem clip_load {M : Mem} {id off : Nat} {g : Clip} (h : Cl M id off g.row) : cellsAt M id off 5 = some [iv g.src, iv g.fr, iv g.len, iv g.at_, iv g.gain] := cellsAt_of h rfl (by omega)
theorem clip_eq {a b : Clip} : a = b ↔ a.src = b.src ∧ a.fr = b.fr ∧ a.len = b.len ∧ a.at_ = b.at_ ∧ a.gain = b.gain := by
  cases a; cases b; simp
def clipI : Ints clipR := ⟨fun zs => ⟨gi zs 0, gi zs 1, gi zs 2, gi zs 3, gi zs 4⟩, fun zs h => by
  obtain ⟨x0, x1, x2, x3, x4, rfl⟩ : ∃ x0 x1 x2 x3 x4, zs = [x0, x1, x2, x3, x4] := by
    match zs, h with
    | [x0, x1, x2, x3, x4], _ => exact ⟨x0, x1, x2, x3, x4, rfl⟩
  rfl⟩

/-- Equality of records, as the language has it. -/
theorem clip_same (a b : Clip) : aggEq Try.prog 71 #[iv a.src, iv a.fr, iv a.len, iv a.at_, iv a.gain] #[iv b.src, iv b.fr, iv b.len, iv b.at_, iv b.gain] = some (decide (a = b)) := by
  refine aggEq_of (by kernel_rfl) rfl rfl fun w => ?_
  unfold Op.equal
  rw [show Op.maxDepth = 9999 + 1 from rfl]
  rw [run_equalIn_agg _ _ _ _ _ Try.underlying71 (by kernel_rfl)]
  simp [go_sem]
  repeat' split
  all_goals simp_all [clip_eq]
theorem clip_eql (a b : Clip) : binV Try.prog .eql 71 (.agg #[iv a.src, iv a.fr, iv a.len, iv a.at_, iv a.gain]) (.agg #[iv b.src, iv b.fr, iv b.len, iv b.at_, iv b.gain]) = some (.bool (decide (a = b))) := by
  simp only [binV, eqV, Try.underlying71, clip_same, Option.map_some]
theorem clip_neq (a b : Clip) : binV Try.prog .neq 71 (.agg #[iv a.src, iv a.fr, iv a.len, iv a.at_, iv a.gain]) (.agg #[iv b.src, iv b.fr, iv b.len, iv b.at_, iv b.gain]) = some (.bool (!decide (a = b))) := by
  simp only [binV, eqV, Try.underlying71, clip_same, Option.map_some]
@[simp] theorem clip_fill (x0 x1 x2 x3 x4 : Int) : Instr.fill (fun i => some (i * 5, 5)) (zrow [iv 0, iv 0, iv 0, iv 0, iv 0] 1).toArray [(0, .agg #[iv x0, iv x1, iv x2, iv x3, iv x4])] = some #[iv x0, iv x1, iv x2, iv x3, iv x4] := fill_agg (by omega) rfl rfl
theorem toClip_a {M : Mem} (g : Clip) : Det Try.prog M.length 33 [g.v] M g.v M := by
  first | (refine det_fn Try.func33 rfl Try.ntmps33 Try.results33 rfl rfl rfl (by simp) ?_) | (refine det_fnC Try.func33 rfl Try.ntmps33 Try.results33 rfl rfl (by simp) ?_)
  simp [keeps_app]
theorem eqClip_a {M : Mem} (a b : Clip) : Det Try.prog M.length 122 [a.v, b.v] M (.bool (decide (a = b))) M := by
  first | (refine det_fn Try.func122 rfl Try.ntmps122 Try.results122 rfl rfl rfl (by simp) ?_) | (refine det_fnC Try.func122 rfl Try.ntmps122 Try.results122 rfl rfl (by simp) ?_)
  simp
  repeat' (first | (refine awCond_split ?_ ?_ <;> intro _) | (simp [keeps_app]))
  all_goals (simp_all [clip_eq])
theorem szClipS_a {M : Mem} {A : Option Addr} {n c : Nat} (z : Int) (hz : 0 ≤ z) (hz1 : z ≤ 1048576) (hn : n ≤ maxLen) : Det Try.prog M.length 65 [.slice A n c, iv z] M (iv (if z - n < 0 then -1 else z - n)) M := by
  unfold maxLen at hn
  first | (refine det_fn Try.func65 rfl Try.ntmps65 Try.results65 rfl rfl rfl (by simp) ?_) | (refine det_fnC Try.func65 rfl Try.ntmps65 Try.results65 rfl rfl (by simp) ?_)
  simp (disch := omega) [wrap_in]
  refine awCond_split ?_ ?_ <;> intro h
  · simp at h
    simp [h, Keeps.refl]
    try omega
  · simp at h
    simp [h, Keeps.refl]
    try omega
theorem toClipS_d {M : Mem} {A : Option Addr} {n c : Nat} {l : List Clip} (h : Sl clipR M A n l) (hn : n ≤ 1099511627776) : Det Try.prog M.length 69 [.slice A n c] M (.slice (some ⟨M.length, 0, none⟩) n n) (M ++ [.live ⟨cellsL clipR l, true, true, 71, 5⟩]) := by
  have hl := h.1
  refine Ctr.det ?_
  first | (refine ctr_fn Try.func69 rfl Try.ntmps69 Try.results69 rfl rfl (by simp) ?_) | (refine ctr_fnC Try.func69 rfl Try.ntmps69 Try.results69 rfl (by simp) ?_)
  simp
  refine ⟨by omega, ?_⟩
  refine awLoop_T (fun m T M' => ∃ k : Nat, k + m = n ∧ M' = M ++ [.live ⟨cellsL clipR (l.take k) ++ zrow [iv 0, iv 0, iv 0, iv 0, iv 0] m, true, true, 71, 5⟩] ∧ look T 4 = some (iv k) ∧ look T 0 = some (.slice A n c) ∧ look T 3 = some (.slice (some ⟨M.length, 0, none⟩) n n)) n ⟨0, by omega, by simp [cellsL_nil], by simp, by simp, by simp⟩ ?_
  rintro m T M' ⟨k, hm, rfl, h4, h0, h3⟩
  by_cases hlt : k < n
  · obtain ⟨id, off, rfl, he, hc⟩ := h.at_ hlt
    have hc' := hc.app [.live ⟨cellsL clipR (l.take k) ++ zrow [iv 0, iv 0, iv 0, iv 0, iv 0] m, true, true, 71, 5⟩]
    simp (disch := omega) [h3, h4, h0, hlt, wrap_in, clip_load hc']
    obtain ⟨m, rfl⟩ : ∃ m', m = m' + 1 := ⟨m - 1, by omega⟩
    refine awCall_det' ((toClip_a (el l k))) (by simp) ⟨by simp, ow_iff.2 ⟨_, putCells_rec clipR (a := el l k) (Nat.le_refl _) rfl (List.length_take_of_le (by omega)) rfl, ?_⟩⟩
    refine lpI m (by omega) ?_
    refine ⟨k + 1, by omega, by rw [take_el (by omega)], by simp, by simp [h0], by simp [h3]⟩
  · obtain rfl : k = n := by omega
    obtain rfl : m = 0 := by omega
    simp [h3, h4, h0, List.take_of_length_le (Nat.le_of_eq hl)]
theorem toClipS_a {M : Mem} {A : Option Addr} {n c : Nat} {l : List Clip} (h : Sl clipR M A n l) (hn : n ≤ 1099511627776) : Ctr Try.prog M.length 69 [.slice A n c] M fun v M' => Fresh clipR M v M' l :=
  (toClipS_d h hn).ctr (Fresh.new h.1 (by omega))
theorem eqClipS_a {M : Mem} {A B : Option Addr} {n c m d : Nat} {x y : List Clip} (hx : Sl clipR M A n x) (hy : Sl clipR M B m y) (hn : n ≤ 1099511627776) : Det Try.prog M.length 76 [.slice A n c, .slice B m d] M (.bool (decide (x = y))) M := by
  have hlx := hx.1
  have hly := hy.1
  first | (refine det_fn Try.func76 rfl Try.ntmps76 Try.results76 rfl rfl rfl (by simp) ?_) | (refine det_fnC Try.func76 rfl Try.ntmps76 Try.results76 rfl rfl (by simp) ?_)
  simp
  refine awCond_split ?_ ?_ <;> intro hnm
  · simp at hnm
    simp
    exact ⟨fun e => by subst e; omega, Keeps.refl _⟩
  · simp at hnm
    obtain rfl : n = m := by omega
    simp
    refine awLoop_T (fun m T M' => ∃ k : Nat, k + m = n ∧ M' = M ∧ look T 5 = some (iv k) ∧ look T 0 = some (.slice A n c) ∧ look T 1 = some (.slice B n d) ∧ x.take k = y.take k) n ⟨0, by omega, rfl, by simp, by simp, by simp, by simp⟩ ?_
    rintro m T M' ⟨k, hm, rfl, h4, h0, h1, hk⟩
    by_cases hlt : k < n
    · obtain ⟨id, off, rfl, he, hc⟩ := hx.at_ hlt
      obtain ⟨id', off', rfl, he', hc'⟩ := hy.at_ hlt
      simp (disch := omega) [h4, h0, h1, hlt, wrap_in]
      refine awDraw_E 8 [[],[],[0,1],[2,0,1],[],[],[4,5],[6,4,5],[3,2,0,1,7,6,4,5],[8,3,2,0,1,7,6,4,5]] (by kernel_rfl) (by kernel_rfl) ?_
      simp (disch := omega) [h4, h0, h1, hlt, wrap_in, clip_load hc, clip_load hc']
      refine awCall_det' (eqClip_a (el x k) (el y k)) (Nat.le_refl _) ?_
      simp
      refine awCond_split ?_ ?_ <;> intro he
      · simp at he
        simp
        exact ⟨fun e => he (by rw [e]), Keeps.refl _⟩
      · simp at he
        simp (disch := omega) [h4, h0, h1, wrap_in]
        refine lpI (m - 1) (by omega) ?_
        exact ⟨k + 1, by omega, rfl, by simp, by simp [h0], by simp [h1], by rw [take_el (by omega), take_el (by omega), hk, he]⟩
    · obtain rfl : k = n := by omega
      rw [List.take_of_length_le (by omega), List.take_of_length_le (by omega)] at hk
      simp [h4, h0, h1, hk, Keeps.refl]
def markClip (z : Int) (i : Nat) : Clip := ⟨z + i * 5, z + i * 5 + 1, z + i * 5 + 1 + 1, z + i * 5 + 1 + 1 + 1, z + i * 5 + 1 + 1 + 1 + 1⟩
def markClipL (z : Int) (n : Nat) : List Clip := (List.range n).map (markClip z)
theorem markClipL_succ (z : Int) (n : Nat) : markClipL z (n + 1) = markClipL z n ++ [markClip z n] := by simp [markClipL, List.range_succ]
theorem markClipS_a {M : Mem} {b : Nat} {A : Option Addr} {n c : Nat} {x : List Clip} (z : Int) (hx : Sl clipR M A n x) (ho : Ownd M A n) (hb : ∀ a, A = some a → 0 < n → b ≤ a.block) (hn : n ≤ 1099511627776) (hz0 : 0 ≤ z) (hz : z ≤ 1152921504606846976) :
    Ctr Try.prog b 77 [.slice A n c, iv z] M fun v M' => v = iv (z + n * 5) ∧ Sl clipR M' A n (markClipL z n) ∧ Ownd M' A n ∧ Turned A n M M' := by
  have hlx := hx.1
  rcases Nat.eq_zero_or_pos n with rfl | hp
  · first | (refine ctr_fn Try.func77 rfl Try.ntmps77 Try.results77 rfl rfl (by simp) ?_) | (refine ctr_fnC Try.func77 rfl Try.ntmps77 Try.results77 rfl (by simp) ?_)
    simp
    refine awLoop_T (fun m T M' => M' = M ∧ look T 1 = some (iv z) ∧ look T 5 = some (iv 0) ∧ look T 0 = some (.slice A 0 c)) 0 ⟨rfl, by simp, by simp, by simp⟩ ?_
    rintro m T M' ⟨rfl, h1, h3, h0⟩
    simp [h1, h3, h0]
    obtain rfl := List.eq_nil_of_length_eq_zero hlx
    exact ⟨hx, ho, rfl, fun i s hs _ => hs⟩
  · obtain ⟨id, off, r, rfl, hr, ho⟩ := ho hp
    have hid := (List.getElem?_eq_some_iff.1 hr).1
    obtain ⟨hz5, hlen⟩ := hx.cells hr hp (by omega)
    have hb' : b ≤ id := hb _ rfl hp
    obtain ⟨cs, own, t, e, esz⟩ := r
    simp only at hz5 hlen ho
    subst hz5 ho
    have hM : M = M.set id (.live ⟨cs.take off ++ cellsL clipR (markClipL z 0) ++ cs.drop (off + 0 * 5), true, t, e, 5⟩) := by
      rw [set_self]
      simp [markClipL, cellsL_nil, hr]
    first | (refine ctr_fn Try.func77 rfl Try.ntmps77 Try.results77 rfl rfl (by simp) ?_) | (refine ctr_fnC Try.func77 rfl Try.ntmps77 Try.results77 rfl (by simp) ?_)
    simp
    refine awLoop_T (fun m T M' => ∃ j : Nat, j + m = n ∧ M' = M.set id (.live ⟨cs.take off ++ cellsL clipR (markClipL z j) ++ cs.drop (off + j * 5), true, t, e, 5⟩) ∧ look T 5 = some (iv j) ∧ look T 1 = some (iv (z + j * 5)) ∧ look T 0 = some (.slice (some ⟨id, off, none⟩) n c)) n ⟨0, by omega, hM, by simp, by simp, by simp⟩ ?_
    rintro m T M' ⟨j, hm, rfl, h5, h1, h0⟩
    have hlm : (markClipL z j).length = j := by simp [markClipL]
    by_cases hlt : j < n
    · have hsp := splice_mid clipR (cs := cs) (off := off) (a := markClip z j) hlm (by omega)
      have hlc : (cs.take off ++ cellsL clipR (markClipL z j) ++ cs.drop (off + j * 5)).length = cs.length := by
        simp only [List.length_append, List.length_take, List.length_drop, cellsL_len, hlm]; omega
      generalize cs.take off ++ cellsL clipR (markClipL z j) ++ cs.drop (off + j * 5) = Cs at hsp hlc ⊢
      simp (disch := first | omega | (simp <;> omega)) [h5, h1, h0, hlt, wrap_in, rowEsz_set hid, put_set hid hb']
      refine lpI (m - 1) (by omega) ?_
      refine ⟨j + 1, by omega, ?_, by simp, by simp; omega, by simp [h0]⟩
      rw [markClipL_succ, ← hsp]
      rfl
    · obtain rfl : j = n := by omega
      have hS := Sl.set (R := clipR) (M := M) (pre := cs.take off) (post := cs.drop (off + j * 5)) (o := true) (t := t) (e := e) hid (List.length_take_of_le (by omega)) hlm
      have hO : Ownd (M.set id (.live ⟨cs.take off ++ cellsL clipR (markClipL z j) ++ cs.drop (off + j * 5), true, t, e, 5⟩)) (some ⟨id, off, none⟩) j := fun _ => ⟨_, _, _, rfl, List.getElem?_set_self hid, rfl⟩
      have hT : Turned (some ⟨id, off, none⟩) j M (M.set id (.live ⟨cs.take off ++ cellsL clipR (markClipL z j) ++ cs.drop (off + j * 5), true, t, e, 5⟩)) := set_turned hp
      generalize M.set id (.live ⟨cs.take off ++ cellsL clipR (markClipL z j) ++ cs.drop (off + j * 5), true, t, e, 5⟩) = M' at hS hO hT ⊢
      simp [h5, h1, h0]
      exact ⟨hS, hO, hT⟩
theorem heldClipS_a {M : Mem} {A : Option Addr} {n c : Nat} (z : Int) (hx : Sl clipR M A n (markClipL z n)) (hn : n ≤ 1099511627776) (hz0 : 0 ≤ z) (hz : z ≤ 1152921504606846976) :
    Det Try.prog M.length 82 [.slice A n c, iv z] M (iv (z + n * 5)) M := by
  first | (refine det_fn Try.func82 rfl Try.ntmps82 Try.results82 rfl rfl rfl (by simp) ?_) | (refine det_fnC Try.func82 rfl Try.ntmps82 Try.results82 rfl rfl (by simp) ?_)
  simp
  refine awLoop_T (fun m T M' => ∃ j : Nat, j + m = n ∧ M' = M ∧ look T 5 = some (iv j) ∧ look T 1 = some (iv (z + j * 5)) ∧ look T 0 = some (.slice A n c)) n ⟨0, by omega, rfl, by simp, by simp, by simp⟩ ?_
  rintro m T M' ⟨j, hm, rfl, h5, h1, h0⟩
  by_cases hlt : j < n
  · obtain ⟨id, off, rfl, he, hc⟩ := hx.at_ hlt
    rw [show el (markClipL z n) j = markClip z j by simp [markClipL, el, hlt]] at hc
    obtain ⟨c0, c1, c2, c3, c4⟩ := clip_cells hc
    simp (disch := omega) [h5, h1, h0, hlt, wrap_in, c0, c1, c2, c3, c4, markClip]
    refine lpI (m - 1) (by omega) ?_
    exact ⟨j + 1, by omega, rfl, by simp, by simp; omega, by simp [h0]⟩
  · obtain rfl : j = n := by omega
    simp [h5, h1, h0, Keeps.refl]
/-! The same, as the laws use them. -/
theorem sz_ClipS_over {M : Mem} {v : Value} {lo hi : Nat} {l : List Clip} {z : Int} (h : RdL clipR lo hi M v l) (hz : 0 ≤ z) (hz1 : z ≤ 1048576) (hl : z < l.length) : Det Try.prog M.length 65 [v, iv z] M (iv (-1)) M := by
  obtain ⟨A, n, c, rfl, hn, hS, _⟩ := h
  have := szClipS_a (M := M) (A := A) (n := n) (c := c) z hz hz1 (by unfold maxLen; omega)
  rwa [if_pos (by have := hS.1; omega)] at this
theorem sz_ClipS {M : Mem} {v : Value} {lo hi : Nat} {l : List Clip} {z : Int} (h : RdL clipR lo hi M v l) (hz : 0 ≤ z) (hz1 : z ≤ 1048576) (hl : l.length ≤ z) : Det Try.prog M.length 65 [v, iv z] M (iv (z - l.length)) M := by
  obtain ⟨A, n, c, rfl, hn, hS, _⟩ := h
  have := szClipS_a (M := M) (A := A) (n := n) (c := c) z hz hz1 (by unfold maxLen; omega)
  rw [if_neg (by have := hS.1; omega)] at this
  rwa [hS.1]
theorem to_ClipS {M : Mem} {v : Value} {lo hi : Nat} {l : List Clip} (h : RdL clipR lo hi M v l) (hl : l.length ≤ 1048576) : Ctr Try.prog M.length 69 [v] M fun v' M' => OwL clipR M.length M'.length M' v' l ∧ Keeps M M' := by
  obtain ⟨A, n, c, rfl, hn, hS, _⟩ := h
  exact (toClipS_a hS (by have := hS.1; omega)).mono fun v' M' h => h.ow
theorem eq_ClipS {M : Mem} {v w : Value} {lo hi lo' hi' : Nat} {x y : List Clip} (hx : OwL clipR lo hi M v x) (hy : RdL clipR lo' hi' M w y) : Det Try.prog M.length 76 [v, w] M (.bool (decide (x = y))) M := by
  obtain ⟨A, n, c, rfl, hn, hS, _⟩ := hx
  obtain ⟨B, m, d, rfl, hm, hT, _⟩ := hy
  exact eqClipS_a hS hT hn
theorem mark_ClipS {M : Mem} {b : Nat} {v : Value} {lo hi : Nat} {l : List Clip} {z : Int} (h : OwL clipR lo hi M v l) (hb : b ≤ lo) (hz : 0 ≤ z) (hz1 : z ≤ 1152921504606846976) :
    Ctr Try.prog b 77 [v, iv z] M fun r M' => r = iv (z + l.length * 5) ∧ OwL clipR lo hi M' v (markClipL z l.length) ∧ Turn lo hi M M' := by
  obtain ⟨A, n, c, rfl, hn, hS, hi', ho⟩ := h
  exact (markClipS_a z hS ho (fun a e hp => by have := hi' a e hp; omega) hn hz hz1).mono fun r M' ⟨h1, h2, h3, h4⟩ => ⟨by rw [h1, hS.1], ⟨A, n, c, rfl, hn, by rw [hS.1]; exact h2, hi', h3⟩, Nat.le_of_eq h4.1.symm, fun i s hs hd => h4.2 i s hs fun a e hp => by have := hi' a e hp; omega⟩
theorem held_ClipS {M : Mem} {v : Value} {lo hi m : Nat} {z : Int} (h : OwL clipR lo hi M v (markClipL z m)) (hz : 0 ≤ z) (hz1 : z ≤ 1152921504606846976) : Det Try.prog M.length 82 [v, iv z] M (iv (z + m * 5)) M := by
  obtain ⟨A, n, c, rfl, hn, hS, _⟩ := h
  have hm : m = n := by have := hS.1; simpa [markClipL] using this
  subst hm
  exact heldClipS_a z hS hn hz hz1
end Go.Proofs.Ytffbocbjmhkikaa
