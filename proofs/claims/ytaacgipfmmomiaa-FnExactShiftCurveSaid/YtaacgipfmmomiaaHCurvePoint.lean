/- CurvePoint: records in memory, and the laws' helpers on them. No conditions. -/
import Derived.Test.YtaacgipfmmomiaaB0
import Derived.Test.YtaacgipfmmomiaaLA
import Derived.Laws.StructEq
namespace Go.Proofs.Ytaacgipfmmomiaa
open Go.RowKit
set_option linter.unusedVariables false
set_option linter.unusedSimpArgs false
set_option maxRecDepth 100000
attribute [local simp] List.getElem?_cons_zero
attribute [local irreducible] awCond awCall awLoop awDraw ow retQ retC resQ Keeps
structure CurvePoint where
  (at_ val : Int)
deriving Inhabited, DecidableEq
def CurvePoint.row (c : CurvePoint) : List Value := [iv c.at_, iv c.val]
def curvePointR : RecV CurvePoint 2 := ⟨CurvePoint.row, fun _ => rfl⟩
abbrev CurvePoint.v (c : CurvePoint) : Value := .agg #[iv c.at_, iv c.val]
theorem curvePoint_cells {M : Mem} {id off : Nat} {g : CurvePoint} (h : Cl M id off g.row) : cellAt M id off = some (iv g.at_) ∧ cellAt M id (off + 1) = some (iv g.val) :=
  ⟨h 0 _ rfl, h 1 _ rfl⟩
theorem curvePoint_load {M : Mem} {id off : Nat} {g : CurvePoint} (h : Cl M id off g.row) : cellsAt M id off 2 = some [iv g.at_, iv g.val] := cellsAt_of h rfl (by omega)
theorem curvePoint_eq {a b : CurvePoint} : a = b ↔ a.at_ = b.at_ ∧ a.val = b.val := by
  cases a; cases b; simp
def curvePointI : Ints curvePointR := ⟨fun zs => ⟨gi zs 0, gi zs 1⟩, fun zs h => by
  obtain ⟨x0, x1, rfl⟩ : ∃ x0 x1, zs = [x0, x1] := by
    match zs, h with
    | [x0, x1], _ => exact ⟨x0, x1, rfl⟩
  rfl⟩

/-- Equality of records, as the language has it. -/
theorem curvePoint_same (a b : CurvePoint) : aggEq Try.prog 83 #[iv a.at_, iv a.val] #[iv b.at_, iv b.val] = some (decide (a = b)) := by
  refine aggEq_of (by kernel_rfl) rfl rfl fun w => ?_
  unfold Op.equal
  rw [show Op.maxDepth = 9999 + 1 from rfl]
  rw [run_equalIn_agg _ _ _ _ _ Try.underlying83 (by kernel_rfl)]
  simp [go_sem]
  repeat' split
  all_goals simp_all [curvePoint_eq]
theorem curvePoint_eql (a b : CurvePoint) : binV Try.prog .eql 83 (.agg #[iv a.at_, iv a.val]) (.agg #[iv b.at_, iv b.val]) = some (.bool (decide (a = b))) := by
  simp only [binV, eqV, Try.underlying83, curvePoint_same, Option.map_some]
theorem curvePoint_neq (a b : CurvePoint) : binV Try.prog .neq 83 (.agg #[iv a.at_, iv a.val]) (.agg #[iv b.at_, iv b.val]) = some (.bool (!decide (a = b))) := by
  simp only [binV, eqV, Try.underlying83, curvePoint_same, Option.map_some]
@[simp] theorem curvePoint_fill (x0 x1 : Int) : Instr.fill (fun i => some (i * 2, 2)) (zrow [iv 0, iv 0] 1).toArray [(0, .agg #[iv x0, iv x1])] = some #[iv x0, iv x1] := fill_agg (by omega) rfl rfl
theorem toCurvePoint_a {M : Mem} (g : CurvePoint) : Det Try.prog M.length 90 [g.v] M g.v M := by
  first | (refine det_fn Try.func90 rfl Try.ntmps90 Try.results90 rfl rfl rfl (by simp) ?_) | (refine det_fnC Try.func90 rfl Try.ntmps90 Try.results90 rfl rfl (by simp) ?_)
  simp [keeps_app]
theorem eqCurvePoint_a {M : Mem} (a b : CurvePoint) : Det Try.prog M.length 91 [a.v, b.v] M (.bool (decide (a = b))) M := by
  first | (refine det_fn Try.func91 rfl Try.ntmps91 Try.results91 rfl rfl rfl (by simp) ?_) | (refine det_fnC Try.func91 rfl Try.ntmps91 Try.results91 rfl rfl (by simp) ?_)
  simp
  repeat' (first | (refine awCond_split ?_ ?_ <;> intro _) | (simp [keeps_app]))
  all_goals (simp_all [curvePoint_eq])
theorem szCurvePointS_a {M : Mem} {A : Option Addr} {n c : Nat} (z : Int) (hz : 0 ≤ z) (hz1 : z ≤ 1048576) (hn : n ≤ maxLen) : Det Try.prog M.length 59 [.slice A n c, iv z] M (iv (if z - n < 0 then -1 else z - n)) M := by
  unfold maxLen at hn
  first | (refine det_fn Try.func59 rfl Try.ntmps59 Try.results59 rfl rfl rfl (by simp) ?_) | (refine det_fnC Try.func59 rfl Try.ntmps59 Try.results59 rfl rfl (by simp) ?_)
  simp (disch := omega) [wrap_in]
  refine awCond_split ?_ ?_ <;> intro h
  · simp at h
    simp [h, Keeps.refl]
    try omega
  · simp at h
    simp [h, Keeps.refl]
    try omega
theorem toCurvePointS_d {M : Mem} {A : Option Addr} {n c : Nat} {l : List CurvePoint} (h : Sl curvePointR M A n l) (hn : n ≤ 1099511627776) : Det Try.prog M.length 60 [.slice A n c] M (.slice (some ⟨M.length, 0, none⟩) n n) (M ++ [.live ⟨cellsL curvePointR l, true, true, 83, 2⟩]) := by
  have hl := h.1
  refine Ctr.det ?_
  first | (refine ctr_fn Try.func60 rfl Try.ntmps60 Try.results60 rfl rfl (by simp) ?_) | (refine ctr_fnC Try.func60 rfl Try.ntmps60 Try.results60 rfl (by simp) ?_)
  simp
  refine ⟨by omega, ?_⟩
  refine awLoop_T (fun m T M' => ∃ k : Nat, k + m = n ∧ M' = M ++ [.live ⟨cellsL curvePointR (l.take k) ++ zrow [iv 0, iv 0] m, true, true, 83, 2⟩] ∧ look T 4 = some (iv k) ∧ look T 0 = some (.slice A n c) ∧ look T 3 = some (.slice (some ⟨M.length, 0, none⟩) n n)) n ⟨0, by omega, by simp [cellsL_nil], by simp, by simp, by simp⟩ ?_
  rintro m T M' ⟨k, hm, rfl, h4, h0, h3⟩
  by_cases hlt : k < n
  · obtain ⟨id, off, rfl, he, hc⟩ := h.at_ hlt
    have hc' := hc.app [.live ⟨cellsL curvePointR (l.take k) ++ zrow [iv 0, iv 0] m, true, true, 83, 2⟩]
    simp (disch := omega) [h3, h4, h0, hlt, wrap_in, curvePoint_load hc']
    obtain ⟨m, rfl⟩ : ∃ m', m = m' + 1 := ⟨m - 1, by omega⟩
    refine awCall_det' ((toCurvePoint_a (el l k))) (by simp) ⟨by simp, ow_iff.2 ⟨_, putCells_rec curvePointR (a := el l k) (Nat.le_refl _) rfl (List.length_take_of_le (by omega)) rfl, ?_⟩⟩
    refine lpI m (by omega) ?_
    refine ⟨k + 1, by omega, by rw [take_el (by omega)], by simp, by simp [h0], by simp [h3]⟩
  · obtain rfl : k = n := by omega
    obtain rfl : m = 0 := by omega
    simp [h3, h4, h0, List.take_of_length_le (Nat.le_of_eq hl)]
theorem toCurvePointS_a {M : Mem} {A : Option Addr} {n c : Nat} {l : List CurvePoint} (h : Sl curvePointR M A n l) (hn : n ≤ 1099511627776) : Ctr Try.prog M.length 60 [.slice A n c] M fun v M' => Fresh curvePointR M v M' l :=
  (toCurvePointS_d h hn).ctr (Fresh.new h.1 (by omega))
theorem eqCurvePointS_a {M : Mem} {A B : Option Addr} {n c m d : Nat} {x y : List CurvePoint} (hx : Sl curvePointR M A n x) (hy : Sl curvePointR M B m y) (hn : n ≤ 1099511627776) : Det Try.prog M.length 62 [.slice A n c, .slice B m d] M (.bool (decide (x = y))) M := by
  have hlx := hx.1
  have hly := hy.1
  first | (refine det_fn Try.func62 rfl Try.ntmps62 Try.results62 rfl rfl rfl (by simp) ?_) | (refine det_fnC Try.func62 rfl Try.ntmps62 Try.results62 rfl rfl (by simp) ?_)
  simp
  refine awCond_split ?_ ?_ <;> intro hnm
  · simp at hnm
    simp
    exact ⟨fun e => by subst e; omega, Keeps.refl _⟩
  · simp at hnm
    obtain rfl : n = m := by omega
    simp
    refine awLoop_T (fun m T M' => ∃ k : Nat, k + m = n ∧ M' = M ∧ look T 5 = some (iv k) ∧ look T 0 = some (.slice A n c) ∧ look T 1 = some (.slice B n d) ∧ x.take k = y.take k) n ⟨0, by omega, rfl, by simp, by simp, by simp, by simp⟩ ?_
    rintro m T M' ⟨k, hm, rfl, h4, h0, h1, hk⟩
    by_cases hlt : k < n
    · obtain ⟨id, off, rfl, he, hc⟩ := hx.at_ hlt
      obtain ⟨id', off', rfl, he', hc'⟩ := hy.at_ hlt
      simp (disch := omega) [h4, h0, h1, hlt, wrap_in]
      refine awDraw_E 8 [[],[],[0,1],[2,0,1],[],[],[4,5],[6,4,5],[3,2,0,1,7,6,4,5],[8,3,2,0,1,7,6,4,5]] (by kernel_rfl) (by kernel_rfl) ?_
      simp (disch := omega) [h4, h0, h1, hlt, wrap_in, curvePoint_load hc, curvePoint_load hc']
      refine awCall_det' (eqCurvePoint_a (el x k) (el y k)) (Nat.le_refl _) ?_
      simp
      refine awCond_split ?_ ?_ <;> intro he
      · simp at he
        simp
        exact ⟨fun e => he (by rw [e]), Keeps.refl _⟩
      · simp at he
        simp (disch := omega) [h4, h0, h1, wrap_in]
        refine lpI (m - 1) (by omega) ?_
        exact ⟨k + 1, by omega, rfl, by simp, by simp [h0], by simp [h1], by rw [take_el (by omega), take_el (by omega), hk, he]⟩
    · obtain rfl : k = n := by omega
      rw [List.take_of_length_le (by omega), List.take_of_length_le (by omega)] at hk
      simp [h4, h0, h1, hk, Keeps.refl]
def markCurvePoint (z : Int) (i : Nat) : CurvePoint := ⟨z + i * 2, z + i * 2 + 1⟩
def markCurvePointL (z : Int) (n : Nat) : List CurvePoint := (List.range n).map (markCurvePoint z)
theorem markCurvePointL_succ (z : Int) (n : Nat) : markCurvePointL z (n + 1) = markCurvePointL z n ++ [markCurvePoint z n] := by simp [markCurvePointL, List.range_succ]
theorem markCurvePointS_a {M : Mem} {b : Nat} {A : Option Addr} {n c : Nat} {x : List CurvePoint} (z : Int) (hx : Sl curvePointR M A n x) (ho : Ownd M A n) (hb : ∀ a, A = some a → 0 < n → b ≤ a.block) (hn : n ≤ 1099511627776) (hz0 : 0 ≤ z) (hz : z ≤ 1152921504606846976) :
    Ctr Try.prog b 70 [.slice A n c, iv z] M fun v M' => v = iv (z + n * 2) ∧ Sl curvePointR M' A n (markCurvePointL z n) ∧ Ownd M' A n ∧ Turned A n M M' := by
  have hlx := hx.1
  rcases Nat.eq_zero_or_pos n with rfl | hp
  · first | (refine ctr_fn Try.func70 rfl Try.ntmps70 Try.results70 rfl rfl (by simp) ?_) | (refine ctr_fnC Try.func70 rfl Try.ntmps70 Try.results70 rfl (by simp) ?_)
    simp
    refine awLoop_T (fun m T M' => M' = M ∧ look T 1 = some (iv z) ∧ look T 5 = some (iv 0) ∧ look T 0 = some (.slice A 0 c)) 0 ⟨rfl, by simp, by simp, by simp⟩ ?_
    rintro m T M' ⟨rfl, h1, h3, h0⟩
    simp [h1, h3, h0]
    obtain rfl := List.eq_nil_of_length_eq_zero hlx
    exact ⟨hx, ho, rfl, fun i s hs _ => hs⟩
  · obtain ⟨id, off, r, rfl, hr, ho⟩ := ho hp
    have hid := (List.getElem?_eq_some_iff.1 hr).1
    obtain ⟨hz5, hlen⟩ := hx.cells hr hp (by omega)
    have hb' : b ≤ id := hb _ rfl hp
    obtain ⟨cs, own, t, e, esz⟩ := r
    simp only at hz5 hlen ho
    subst hz5 ho
    have hM : M = M.set id (.live ⟨cs.take off ++ cellsL curvePointR (markCurvePointL z 0) ++ cs.drop (off + 0 * 2), true, t, e, 2⟩) := by
      rw [set_self]
      simp [markCurvePointL, cellsL_nil, hr]
    first | (refine ctr_fn Try.func70 rfl Try.ntmps70 Try.results70 rfl rfl (by simp) ?_) | (refine ctr_fnC Try.func70 rfl Try.ntmps70 Try.results70 rfl (by simp) ?_)
    simp
    refine awLoop_T (fun m T M' => ∃ j : Nat, j + m = n ∧ M' = M.set id (.live ⟨cs.take off ++ cellsL curvePointR (markCurvePointL z j) ++ cs.drop (off + j * 2), true, t, e, 2⟩) ∧ look T 5 = some (iv j) ∧ look T 1 = some (iv (z + j * 2)) ∧ look T 0 = some (.slice (some ⟨id, off, none⟩) n c)) n ⟨0, by omega, hM, by simp, by simp, by simp⟩ ?_
    rintro m T M' ⟨j, hm, rfl, h5, h1, h0⟩
    have hlm : (markCurvePointL z j).length = j := by simp [markCurvePointL]
    by_cases hlt : j < n
    · have hsp := splice_mid curvePointR (cs := cs) (off := off) (a := markCurvePoint z j) hlm (by omega)
      have hlc : (cs.take off ++ cellsL curvePointR (markCurvePointL z j) ++ cs.drop (off + j * 2)).length = cs.length := by
        simp only [List.length_append, List.length_take, List.length_drop, cellsL_len, hlm]; omega
      generalize cs.take off ++ cellsL curvePointR (markCurvePointL z j) ++ cs.drop (off + j * 2) = Cs at hsp hlc ⊢
      simp (disch := first | omega | (simp <;> omega)) [h5, h1, h0, hlt, wrap_in, rowEsz_set hid, put_set hid hb']
      refine lpI (m - 1) (by omega) ?_
      refine ⟨j + 1, by omega, ?_, by simp, by simp; omega, by simp [h0]⟩
      rw [markCurvePointL_succ, ← hsp]
      rfl
    · obtain rfl : j = n := by omega
      have hS := Sl.set (R := curvePointR) (M := M) (pre := cs.take off) (post := cs.drop (off + j * 2)) (o := true) (t := t) (e := e) hid (List.length_take_of_le (by omega)) hlm
      have hO : Ownd (M.set id (.live ⟨cs.take off ++ cellsL curvePointR (markCurvePointL z j) ++ cs.drop (off + j * 2), true, t, e, 2⟩)) (some ⟨id, off, none⟩) j := fun _ => ⟨_, _, _, rfl, List.getElem?_set_self hid, rfl⟩
      have hT : Turned (some ⟨id, off, none⟩) j M (M.set id (.live ⟨cs.take off ++ cellsL curvePointR (markCurvePointL z j) ++ cs.drop (off + j * 2), true, t, e, 2⟩)) := set_turned hp
      generalize M.set id (.live ⟨cs.take off ++ cellsL curvePointR (markCurvePointL z j) ++ cs.drop (off + j * 2), true, t, e, 2⟩) = M' at hS hO hT ⊢
      simp [h5, h1, h0]
      exact ⟨hS, hO, hT⟩
theorem heldCurvePointS_a {M : Mem} {A : Option Addr} {n c : Nat} (z : Int) (hx : Sl curvePointR M A n (markCurvePointL z n)) (hn : n ≤ 1099511627776) (hz0 : 0 ≤ z) (hz : z ≤ 1152921504606846976) :
    Det Try.prog M.length 71 [.slice A n c, iv z] M (iv (z + n * 2)) M := by
  first | (refine det_fn Try.func71 rfl Try.ntmps71 Try.results71 rfl rfl rfl (by simp) ?_) | (refine det_fnC Try.func71 rfl Try.ntmps71 Try.results71 rfl rfl (by simp) ?_)
  simp
  refine awLoop_T (fun m T M' => ∃ j : Nat, j + m = n ∧ M' = M ∧ look T 5 = some (iv j) ∧ look T 1 = some (iv (z + j * 2)) ∧ look T 0 = some (.slice A n c)) n ⟨0, by omega, rfl, by simp, by simp, by simp⟩ ?_
  rintro m T M' ⟨j, hm, rfl, h5, h1, h0⟩
  by_cases hlt : j < n
  · obtain ⟨id, off, rfl, he, hc⟩ := hx.at_ hlt
    rw [show el (markCurvePointL z n) j = markCurvePoint z j by simp [markCurvePointL, el, hlt]] at hc
    obtain ⟨c0, c1⟩ := curvePoint_cells hc
    simp (disch := omega) [h5, h1, h0, hlt, wrap_in, c0, c1, markCurvePoint]
    refine lpI (m - 1) (by omega) ?_
    exact ⟨j + 1, by omega, rfl, by simp, by simp; omega, by simp [h0]⟩
  · obtain rfl : j = n := by omega
    simp [h5, h1, h0, Keeps.refl]
/-! The same, as the laws use them. -/
theorem sz_CurvePointS_over {M : Mem} {v : Value} {lo hi : Nat} {l : List CurvePoint} {z : Int} (h : RdL curvePointR lo hi M v l) (hz : 0 ≤ z) (hz1 : z ≤ 1048576) (hl : z < l.length) : Det Try.prog M.length 59 [v, iv z] M (iv (-1)) M := by
  obtain ⟨A, n, c, rfl, hn, hS, _⟩ := h
  have := szCurvePointS_a (M := M) (A := A) (n := n) (c := c) z hz hz1 (by unfold maxLen; omega)
  rwa [if_pos (by have := hS.1; omega)] at this
theorem sz_CurvePointS {M : Mem} {v : Value} {lo hi : Nat} {l : List CurvePoint} {z : Int} (h : RdL curvePointR lo hi M v l) (hz : 0 ≤ z) (hz1 : z ≤ 1048576) (hl : l.length ≤ z) : Det Try.prog M.length 59 [v, iv z] M (iv (z - l.length)) M := by
  obtain ⟨A, n, c, rfl, hn, hS, _⟩ := h
  have := szCurvePointS_a (M := M) (A := A) (n := n) (c := c) z hz hz1 (by unfold maxLen; omega)
  rw [if_neg (by have := hS.1; omega)] at this
  rwa [hS.1]
theorem to_CurvePointS {M : Mem} {v : Value} {lo hi : Nat} {l : List CurvePoint} (h : RdL curvePointR lo hi M v l) (hl : l.length ≤ 1048576) : Ctr Try.prog M.length 60 [v] M fun v' M' => OwL curvePointR M.length M'.length M' v' l ∧ Keeps M M' := by
  obtain ⟨A, n, c, rfl, hn, hS, _⟩ := h
  exact (toCurvePointS_a hS (by have := hS.1; omega)).mono fun v' M' h => h.ow
theorem eq_CurvePointS {M : Mem} {v w : Value} {lo hi lo' hi' : Nat} {x y : List CurvePoint} (hx : OwL curvePointR lo hi M v x) (hy : RdL curvePointR lo' hi' M w y) : Det Try.prog M.length 62 [v, w] M (.bool (decide (x = y))) M := by
  obtain ⟨A, n, c, rfl, hn, hS, _⟩ := hx
  obtain ⟨B, m, d, rfl, hm, hT, _⟩ := hy
  exact eqCurvePointS_a hS hT hn
theorem mark_CurvePointS {M : Mem} {b : Nat} {v : Value} {lo hi : Nat} {l : List CurvePoint} {z : Int} (h : OwL curvePointR lo hi M v l) (hb : b ≤ lo) (hz : 0 ≤ z) (hz1 : z ≤ 1152921504606846976) :
    Ctr Try.prog b 70 [v, iv z] M fun r M' => r = iv (z + l.length * 2) ∧ OwL curvePointR lo hi M' v (markCurvePointL z l.length) ∧ Turn lo hi M M' := by
  obtain ⟨A, n, c, rfl, hn, hS, hi', ho⟩ := h
  exact (markCurvePointS_a z hS ho (fun a e hp => by have := hi' a e hp; omega) hn hz hz1).mono fun r M' ⟨h1, h2, h3, h4⟩ => ⟨by rw [h1, hS.1], ⟨A, n, c, rfl, hn, by rw [hS.1]; exact h2, hi', h3⟩, Nat.le_of_eq h4.1.symm, fun i s hs hd => h4.2 i s hs fun a e hp => by have := hi' a e hp; omega⟩
theorem held_CurvePointS {M : Mem} {v : Value} {lo hi m : Nat} {z : Int} (h : OwL curvePointR lo hi M v (markCurvePointL z m)) (hz : 0 ≤ z) (hz1 : z ≤ 1152921504606846976) : Det Try.prog M.length 71 [v, iv z] M (iv (z + m * 2)) M := by
  obtain ⟨A, n, c, rfl, hn, hS, _⟩ := h
  have hm : m = n := by have := hS.1; simpa [markCurvePointL] using this
  subst hm
  exact heldCurvePointS_a z hS hn hz hz1
end Go.Proofs.Ytaacgipfmmomiaa
