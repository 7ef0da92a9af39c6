/- Segment: records in memory, and the laws' helpers on them. No conditions. -/
import Derived.Test.YtffbocbjmhkikaaB0
import Derived.Test.YtffbocbjmhkikaaLA
import Derived.Laws.StructEq
namespace Go.Proofs.Ytffbocbjmhkikaa
open Go.RowKit
set_option linter.unusedVariables false
set_option linter.unusedSimpArgs false
set_option maxRecDepth 100000
attribute [local simp] List.getElem?_cons_zero
attribute [local irreducible] awCond awCall awLoop awDraw ow retQ retC resQ Keeps
structure Segment where
  (ln tg : Int)
deriving Inhabited, DecidableEq
def Segment.row (c : Segment) : List Value := [iv c.ln, iv c.tg]
def segmentR : RecV Segment 2 := ⟨Segment.row, fun _ => rfl⟩
abbrev Segment.v (c : Segment) : Value := .agg #[iv c.ln, iv c.tg]
theorem segment_cells {M : Mem} {id off : Nat} {g : Segment} (h : Cl M id off g.row) : cellAt M id off = some (iv g.ln) ∧ cellAt M id (off + 1) = some (iv g.tg) :=
  ⟨h 0 _ rfl, h 1 _ rfl⟩
theorem segment_load {M : Mem} {id off : Nat} {g : Segment} (h : Cl M id off g.row) : cellsAt M id off 2 = some [iv g.ln, iv g.tg] := cellsAt_of h rfl (by omega)
theorem segment_eq {a b : Segment} : a = b ↔ a.ln = b.ln ∧ a.tg = b.tg := by
  cases a; cases b; simp
def segmentI : Ints segmentR := ⟨fun zs => ⟨gi zs 0, gi zs 1⟩, fun zs h => by
  obtain ⟨x0, x1, rfl⟩ : ∃ x0 x1, zs = [x0, x1] := by
    match zs, h with
    | [x0, x1], _ => exact ⟨x0, x1, rfl⟩
  rfl⟩

/-- Equality of records, as the language has it. -/
theorem segment_same (a b : Segment) : aggEq Try.prog 143 #[iv a.ln, iv a.tg] #[iv b.ln, iv b.tg] = some (decide (a = b)) := by
  refine aggEq_of (by kernel_rfl) rfl rfl fun w => ?_
  unfold Op.equal
  rw [show Op.maxDepth = 9999 + 1 from rfl]
  rw [run_equalIn_agg _ _ _ _ _ Try.underlying143 (by kernel_rfl)]
  simp [go_sem]
  repeat' split
  all_goals simp_all [segment_eq]
theorem segment_eql (a b : Segment) : binV Try.prog .eql 143 (.agg #[iv a.ln, iv a.tg]) (.agg #[iv b.ln, iv b.tg]) = some (.bool (decide (a = b))) := by
  simp only [binV, eqV, Try.underlying143, segment_same, Option.map_some]
theorem segment_neq (a b : Segment) : binV Try.prog .neq 143 (.agg #[iv a.ln, iv a.tg]) (.agg #[iv b.ln, iv b.tg]) = some (.bool (!decide (a = b))) := by
  simp only [binV, eqV, Try.underlying143, segment_same, Option.map_some]
@[simp] theorem segment_fill (x0 x1 : Int) : Instr.fill (fun i => some (i * 2, 2)) (zrow [iv 0, iv 0] 1).toArray [(0, .agg #[iv x0, iv x1])] = some #[iv x0, iv x1] := fill_agg (by omega) rfl rfl
theorem toSegment_a {M : Mem} (g : Segment) : Det Try.prog M.length 143 [g.v] M g.v M := by
  first | (refine det_fn Try.func143 rfl Try.ntmps143 Try.results143 rfl rfl rfl (by simp) ?_) | (refine det_fnC Try.func143 rfl Try.ntmps143 Try.results143 rfl rfl (by simp) ?_)
  simp [keeps_app]
theorem eqSegment_a {M : Mem} (a b : Segment) : Det Try.prog M.length 145 [a.v, b.v] M (.bool (decide (a = b))) M := by
  first | (refine det_fn Try.func145 rfl Try.ntmps145 Try.results145 rfl rfl rfl (by simp) ?_) | (refine det_fnC Try.func145 rfl Try.ntmps145 Try.results145 rfl rfl (by simp) ?_)
  simp
  repeat' (first | (refine awCond_split ?_ ?_ <;> intro _) | (simp [keeps_app]))
  all_goals (simp_all [segment_eq])
theorem szSegmentS_a {M : Mem} {A : Option Addr} {n c : Nat} (z : Int) (hz : 0 ≤ z) (hz1 : z ≤ 1048576) (hn : n ≤ maxLen) : Det Try.prog M.length 96 [.slice A n c, iv z] M (iv (if z - n < 0 then -1 else z - n)) M := by
  unfold maxLen at hn
  first | (refine det_fn Try.func96 rfl Try.ntmps96 Try.results96 rfl rfl rfl (by simp) ?_) | (refine det_fnC Try.func96 rfl Try.ntmps96 Try.results96 rfl rfl (by simp) ?_)
  simp (disch := omega) [wrap_in]
  refine awCond_split ?_ ?_ <;> intro h
  · simp at h
    simp [h, Keeps.refl]
    try omega
  · simp at h
    simp [h, Keeps.refl]
    try omega
theorem toSegmentS_d {M : Mem} {A : Option Addr} {n c : Nat} {l : List Segment} (h : Sl segmentR M A n l) (hn : n ≤ 1099511627776) : Det Try.prog M.length 99 [.slice A n c] M (.slice (some ⟨M.length, 0, none⟩) n n) (M ++ [.live ⟨cellsL segmentR l, true, true, 143, 2⟩]) := by
  have hl := h.1
  refine Ctr.det ?_
  first | (refine ctr_fn Try.func99 rfl Try.ntmps99 Try.results99 rfl rfl (by simp) ?_) | (refine ctr_fnC Try.func99 rfl Try.ntmps99 Try.results99 rfl (by simp) ?_)
  simp
  refine ⟨by omega, ?_⟩
  refine awLoop_T (fun m T M' => ∃ k : Nat, k + m = n ∧ M' = M ++ [.live ⟨cellsL segmentR (l.take k) ++ zrow [iv 0, iv 0] m, true, true, 143, 2⟩] ∧ look T 4 = some (iv k) ∧ look T 0 = some (.slice A n c) ∧ look T 3 = some (.slice (some ⟨M.length, 0, none⟩) n n)) n ⟨0, by omega, by simp [cellsL_nil], by simp, by simp, by simp⟩ ?_
  rintro m T M' ⟨k, hm, rfl, h4, h0, h3⟩
  by_cases hlt : k < n
  · obtain ⟨id, off, rfl, he, hc⟩ := h.at_ hlt
    have hc' := hc.app [.live ⟨cellsL segmentR (l.take k) ++ zrow [iv 0, iv 0] m, true, true, 143, 2⟩]
    simp (disch := omega) [h3, h4, h0, hlt, wrap_in, segment_load hc']
    obtain ⟨m, rfl⟩ : ∃ m', m = m' + 1 := ⟨m - 1, by omega⟩
    refine awCall_det' ((toSegment_a (el l k))) (by simp) ⟨by simp, ow_iff.2 ⟨_, putCells_rec segmentR (a := el l k) (Nat.le_refl _) rfl (List.length_take_of_le (by omega)) rfl, ?_⟩⟩
    refine lpI m (by omega) ?_
    refine ⟨k + 1, by omega, by rw [take_el (by omega)], by simp, by simp [h0], by simp [h3]⟩
  · obtain rfl : k = n := by omega
    obtain rfl : m = 0 := by omega
    simp [h3, h4, h0, List.take_of_length_le (Nat.le_of_eq hl)]
theorem toSegmentS_a {M : Mem} {A : Option Addr} {n c : Nat} {l : List Segment} (h : Sl segmentR M A n l) (hn : n ≤ 1099511627776) : Ctr Try.prog M.length 99 [.slice A n c] M fun v M' => Fresh segmentR M v M' l :=
  (toSegmentS_d h hn).ctr (Fresh.new h.1 (by omega))
theorem eqSegmentS_a {M : Mem} {A B : Option Addr} {n c m d : Nat} {x y : List Segment} (hx : Sl segmentR M A n x) (hy : Sl segmentR M B m y) (hn : n ≤ 1099511627776) : Det Try.prog M.length 103 [.slice A n c, .slice B m d] M (.bool (decide (x = y))) M := by
  have hlx := hx.1
  have hly := hy.1
  first | (refine det_fn Try.func103 rfl Try.ntmps103 Try.results103 rfl rfl rfl (by simp) ?_) | (refine det_fnC Try.func103 rfl Try.ntmps103 Try.results103 rfl rfl (by simp) ?_)
  simp
  refine awCond_split ?_ ?_ <;> intro hnm
  · simp at hnm
    simp
    exact ⟨fun e => by subst e; omega, Keeps.refl _⟩
  · simp at hnm
    obtain rfl : n = m := by omega
    simp
    refine awLoop_T (fun m T M' => ∃ k : Nat, k + m = n ∧ M' = M ∧ look T 5 = some (iv k) ∧ look T 0 = some (.slice A n c) ∧ look T 1 = some (.slice B n d) ∧ x.take k = y.take k) n ⟨0, by omega, rfl, by simp, by simp, by simp, by simp⟩ ?_
    rintro m T M' ⟨k, hm, rfl, h4, h0, h1, hk⟩
    by_cases hlt : k < n
    · obtain ⟨id, off, rfl, he, hc⟩ := hx.at_ hlt
      obtain ⟨id', off', rfl, he', hc'⟩ := hy.at_ hlt
      simp (disch := omega) [h4, h0, h1, hlt, wrap_in]
      refine awDraw_E 8 [[],[],[0,1],[2,0,1],[],[],[4,5],[6,4,5],[3,2,0,1,7,6,4,5],[8,3,2,0,1,7,6,4,5]] (by kernel_rfl) (by kernel_rfl) ?_
      simp (disch := omega) [h4, h0, h1, hlt, wrap_in, segment_load hc, segment_load hc']
      refine awCall_det' (eqSegment_a (el x k) (el y k)) (Nat.le_refl _) ?_
      simp
      refine awCond_split ?_ ?_ <;> intro he
      · simp at he
        simp
        exact ⟨fun e => he (by rw [e]), Keeps.refl _⟩
      · simp at he
        simp (disch := omega) [h4, h0, h1, wrap_in]
        refine lpI (m - 1) (by omega) ?_
        exact ⟨k + 1, by omega, rfl, by simp, by simp [h0], by simp [h1], by rw [take_el (by omega), take_el (by omega), hk, he]⟩
    · obtain rfl : k = n := by omega
      rw [List.take_of_length_le (by omega), List.take_of_length_le (by omega)] at hk
      simp [h4, h0, h1, hk, Keeps.refl]
def markSegment (z : Int) (i : Nat) : Segment := ⟨z + i * 2, z + i * 2 + 1⟩
def markSegmentL (z : Int) (n : Nat) : List Segment := (List.range n).map (markSegment z)
theorem markSegmentL_succ (z : Int) (n : Nat) : markSegmentL z (n + 1) = markSegmentL z n ++ [markSegment z n] := by simp [markSegmentL, List.range_succ]
/-! The same, as the laws use them. -/
theorem sz_SegmentS_over {M : Mem} {v : Value} {lo hi : Nat} {l : List Segment} {z : Int} (h : RdL segmentR lo hi M v l) (hz : 0 ≤ z) (hz1 : z ≤ 1048576) (hl : z < l.length) : Det Try.prog M.length 96 [v, iv z] M (iv (-1)) M := by
  obtain ⟨A, n, c, rfl, hn, hS, _⟩ := h
  have := szSegmentS_a (M := M) (A := A) (n := n) (c := c) z hz hz1 (by unfold maxLen; omega)
  rwa [if_pos (by have := hS.1; omega)] at this
theorem sz_SegmentS {M : Mem} {v : Value} {lo hi : Nat} {l : List Segment} {z : Int} (h : RdL segmentR lo hi M v l) (hz : 0 ≤ z) (hz1 : z ≤ 1048576) (hl : l.length ≤ z) : Det Try.prog M.length 96 [v, iv z] M (iv (z - l.length)) M := by
  obtain ⟨A, n, c, rfl, hn, hS, _⟩ := h
  have := szSegmentS_a (M := M) (A := A) (n := n) (c := c) z hz hz1 (by unfold maxLen; omega)
  rw [if_neg (by have := hS.1; omega)] at this
  rwa [hS.1]
theorem to_SegmentS {M : Mem} {v : Value} {lo hi : Nat} {l : List Segment} (h : RdL segmentR lo hi M v l) (hl : l.length ≤ 1048576) : Ctr Try.prog M.length 99 [v] M fun v' M' => OwL segmentR M.length M'.length M' v' l ∧ Keeps M M' := by
  obtain ⟨A, n, c, rfl, hn, hS, _⟩ := h
  exact (toSegmentS_a hS (by have := hS.1; omega)).mono fun v' M' h => h.ow
theorem eq_SegmentS {M : Mem} {v w : Value} {lo hi lo' hi' : Nat} {x y : List Segment} (hx : OwL segmentR lo hi M v x) (hy : RdL segmentR lo' hi' M w y) : Det Try.prog M.length 103 [v, w] M (.bool (decide (x = y))) M := by
  obtain ⟨A, n, c, rfl, hn, hS, _⟩ := hx
  obtain ⟨B, m, d, rfl, hm, hT, _⟩ := hy
  exact eqSegmentS_a hS hT hn
end Go.Proofs.Ytffbocbjmhkikaa
