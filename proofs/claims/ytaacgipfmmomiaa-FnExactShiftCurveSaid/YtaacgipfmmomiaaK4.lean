/- Curves: is one valid. No conditions. -/
import Derived.Test.YtaacgipfmmomiaaHCurve
namespace Go.Proofs.Ytaacgipfmmomiaa
open Go.RowKit
set_option linter.unusedVariables false
set_option linter.unusedSimpArgs false
set_option maxRecDepth 100000
attribute [local simp] List.getElem?_cons_zero
attribute [local irreducible] awCond awCall awLoop awDraw ow retQ retC resQ Keeps
def pointB (c : CurvePoint) : Bool := inB c.at_ 0 4000 && inB c.val (-65536) 65536
theorem l25Point_a {M : Mem} {id off : Nat} {g : CurvePoint} (h : Cl M id off g.row) : Det Try.prog M.length 92 [.pointer (some ⟨id, off, none⟩)] M (.bool (pointB g)) M := by
  obtain ⟨h0, h1⟩ := curvePoint_cells h
  first | (refine det_fn Try.func92 rfl Try.ntmps92 Try.results92 rfl rfl rfl (by simp) ?_) | (refine det_fnC Try.func92 rfl Try.ntmps92 Try.results92 rfl rfl (by simp) ?_)
  simp [h0]
  refine awCall_det' (l00In_a _ _ _) (by simp) ?_
  cases p0 : inB g.at_ 0 4000
  · simp [pointB, p0, Keeps.refl]
  simp [h1]
  refine awCall_det' (l00In_a _ _ _) (by simp) ?_
  simp [pointB, p0, Keeps.refl]
theorem isPoint_a {M : Mem} (g : CurvePoint) : Det Try.prog M.length 93 [g.v] M (.bool (pointB g)) M := by
  first | (refine det_fn Try.func93 rfl Try.ntmps93 Try.results93 rfl rfl rfl (by simp) ?_) | (refine det_fnC Try.func93 rfl Try.ntmps93 Try.results93 rfl rfl (by simp) ?_)
  simp
  refine awCall_det' (isCount_a _) (by simp) ?_
  cases p0 : inB g.at_ 0 4000
  · simp [pointB, p0, keeps_app]
  simp
  refine awCall_det' (within_a _ _ _) (by simp) ?_
  simp [pointB, p0, keeps_app]
theorem sizeP_a {M : Mem} {A : Option Addr} {n c : Nat} : Det Try.prog M.length 95 [.slice A n c] M (iv n) M := by
  first | (refine det_fn Try.func95 rfl Try.ntmps95 Try.results95 rfl rfl rfl (by simp) ?_) | (refine det_fnC Try.func95 rfl Try.ntmps95 Try.results95 rfl rfl (by simp) ?_)
  simp [Keeps.refl]
def okP (l : List CurvePoint) : Bool := decide (∀ i, i < l.length → pointB (el l i) = true ∧ (0 < i → (el l (i - 1)).at_ < (el l i).at_)) && inB l.length 1 24
theorem okP_of {l : List CurvePoint} (h : ∀ i, i < l.length → pointB (el l i) = true ∧ (0 < i → (el l (i - 1)).at_ < (el l i).at_)) : okP l = inB l.length 1 24 := by
  unfold okP; rw [decide_eq_true h, Bool.true_and]
theorem okP_not {l : List CurvePoint} {i : Nat} (hi : i < l.length) (h : ¬ (pointB (el l i) = true ∧ (0 < i → (el l (i - 1)).at_ < (el l i).at_))) : okP l = false := by
  unfold okP; rw [decide_eq_false (fun h' => h (h' i hi)), Bool.false_and]
theorem okP_el {l : List CurvePoint} (h : okP l = true) {i : Nat} (hi : i < l.length) : pointB (el l i) = true := by
  unfold okP at h
  simp only [Bool.and_eq_true, decide_eq_true_eq] at h
  exact (h.1 i hi).1
theorem okP_len {l : List CurvePoint} (h : okP l = true) : 1 ≤ l.length ∧ l.length ≤ 24 := by
  unfold okP at h
  simp only [Bool.and_eq_true, decide_eq_true_eq] at h
  have := inB_iff.1 h.2
  omega
theorem okP_lt {l : List CurvePoint} (h : okP l = true) {i : Nat} (hi : i < l.length) (h0 : 0 < i) : (el l (i - 1)).at_ < (el l i).at_ := by
  unfold okP at h
  simp only [Bool.and_eq_true, decide_eq_true_eq] at h
  exact (h.1 i hi).2 h0
theorem l25Ok_a {M : Mem} {B off0 : Nat} {A : Option Addr} {n c : Nat} {l : List CurvePoint} (hp : cellAt M B off0 = some (.slice A n c)) (h : Sl curvePointR M A n l) (hn : n ≤ 4611686018427387904) : Det Try.prog M.length 63 [.pointer (some ⟨B, off0, none⟩)] M (.bool (okP l)) M := by
  have hl := h.1
  first | (refine det_fn Try.func63 rfl Try.ntmps63 Try.results63 rfl rfl rfl (by simp) ?_) | (refine det_fnC Try.func63 rfl Try.ntmps63 Try.results63 rfl rfl (by simp) ?_)
  simp
  refine awLoop_T (fun m T M' => ∃ k : Nat, k + m = n ∧ M' = M ∧ look T 3 = some (iv k) ∧ look T 0 = some (.pointer (some ⟨B, off0, none⟩)) ∧ ∀ i, i < k → pointB (el l i) = true ∧ (0 < i → (el l (i - 1)).at_ < (el l i).at_)) n ⟨0, by omega, rfl, by simp, by simp, by omega⟩ ?_
  rintro m T M' ⟨k, hm, rfl, h3, h0, hk⟩
  by_cases hlt : k < n
  · obtain ⟨id, off, rfl, he, hc⟩ := h.at_ hlt
    obtain ⟨c0, c1⟩ := curvePoint_cells hc
    simp (disch := omega) [h3, h0, hlt, hp, wrap_in]
    refine awDraw_E 29 [[],[0],[1,0],[2,1,0],[],[3,2,1,0,4],[5,3,2,1,0,4],[6,5,3,2,1,0,4],[7,6,5,3,2,1,0,4],[8,7,6,5,3,2,1,0,4],[9,8,7,6,5,3,2,1,0,4],[10,9,8,7,6,5,3,2,1,0,4],[11,10,9,8,7,6,5,3,2,1,0,4],[12,11,10,9,8,7,6,5,3,2,1,0,4],[13,12,11,10,9,8,7,6,5,3,2,1,0,4],[14,13,12,11,10,9,8,7,6,5,3,2,1,0,4],[11,10,9,8,7,6,5,3,2,1,0,4],[16,11,10,9,8,7,6,5,3,2,1,0,4],[15,14,13,12,11,10,9,8,7,6,5,3,2,1,0,4,17,16],[18,15,14,13,12,11,10,9,8,7,6,5,3,2,1,0,4,17,16],[19,18,15,14,13,12,11,10,9,8,7,6,5,3,2,1,0,4,17,16],[11,10,9,8,7,6,5,3,2,1,0,4],[21,11,10,9,8,7,6,5,3,2,1,0,4],[22,21,11,10,9,8,7,6,5,3,2,1,0,4],[23,22,21,11,10,9,8,7,6,5,3,2,1,0,4],[11,10,9,8,7,6,5,3,2,1,0,4],[24,23,22,21,11,10,9,8,7,6,5,3,2,1,0,4,25],[26,24,23,22,21,11,10,9,8,7,6,5,3,2,1,0,4,25],[27,26,24,23,22,21,11,10,9,8,7,6,5,3,2,1,0,4,25],[20,19,18,15,14,13,12,11,10,9,8,7,6,5,3,2,1,0,4,17,16,28,27,26,24,23,22,21,25],[11,10,9,8,7,6,5,3,2,1,0,4,29,20,19,18,15,14,13,12,17,16,28,27,26,24,23,22,21,25],[8,7,6,5,3,2,1,0,4,30,11,10,9,29,20,19,18,15,14,13,12,17,16,28,27,26,24,23,22,21,25]] (by kernel_rfl) (by kernel_rfl) ?_
    simp (disch := omega) [h3, h0, hlt, hp, he, wrap_in]
    refine awCall_det' (l25Point_a hc) (by simp) ?_
    have hkl : k < l.length := by omega
    simp
    cases hg : pointB (el l k)
    · simp (disch := omega) [h3, hg]
      rw [okP_not hkl (by simp [hg])]
      simp [Keeps.refl]
    · simp (disch := omega) [h3, hg]
      rcases k with _ | j
      · simp (disch := omega) [h3, h0, wrap_in]
        refine lpI (m - 1) (by omega) ?_
        refine ⟨1, by omega, rfl, by simp, by simp [h0], ?_⟩
        intro i hi
        obtain rfl : i = 0 := by omega
        simp [hg]
      · obtain ⟨_, _, he', _, hc'⟩ := h.at_ (i := j) (by omega)
        cases he'
        obtain ⟨d3, _⟩ := curvePoint_cells hc'
        simp (disch := omega) [h0, h3, hp, he, wrap_in, c0, d3]
        refine ⟨by omega, by omega, ?_⟩
        refine awCond_split ?_ ?_ <;> intro hs
        · simp at hs
          simp
          rw [okP_not hkl (by simp; omega)]
          simp [Keeps.refl]
        · simp at hs
          simp (disch := omega) [h3, h0, wrap_in]
          refine lpI (m - 1) (by omega) ?_
          refine ⟨j + 1 + 1, by omega, rfl, by simp, by simp [h0], ?_⟩
          intro i hi
          by_cases hi' : i < j + 1
          · exact hk i hi'
          · obtain rfl : i = j + 1 := by omega
            simp [hg, hs]
  · obtain rfl : k = n := by omega
    simp [h3, h0, hp]
    refine awCall_det' (l00In_a _ _ _) (by simp) ?_
    rw [okP_of (by rw [hl]; exact hk), hl]
    simp [Keeps.refl]
theorem isCurve_a {M : Mem} {A : Option Addr} {n c : Nat} {l : List CurvePoint} (h : Sl curvePointR M A n l) (hn : n ≤ 4611686018427387904) : Det Try.prog M.length 64 [.agg #[.slice A n c]] M (.bool (okP l)) M := by
  have hl := h.1
  first | (refine det_fn Try.func64 rfl Try.ntmps64 Try.results64 rfl rfl rfl (by simp) ?_) | (refine det_fnC Try.func64 rfl Try.ntmps64 Try.results64 rfl rfl (by simp) ?_)
  simp
  refine awLoop_T (fun m T M' => ∃ k : Nat, k + m = n ∧ Keeps M M' ∧ cellAt M' M.length 0 = some (.slice A n c) ∧ look T 8 = some (iv k) ∧ look T 7 = some (iv n) ∧ look T 6 = some (.slice A n c) ∧ look T 1 = some (.pointer (some ⟨M.length, 0, none⟩)) ∧ ∀ i, i < k → pointB (el l i) = true ∧ (0 < i → (el l (i - 1)).at_ < (el l i).at_)) n ⟨0, by omega, keeps_app _, by simp, by simp, by simp, by simp, by simp, by omega⟩ ?_
  rintro m T M' ⟨k, hm, hK, hp, h8, h7, h6, h1, hk⟩
  by_cases hlt : k < n
  · have h' := h.keeps hK
    have hKl := hK.len
    obtain ⟨id, off, rfl, he, hc⟩ := h'.at_ hlt
    obtain ⟨c0, c1⟩ := curvePoint_cells hc
    have hkl : k < l.length := by omega
    simp (disch := omega) [h8, h7, h6, h1, hlt, wrap_in, curvePoint_load hc]
    refine awDraw_E 16 [[],[0],[1,0],[2,1,0],[3,2,1,0],[4,3,2,1,0],[5,4,3,2,1,0],[6,5,4,3,2,1,0],[7,6,5,4,3,2,1,0],[6,5,4,3,2,1,0],[9,6,5,4,3,2,1,0],[8,7,6,5,4,3,2,1,0,10,9],[11,8,7,6,5,4,3,2,1,0,10,9],[12,11,8,7,6,5,4,3,2,1,0,10,9],[6,5,4,3,2,1,0],[14,6,5,4,3,2,1,0],[13,12,11,8,7,6,5,4,3,2,1,0,10,9,15,14],[6,5,4,3,2,1,0,16,13,12,11,8,7,10,9,15,14],[3,2,1,0,17,6,5,4,16,13,12,11,8,7,10,9,15,14]] (by kernel_rfl) (by kernel_rfl) ?_
    simp (disch := omega) [h8, h7, h6, h1, hlt, wrap_in]
    refine awCall_det' (isPoint_a (el l k)) (by simp <;> omega) ?_
    simp
    cases hg : pointB (el l k)
    · simp (disch := omega) [h1, h8, hg]
      rw [okP_not hkl (by simp [hg])]
      simp [hK.app]
    · simp (disch := omega) [h1, h8, hg]
      rcases k with _ | j
      · simp (disch := omega) [h8, h7, h6, h1, wrap_in]
        refine lpI (m - 1) (by omega) ?_
        refine ⟨1, by omega, hK.app _, cellAt_app hp _, by simp, by simp [h7], by simp [h6], by simp [h1], ?_⟩
        intro i hi
        obtain rfl : i = 0 := by omega
        simp [hg]
      · obtain ⟨_, _, he', _, hc'⟩ := h'.at_ (i := j) (by omega)
        cases he'
        obtain ⟨d3, _⟩ := curvePoint_cells hc'
        simp (disch := omega) [h1, h8, wrap_in, cellAt_app hp, cellAt_app c0, cellAt_app d3, rowEsz_keeps (keeps_app _) he]
        refine ⟨by omega, ?_⟩
        refine awCond_split ?_ ?_ <;> intro hs
        · simp at hs
          simp
          rw [okP_not hkl (by simp; omega)]
          simp [hK.app]
        · simp at hs
          simp (disch := omega) [h8, h7, h6, h1, wrap_in]
          refine lpI (m - 1) (by omega) ?_
          refine ⟨j + 1 + 1, by omega, hK.app _, cellAt_app hp _, by simp, by simp [h7], by simp [h6], by simp [h1], ?_⟩
          intro i hi
          by_cases hi' : i < j + 1
          · exact hk i hi'
          · obtain rfl : i = j + 1 := by omega
            simp [hg, hs]
  · obtain rfl : k = n := by omega
    have hKl := hK.len
    simp [h8, h7, h6, h1, hp]
    refine awCall_det' sizeP_a (by omega) ?_
    try simp
    refine awCall_det' (within_a _ _ _) (by omega) ?_
    rw [okP_of (by rw [hl]; exact hk), hl]
    simp [hK]
theorem ValidCurve_s {M : Mem} {A : Option Addr} {n c : Nat} {l : List CurvePoint} (h : Sl curvePointR M A n l) (hn : n ≤ 4611686018427387904) : Det Try.prog M.length 27 [.agg #[.slice A n c]] M (.bool (okP l)) M := by
  first | (refine det_fn Try.func27 rfl Try.ntmps27 Try.results27 rfl rfl rfl (by simp) ?_) | (refine det_fnC Try.func27 rfl Try.ntmps27 Try.results27 rfl rfl (by simp) ?_)
  simp
  refine awCall_det' (l25Ok_a (A := A) (n := n) (c := c) (by simp) (h.keeps (keeps_app _)) hn) (by simp) ?_
  simp [keeps_app]
theorem ValidCurve_i {M : Mem} {A : Option Addr} {n c : Nat} {l : List CurvePoint} (h : Sl curvePointR M A n l) (hn : n ≤ 4611686018427387904) : Det Try.prog M.length 28 [.agg #[.slice A n c]] M (.bool (okP l)) M := by
  first | (refine det_fn Try.func28 rfl Try.ntmps28 Try.results28 rfl rfl rfl (by simp) ?_) | (refine det_fnC Try.func28 rfl Try.ntmps28 Try.results28 rfl rfl (by simp) ?_)
  simp
  refine awCall_det' (isCurve_a (h.keeps (keeps_app _)) hn) (by simp) ?_
  simp [keeps_app]
theorem ValidCurve_sl {M : Mem} {v : Value} {lo hi : Nat} {l : List CurvePoint} (h : RdL curvePointR lo hi M v l) (hl : l.length ≤ 1048576) : Det Try.prog M.length 27 [.agg #[v]] M (.bool (okP l)) M := by
  obtain ⟨A, n, c, rfl, hn, hS, _⟩ := h
  exact ValidCurve_s hS (by have := hS.1; omega)
theorem ValidCurve_il {M : Mem} {v : Value} {lo hi : Nat} {l : List CurvePoint} (h : RdL curvePointR lo hi M v l) (hl : l.length ≤ 1048576) : Det Try.prog M.length 28 [.agg #[v]] M (.bool (okP l)) M := by
  obtain ⟨A, n, c, rfl, hn, hS, _⟩ := h
  exact ValidCurve_i hS (by have := hS.1; omega)
end Go.Proofs.Ytaacgipfmmomiaa
