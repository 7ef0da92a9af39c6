/- Tracks: is one valid. No conditions. -/
import Derived.Test.YtffbocbjmhkikaaHTrack
namespace Go.Proofs.Ytffbocbjmhkikaa
open Go.RowKit
set_option linter.unusedVariables false
set_option linter.unusedSimpArgs false
set_option maxRecDepth 100000
attribute [local simp] List.getElem?_cons_zero
attribute [local irreducible] awCond awCall awLoop awDraw ow retQ retC resQ Keeps
def clipB (c : Clip) : Bool := inB c.src 0 5 && inB c.len 1 4000 && inB c.fr 0 (4000 - c.len) && inB c.at_ 0 (4000 - c.len) && inB c.gain (-2147483648) 2147483647
theorem l23Clip_a {M : Mem} {id off : Nat} {g : Clip} (h : Cl M id off g.row) : Det Try.prog M.length 78 [.pointer (some ⟨id, off, none⟩)] M (.bool (clipB g)) M := by
  obtain ⟨h0, h1, h2, h3, h4⟩ := clip_cells h
  first | (refine det_fn Try.func78 rfl Try.ntmps78 Try.results78 rfl rfl rfl (by simp) ?_) | (refine det_fnC Try.func78 rfl Try.ntmps78 Try.results78 rfl rfl (by simp) ?_)
  simp [h0]
  refine awCall_det' (l00In_a _ _ _) (by simp) ?_
  cases p0 : inB g.src 0 5
  · simp [clipB, p0, Keeps.refl]
  simp [h2]
  refine awCall_det' (l00In_a _ _ _) (by simp) ?_
  cases p1 : inB g.len 1 4000
  · simp [clipB, p1, Keeps.refl]
  simp [h4]
  refine awCall_det' (l01Sample_a _) (by simp) ?_
  cases p2 : inB g.gain (-2147483648) 2147483647
  · simp [clipB, p2, Keeps.refl]
  have b1 := inB_iff.1 p1
  simp [h1]
  refine awDraw_E 20 [[],[0],[1,0],[2,1,0],[],[4],[5,4],[6,5,4],[7,6,5,4],[3,2,1,0,8,7,6,5,4],[9,3,2,1,0,8,7,6,5,4],[10,9,3,2,1,0,8,7,6,5,4],[11,10,9,3,2,1,0,8,7,6,5,4],[12,11,10,9,3,2,1,0,8,7,6,5,4],[13,12,11,10,9,3,2,1,0,8,7,6,5,4],[10,9,3,2,1,0,8,7,6,5,4],[15,10,9,3,2,1,0,8,7,6,5,4],[16,15,10,9,3,2,1,0,8,7,6,5,4],[17,16,15,10,9,3,2,1,0,8,7,6,5,4],[18,17,16,15,10,9,3,2,1,0,8,7,6,5,4],[14,13,12,11,10,9,3,2,1,0,8,7,6,5,4,19,18,17,16,15],[10,9,3,2,1,0,8,7,6,5,4,20,14,13,12,11,19,18,17,16,15],[21,10,9,3,2,1,0,8,7,6,5,4,20,14,13,12,11,19,18,17,16,15]] (by kernel_rfl) (by kernel_rfl) ?_
  simp (disch := omega) [h1, h2, wrap_in]
  refine awCall_det' (l00In_a _ _ _) (by simp) ?_
  cases p3 : inB g.fr 0 (4000 - g.len)
  · simp [clipB, p3, Keeps.refl]
  simp (disch := omega) [h3, h2, wrap_in]
  refine awCall_det' (l00In_a _ _ _) (by simp) ?_
  simp [clipB, p0, p1, p2, p3, Keeps.refl]
theorem isClip_a {M : Mem} (g : Clip) : Det Try.prog M.length 80 [g.v] M (.bool (clipB g)) M := by
  first | (refine det_fn Try.func80 rfl Try.ntmps80 Try.results80 rfl rfl rfl (by simp) ?_) | (refine det_fnC Try.func80 rfl Try.ntmps80 Try.results80 rfl rfl (by simp) ?_)
  simp
  refine awCall_det' (within_a _ _ _) (by simp) ?_
  cases p0 : inB g.src 0 5
  · simp [clipB, p0, keeps_app]
  simp
  refine awCall_det' (within_a _ _ _) (by simp) ?_
  cases p1 : inB g.len 1 4000
  · simp [clipB, p1, keeps_app]
  have b1 := inB_iff.1 p1
  simp (disch := omega) [wrap_in]
  refine awCall_det' (within_a _ _ _) (by simp) ?_
  cases p2 : inB g.fr 0 (4000 - g.len)
  · simp [clipB, p2, keeps_app]
  simp (disch := omega) [wrap_in]
  refine awCall_det' (within_a _ _ _) (by simp) ?_
  cases p3 : inB g.at_ 0 (4000 - g.len)
  · simp [clipB, p3, keeps_app]
  simp (disch := omega) [wrap_in]
  refine awCall_det' (isSample_a _) (by simp) ?_
  simp [clipB, p0, p1, p2, p3, keeps_app]
def okC (l : List Clip) : Bool := decide (∀ i, i < l.length → clipB (el l i) = true ∧ (0 < i → (el l (i - 1)).at_ ≤ (el l i).at_)) && decide (l.length ≤ 12)
theorem okC_of {l : List Clip} (h : ∀ i, i < l.length → clipB (el l i) = true ∧ (0 < i → (el l (i - 1)).at_ ≤ (el l i).at_)) : okC l = decide (l.length ≤ 12) := by
  unfold okC; rw [decide_eq_true h, Bool.true_and]
theorem okC_not {l : List Clip} {i : Nat} (hi : i < l.length) (h : ¬ (clipB (el l i) = true ∧ (0 < i → (el l (i - 1)).at_ ≤ (el l i).at_))) : okC l = false := by
  unfold okC; rw [decide_eq_false (fun h' => h (h' i hi)), Bool.false_and]
theorem okC_el {l : List Clip} (h : okC l = true) {i : Nat} (hi : i < l.length) : clipB (el l i) = true := by
  unfold okC at h
  simp only [Bool.and_eq_true, decide_eq_true_eq] at h
  exact (h.1 i hi).1
theorem okC_len {l : List Clip} (h : okC l = true) : l.length ≤ 12 := by
  unfold okC at h
  simp only [Bool.and_eq_true, decide_eq_true_eq] at h
  exact h.2
theorem l23Ok_a {M : Mem} {B off0 : Nat} {A : Option Addr} {n c : Nat} {l : List Clip} (hp : cellAt M B off0 = some (.slice A n c)) (h : Sl clipR M A n l) (hn : n ≤ 4611686018427387904) : Det Try.prog M.length 67 [.pointer (some ⟨B, off0, none⟩)] M (.bool (okC l)) M := by
  have hl := h.1
  first | (refine det_fn Try.func67 rfl Try.ntmps67 Try.results67 rfl rfl rfl (by simp) ?_) | (refine det_fnC Try.func67 rfl Try.ntmps67 Try.results67 rfl rfl (by simp) ?_)
  simp
  refine awLoop_T (fun m T M' => ∃ k : Nat, k + m = n ∧ M' = M ∧ look T 3 = some (iv k) ∧ look T 0 = some (.pointer (some ⟨B, off0, none⟩)) ∧ ∀ i, i < k → clipB (el l i) = true ∧ (0 < i → (el l (i - 1)).at_ ≤ (el l i).at_)) n ⟨0, by omega, rfl, by simp, by simp, by omega⟩ ?_
  rintro m T M' ⟨k, hm, rfl, h3, h0, hk⟩
  by_cases hlt : k < n
  · obtain ⟨id, off, rfl, he, hc⟩ := h.at_ hlt
    obtain ⟨c0, c1, c2, c3, c4⟩ := clip_cells hc
    simp (disch := omega) [h3, h0, hlt, hp, wrap_in]
    refine awDraw_E 29 [[],[0],[1,0],[2,1,0],[],[3,2,1,0,4],[5,3,2,1,0,4],[6,5,3,2,1,0,4],[7,6,5,3,2,1,0,4],[8,7,6,5,3,2,1,0,4],[9,8,7,6,5,3,2,1,0,4],[10,9,8,7,6,5,3,2,1,0,4],[11,10,9,8,7,6,5,3,2,1,0,4],[12,11,10,9,8,7,6,5,3,2,1,0,4],[13,12,11,10,9,8,7,6,5,3,2,1,0,4],[14,13,12,11,10,9,8,7,6,5,3,2,1,0,4],[11,10,9,8,7,6,5,3,2,1,0,4],[16,11,10,9,8,7,6,5,3,2,1,0,4],[15,14,13,12,11,10,9,8,7,6,5,3,2,1,0,4,17,16],[18,15,14,13,12,11,10,9,8,7,6,5,3,2,1,0,4,17,16],[19,18,15,14,13,12,11,10,9,8,7,6,5,3,2,1,0,4,17,16],[11,10,9,8,7,6,5,3,2,1,0,4],[21,11,10,9,8,7,6,5,3,2,1,0,4],[22,21,11,10,9,8,7,6,5,3,2,1,0,4],[23,22,21,11,10,9,8,7,6,5,3,2,1,0,4],[11,10,9,8,7,6,5,3,2,1,0,4],[24,23,22,21,11,10,9,8,7,6,5,3,2,1,0,4,25],[26,24,23,22,21,11,10,9,8,7,6,5,3,2,1,0,4,25],[27,26,24,23,22,21,11,10,9,8,7,6,5,3,2,1,0,4,25],[20,19,18,15,14,13,12,11,10,9,8,7,6,5,3,2,1,0,4,17,16,28,27,26,24,23,22,21,25],[11,10,9,8,7,6,5,3,2,1,0,4,29,20,19,18,15,14,13,12,17,16,28,27,26,24,23,22,21,25],[8,7,6,5,3,2,1,0,4,30,11,10,9,29,20,19,18,15,14,13,12,17,16,28,27,26,24,23,22,21,25]] (by kernel_rfl) (by kernel_rfl) ?_
    simp (disch := omega) [h3, h0, hlt, hp, he, wrap_in]
    refine awCall_det' (l23Clip_a hc) (by simp) ?_
    have hkl : k < l.length := by omega
    simp
    cases hg : clipB (el l k)
    · simp (disch := omega) [h3, hg]
      rw [okC_not hkl (by simp [hg])]
      simp [Keeps.refl]
    · simp (disch := omega) [h3, hg]
      rcases k with _ | j
      · simp (disch := omega) [h3, h0, wrap_in]
        refine lpI (m - 1) (by omega) ?_
        refine ⟨1, by omega, rfl, by simp, by simp [h0], ?_⟩
        intro i hi
        obtain rfl : i = 0 := by omega
        simp [hg]
      · obtain ⟨_, _, he', _, hc'⟩ := h.at_ (i := j) (by omega)
        cases he'
        obtain ⟨_, _, _, d3, _⟩ := clip_cells hc'
        simp (disch := omega) [h0, h3, hp, he, wrap_in, c3, d3]
        refine ⟨by omega, by omega, ?_⟩
        refine awCond_split ?_ ?_ <;> intro hs
        · simp at hs
          simp
          rw [okC_not hkl (by simp; omega)]
          simp [Keeps.refl]
        · simp at hs
          simp (disch := omega) [h3, h0, wrap_in]
          refine lpI (m - 1) (by omega) ?_
          refine ⟨j + 1 + 1, by omega, rfl, by simp, by simp [h0], ?_⟩
          intro i hi
          by_cases hi' : i < j + 1
          · exact hk i hi'
          · obtain rfl : i = j + 1 := by omega
            simp [hg, hs]
  · obtain rfl : k = n := by omega
    simp [h3, h0, hp]
    rw [okC_of (by rw [hl]; exact hk), hl]
    simp [Keeps.refl]
    omega
theorem isTrack_a {M : Mem} {A : Option Addr} {n c : Nat} {l : List Clip} (h : Sl clipR M A n l) (hn : n ≤ 4611686018427387904) : Det Try.prog M.length 71 [.agg #[.slice A n c]] M (.bool (okC l)) M := by
  have hl := h.1
  first | (refine det_fn Try.func71 rfl Try.ntmps71 Try.results71 rfl rfl rfl (by simp) ?_) | (refine det_fnC Try.func71 rfl Try.ntmps71 Try.results71 rfl rfl (by simp) ?_)
  simp
  refine awLoop_T (fun m T M' => ∃ k : Nat, k + m = n ∧ Keeps M M' ∧ cellAt M' M.length 0 = some (.slice A n c) ∧ look T 8 = some (iv k) ∧ look T 7 = some (iv n) ∧ look T 6 = some (.slice A n c) ∧ look T 1 = some (.pointer (some ⟨M.length, 0, none⟩)) ∧ ∀ i, i < k → clipB (el l i) = true ∧ (0 < i → (el l (i - 1)).at_ ≤ (el l i).at_)) n ⟨0, by omega, keeps_app _, by simp, by simp, by simp, by simp, by simp, by omega⟩ ?_
  rintro m T M' ⟨k, hm, hK, hp, h8, h7, h6, h1, hk⟩
  by_cases hlt : k < n
  · have h' := h.keeps hK
    have hKl := hK.len
    obtain ⟨id, off, rfl, he, hc⟩ := h'.at_ hlt
    obtain ⟨c0, c1, c2, c3, c4⟩ := clip_cells hc
    have hkl : k < l.length := by omega
    simp (disch := omega) [h8, h7, h6, h1, hlt, wrap_in, clip_load hc]
    refine awDraw_E 16 [[],[0],[1,0],[2,1,0],[3,2,1,0],[4,3,2,1,0],[5,4,3,2,1,0],[6,5,4,3,2,1,0],[7,6,5,4,3,2,1,0],[6,5,4,3,2,1,0],[9,6,5,4,3,2,1,0],[6,5,4,3,2,1,0],[11,6,5,4,3,2,1,0],[10,9,6,5,4,3,2,1,0,12,11],[13,10,9,6,5,4,3,2,1,0,12,11],[14,13,10,9,6,5,4,3,2,1,0,12,11],[8,7,6,5,4,3,2,1,0,15,14,13,10,9,12,11],[6,5,4,3,2,1,0,16,8,7,15,14,13,10,9,12,11],[3,2,1,0,17,6,5,4,16,8,7,15,14,13,10,9,12,11]] (by kernel_rfl) (by kernel_rfl) ?_
    simp (disch := omega) [h8, h7, h6, h1, hlt, wrap_in]
    refine awCall_det' (isClip_a (el l k)) (by simp <;> omega) ?_
    simp
    cases hg : clipB (el l k)
    · simp (disch := omega) [h1, h8, hg]
      rw [okC_not hkl (by simp [hg])]
      simp [hK.app]
    · simp (disch := omega) [h1, h8, hg]
      rcases k with _ | j
      · simp (disch := omega) [h8, h7, h6, h1, wrap_in]
        refine lpI (m - 1) (by omega) ?_
        refine ⟨1, by omega, hK.app _, cellAt_app hp _, by simp, by simp [h7], by simp [h6], by simp [h1], ?_⟩
        intro i hi
        obtain rfl : i = 0 := by omega
        simp [hg]
      · obtain ⟨_, _, he', _, hc'⟩ := h'.at_ (i := j) (by omega)
        cases he'
        obtain ⟨_, _, _, d3, _⟩ := clip_cells hc'
        simp (disch := omega) [h1, h8, wrap_in, cellAt_app hp, cellAt_app c3, cellAt_app d3, rowEsz_keeps (keeps_app _) he]
        refine ⟨by omega, ?_⟩
        refine awCond_split ?_ ?_ <;> intro hs
        · simp at hs
          simp
          rw [okC_not hkl (by simp; omega)]
          simp [hK.app]
        · simp at hs
          simp (disch := omega) [h8, h7, h6, h1, wrap_in]
          refine lpI (m - 1) (by omega) ?_
          refine ⟨j + 1 + 1, by omega, hK.app _, cellAt_app hp _, by simp, by simp [h7], by simp [h6], by simp [h1], ?_⟩
          intro i hi
          by_cases hi' : i < j + 1
          · exact hk i hi'
          · obtain rfl : i = j + 1 := by omega
            simp [hg, hs]
  · obtain rfl : k = n := by omega
    simp [h8, h7, h6, h1, hp]
    rw [okC_of (by rw [hl]; exact hk), hl]
    simp [hK]
    try omega
















end Go.Proofs.Ytffbocbjmhkikaa
