/- Curves: the value at a sample. No conditions. -/
import Derived.Test.YtaacgipfmmomiaaK4
namespace Go.Proofs.Ytaacgipfmmomiaa
open Go.RowKit
set_option linter.unusedVariables false
set_option linter.unusedSimpArgs false
set_option maxRecDepth 100000
attribute [local simp] List.getElem?_cons_zero
attribute [local irreducible] awCond awCall awLoop awDraw ow retQ retC resQ Keeps
/-- A quotient, rounded down. -/
def fd (a b : Int) : Int := if a.tmod b < 0 then a.tdiv b - 1 else a.tdiv b
theorem fd_zero (b : Int) : fd 0 b = 0 := by simp [fd]
theorem fd_bd {a b : Int} (h : a.natAbs ≤ 4611686018427387904) : (a.tdiv b).natAbs ≤ a.natAbs ∧ (fd a b).natAbs ≤ a.natAbs + 1 := by
  have h1 : (a.tdiv b).natAbs ≤ a.natAbs := by
    rw [Int.natAbs_tdiv]
    exact Nat.div_le_self _ _
  refine ⟨h1, ?_⟩
  unfold fd
  split <;> omega
theorem mul_bd {a b : Int} (h1 : a.natAbs ≤ 131072) (h2 : b.natAbs ≤ 4000) : (a * b).natAbs ≤ 524288000 := by
  rw [Int.natAbs_mul]
  exact Nat.mul_le_mul h1 h2
theorem l25Div_a {M : Mem} (a b : Int) (hb : 0 < b) (ha : a.natAbs ≤ 4611686018427387904) : Det Try.prog M.length 96 [iv a, iv b] M (iv (fd a b)) M := by
  obtain ⟨h1, h2⟩ := fd_bd (b := b) ha
  have hm : (a.tmod b).natAbs ≤ a.natAbs := by
    rw [Int.natAbs_tmod]
    exact Nat.mod_le _ _
  have hb' : b ≠ 0 := by omega
  first | (refine det_fn Try.func96 rfl Try.ntmps96 Try.results96 rfl rfl rfl (by simp) ?_) | (refine det_fnC Try.func96 rfl Try.ntmps96 Try.results96 rfl rfl (by simp) ?_)
  by_cases hs : a.tmod b < 0
  · simp (disch := omega) [wrap_in, hb', hs, fd, Keeps.refl]
  · simp (disch := omega) [wrap_in, hb', hs, fd, Keeps.refl]
theorem floorDiv_a {M : Mem} (a b : Int) (hb : 0 < b) (ha : a.natAbs ≤ 4611686018427387904) : Det Try.prog M.length 97 [iv a, iv b] M (iv (fd a b)) M := by
  obtain ⟨h1, h2⟩ := fd_bd (b := b) ha
  have hm : (a.tmod b).natAbs ≤ a.natAbs := by
    rw [Int.natAbs_tmod]
    exact Nat.mod_le _ _
  have hb' : b ≠ 0 := by omega
  first | (refine det_fn Try.func97 rfl Try.ntmps97 Try.results97 rfl rfl rfl (by simp) ?_) | (refine det_fnC Try.func97 rfl Try.ntmps97 Try.results97 rfl rfl (by simp) ?_)
  by_cases hs : a.tmod b < 0
  · simp (disch := omega) [wrap_in, hb', hs, fd, Keeps.refl]
  · simp (disch := omega) [wrap_in, hb', hs, fd, Keeps.refl]
def mixP (a b : CurvePoint) (x : Int) : Int := a.val + fd ((b.val - a.val) * (x - a.at_)) (b.at_ - a.at_)
def valL (l : List CurvePoint) (x : Int) : Int :=
  if fstI (fun p => decide (x < p.at_)) l = -1 then (el l (l.length - 1)).val else if fstI (fun p => decide (x < p.at_)) l = 0 then (el l 0).val
  else mixP (el l ((fstI (fun p => decide (x < p.at_)) l).toNat - 1)) (el l (fstI (fun p => decide (x < p.at_)) l).toNat) x
theorem valL_none {l : List CurvePoint} {x : Int} (h : ∀ i, i < l.length → ¬ x < (el l i).at_) : valL l x = (el l (l.length - 1)).val := by
  have e : fstI (fun p => decide (x < p.at_)) l = -1 := fstI_none fun i hi => decide_eq_false (h i hi)
  simp [valL, e]
theorem valL_zero {l : List CurvePoint} {x : Int} (h0 : 0 < l.length) (h : x < (el l 0).at_) : valL l x = (el l 0).val := by
  have e : fstI (fun p => decide (x < p.at_)) l = (0 : Nat) := fstI_some h0 (decide_eq_true h) fun j hj => by omega
  simp [valL, e]
theorem valL_some {l : List CurvePoint} {x : Int} {i : Nat} (hi : i + 1 < l.length) (h : x < (el l (i + 1)).at_) (hj : ∀ j, j < i + 1 → ¬ x < (el l j).at_) : valL l x = mixP (el l i) (el l (i + 1)) x := by
  have e : fstI (fun p => decide (x < p.at_)) l = (i + 1 : Nat) := fstI_some hi (decide_eq_true h) fun j hj' => decide_eq_false (hj j hj')
  have h1 : ¬ ((i : Int) + 1 = -1) := by omega
  have h2 : ¬ ((i : Int) + 1 = 0) := by omega
  have h3 : ((i : Int) + 1).toNat = i + 1 := by omega
  simp [valL, e, h1, h2, h3]
theorem valL_edge {l : List CurvePoint} {x : Int} (hok : okP l = true) (h : x = (el l 0).at_) : valL l x = (el l 0).val := by
  have hn := okP_len hok
  by_cases h1 : 1 < l.length
  · have hl := okP_lt hok h1 (by omega)
    rw [valL_some (i := 0) h1 (by rw [h]; exact hl) (by intro j hj; obtain rfl : j = 0 := (by omega); omega)]
    simp [mixP, h, fd_zero]
  · have e : l.length = 1 := by omega
    rw [valL_none (by intro i hi; obtain rfl : i = 0 := (by omega); omega), e]
theorem pointB_iff {c : CurvePoint} : pointB c = true ↔ (0 ≤ c.at_ ∧ c.at_ ≤ 4000) ∧ (-65536 ≤ c.val ∧ c.val ≤ 65536) := by
  simp only [pointB, Bool.and_eq_true, inB_iff]
theorem l25At_a {M : Mem} {A : Option Addr} {n c : Nat} {l : List CurvePoint} (x : Int) (h : Sl curvePointR M A n l) (hok : okP l = true) (hx0 : 0 ≤ x) (hx1 : x ≤ 4000) : Det Try.prog M.length 66 [.slice A n c, iv x] M (iv (valL l x)) M := by
  have hl := h.1
  have hn := okP_len hok
  obtain ⟨id, off, rfl, he, hc⟩ := h.at_ (i := 0) (by omega)
  obtain ⟨c0, c1⟩ := curvePoint_cells hc
  simp only [Nat.zero_mul, Nat.add_zero] at c0 c1
  first | (refine det_fn Try.func66 rfl Try.ntmps66 Try.results66 rfl rfl rfl (by simp) ?_) | (refine det_fnC Try.func66 rfl Try.ntmps66 Try.results66 rfl rfl (by simp) ?_)
  simp (disch := omega) [he, c0]
  by_cases hx : x ≤ (el l 0).at_
  · have e : valL l x = (el l 0).val := by
      by_cases hx' : x < (el l 0).at_
      · exact valL_zero (by omega) hx'
      · exact valL_edge hok (by omega)
    simp (disch := omega) [hx, he, c0, c1, e, Keeps.refl]
    try omega
  · simp (disch := omega) [hx, he, c0, c1]
    refine ⟨by omega, ?_⟩
    refine awLoop_T (fun m T M' => ∃ i : Nat, i + 1 + m = n ∧ Keeps M M' ∧ look T 6 = some (iv (i + 1)) ∧ look T 5 = some (iv n) ∧ look T 0 = some (.slice (some ⟨id, off, none⟩) n c) ∧ look T 1 = some (iv x) ∧ ∀ j, j < i + 1 → ¬ x < (el l j).at_) (n - 1) ⟨0, by omega, Keeps.refl _, by simp, by simp, by simp, by simp, by intro j hj; obtain rfl : j = 0 := (by omega); omega⟩ ?_
    rintro m T M' ⟨i, hm, hK, h6, h5, h0, h1, hj⟩
    have hKl := hK.len
    by_cases hlt : i + 1 < n
    · have h' := h.keeps hK
      obtain ⟨_, _, e, he1, hc1⟩ := h'.at_ (i := i) (by omega)
      cases e
      obtain ⟨_, _, e, he2, hc2⟩ := h'.at_ (i := i + 1) hlt
      cases e
      have hlt' : (i : Int) + 1 < n := by omega
      have bi := pointB_iff.1 (okP_el hok (i := i) (by omega))
      have bj := pointB_iff.1 (okP_el hok (i := i + 1) (by omega))
      have hlt2 := okP_lt hok (i := i + 1) (by omega) (by omega)
      have hn1 := hj i (by omega)
      have e1 : ((i : Int) + 1 - 1) = i := by omega
      have e2 : ((i : Int) + 1).toNat = i + 1 := by omega
      simp (disch := omega) [h6, h5, h0, h1, hlt', wrap_in, he1, e1, e2, curvePoint_load hc1, curvePoint_load hc2, cellsAt_app (curvePoint_load hc2), rowEsz_keeps (keeps_app _) he1]
      refine ⟨by omega, by omega, ?_⟩
      have hm1 := mul_bd (a := (el l (i + 1)).val - (el l i).val) (b := x - (el l i).at_) (by omega) (by omega)
      have hd := (fd_bd (a := ((el l (i + 1)).val - (el l i).val) * (x - (el l i).at_)) (b := (el l (i + 1)).at_ - (el l i).at_) (by omega)).2
      have hlt3 : (el l i).at_ < (el l (i + 1)).at_ := hlt2
      by_cases hx2 : x < (el l (i + 1)).at_
      · simp (disch := omega) [hx2]
        refine awDraw_E 18 [[],[0],[],[2],[],[4],[3,2,5,4],[],[],[8],[7,9,8],[6,3,2,5,4,10,7,9,8],[],[12],[],[14],[13,12,15,14],[11,6,3,2,5,4,10,7,9,8,16,13,12,15,14],[1,0,17,11,6,3,2,5,4,10,7,9,8,16,13,12,15,14],[18,1,0,17,11,6,3,2,5,4,10,7,9,8,16,13,12,15,14]] (by kernel_rfl) (by kernel_rfl) ?_
        simp (disch := omega) [h1, wrap_in]
        refine awCall_det' (l25Div_a _ _ (by omega) (by omega)) (by simp <;> omega) ?_
        simp (disch := omega) [wrap_in, valL_some (l := l) (x := x) (i := i) (by omega) hx2 hj, mixP, hK.app]
      · simp (disch := omega) [hx2, h6, wrap_in]
        refine lpI (m - 1) (by omega) ?_
        refine ⟨i + 1, by omega, hK.app _, by simp, by simp [h5], by simp [h0], by simp [h1], ?_⟩
        intro j hj'
        by_cases e : j < i + 1
        · exact hj j e
        · obtain rfl : j = i + 1 := by omega
          exact hx2
    · obtain rfl : i + 1 = n := by omega
      obtain ⟨_, _, e, he1, hc1⟩ := (h.keeps hK).at_ (i := i) (by omega)
      cases e
      obtain ⟨d0, d1⟩ := curvePoint_cells hc1
      have e2 : ((i : Int) + 1 - 1) = i := by omega
      simp (disch := omega) [h6, h5, h0, h1, wrap_in, he1, d1, e2]
      rw [valL_none (by rw [hl]; exact hj), hl]
      simp [hK]
      try omega
theorem valueAt_a {M : Mem} {A : Option Addr} {n c : Nat} {l : List CurvePoint} (x : Int) (h : Sl curvePointR M A n l) (hok : okP l = true) (hx0 : 0 ≤ x) (hx1 : x ≤ 4000) : Det Try.prog M.length 68 [.agg #[.slice A n c], iv x] M (iv (valL l x)) M := by
  have hl := h.1
  have hn := okP_len hok
  obtain ⟨id, off, rfl, he, hc⟩ := h.at_ (i := 0) (by omega)
  have hc0 := curvePoint_load hc
  simp only [Nat.zero_mul, Nat.add_zero] at hc0
  first | (refine det_fn Try.func68 rfl Try.ntmps68 Try.results68 rfl rfl rfl (by simp) ?_) | (refine det_fnC Try.func68 rfl Try.ntmps68 Try.results68 rfl rfl (by simp) ?_)
  simp (disch := omega) [he, hc0, rowEsz_keeps (keeps_app _) he, cellsAt_app hc0]
  refine ⟨by omega, ?_⟩
  refine awLoop_T (fun m T M' => ∃ k : Nat, k + m = n ∧ Keeps M M' ∧ M'[M.length + 1]? = some (.live ⟨[iv (el l (k - 1)).at_, iv (el l (k - 1)).val], true, true, 83, 2⟩) ∧ look T 15 = some (iv k) ∧ look T 14 = some (iv n) ∧ look T 13 = some (.slice (some ⟨id, off, none⟩) n c) ∧ look T 5 = some (.pointer (some ⟨M.length + 1, 0, none⟩)) ∧ look T 1 = some (iv x) ∧ ∀ j, j < k → ¬ x < (el l j).at_) n ⟨0, by omega, keeps_app _, by simp, by simp, by simp, by simp, by simp, by simp, fun j hj => by omega⟩ ?_
  rintro m T M' ⟨k, hm, hK, hb, h15, h14, h13, h5, h1, hj⟩
  have hKl := hK.len
  have hbl := (List.getElem?_eq_some_iff.1 hb).1
  have b0 : cellAt M' (M.length + 1) 0 = some (iv (el l (k - 1)).at_) := by simp [cellAt, hb]
  have b1 : cellAt M' (M.length + 1) 1 = some (iv (el l (k - 1)).val) := by simp [cellAt, hb]
  by_cases hlt : k < n
  · obtain ⟨_, _, e, he1, hc1⟩ := (h.keeps hK).at_ (i := k) hlt
    cases e
    have bk := pointB_iff.1 (okP_el hok (i := k) (by omega))
    simp (disch := omega) [h15, h14, h13, h1, hlt, wrap_in, he1, curvePoint_load hc1]
    by_cases hx2 : x < (el l k).at_
    · rcases k with _ | k
      · simp (disch := omega) [h5, h1, hx2, cellAt_app b0, cellAt_app b1]
        simp only [Nat.zero_sub] at b0 b1 hb
        simp (disch := omega) [h5, h1, hx2, cellAt_app b0, cellAt_app b1, valL_zero (l := l) (by omega) hx2, hK.app]
      · have bi := pointB_iff.1 (okP_el hok (i := k) (by omega))
        have hlt3 : (el l k).at_ < (el l (k + 1)).at_ := okP_lt hok (i := k + 1) (by omega) (by omega)
        have hn1 := hj k (by omega)
        simp only [Nat.add_sub_cancel] at b0 b1 hb
        have hm1 := mul_bd (a := (el l (k + 1)).val - (el l k).val) (b := x - (el l k).at_) (by omega) (by omega)
        have hd := (fd_bd (a := ((el l (k + 1)).val - (el l k).val) * (x - (el l k).at_)) (b := (el l (k + 1)).at_ - (el l k).at_) (by omega)).2
        simp (disch := omega) [h5, h1, hx2, hn1, cellAt_app b0, cellAt_app b1]
        refine awDraw_E 18 [[],[0],[],[2],[],[4],[3,2,5,4],[],[],[8],[7,9,8],[6,3,2,5,4,10,7,9,8],[],[12],[],[14],[13,12,15,14],[11,6,3,2,5,4,10,7,9,8,16,13,12,15,14],[1,0,17,11,6,3,2,5,4,10,7,9,8,16,13,12,15,14],[18,1,0,17,11,6,3,2,5,4,10,7,9,8,16,13,12,15,14]] (by kernel_rfl) (by kernel_rfl) ?_
        simp (disch := omega) [h5, h1, wrap_in, cellAt_app b0, cellAt_app b1]
        refine awCall_det' (floorDiv_a _ _ (by omega) (by omega)) (by simp <;> omega) ?_
        simp (disch := omega) [wrap_in, valL_some (l := l) (x := x) (i := k) (by omega) hx2 hj, mixP, hK.app]
    · have hb' : (M' ++ [.live ⟨[iv (el l k).at_, iv (el l k).val], true, true, 83, 2⟩])[M.length + 1]? = some (.live ⟨[iv (el l (k - 1)).at_, iv (el l (k - 1)).val], true, true, 83, 2⟩) := by rw [List.getElem?_append_left hbl]; exact hb
      have hp := put_whole (b := M.length) (vs := [iv (el l k).at_, iv (el l k).val]) hb' (by omega) rfl rfl
      simp (disch := omega) [h15, h5, h1, hx2, hp, wrap_in]
      refine lpI (m - 1) (by omega) ?_
      refine ⟨k + 1, by omega, (keeps_set hK (by omega)).app _, ?_, by simp, by simp [h14], by simp [h13], by simp [h5], by simp [h1], ?_⟩
      · rw [List.getElem?_append_left (by simpa using hbl), List.getElem?_set_self hbl]; rfl
      · intro j hj'
        by_cases e : j < k
        · exact hj j e
        · obtain rfl : j = k := by omega
          exact hx2
  · obtain rfl : k = n := by omega
    simp (disch := omega) [h15, h14, h13, h5, h1, b1]
    rw [valL_none (by rw [hl]; exact hj), hl]
    simp [hK]
def valV (l : List CurvePoint) (x : Int) : Int × Int := if okP l = false then (0, 1) else if inB x 0 4000 = false then (0, 2) else (valL l x, 0)
theorem ValueAt_s {M : Mem} {A : Option Addr} {n c : Nat} {l : List CurvePoint} (x : Int) (h : Sl curvePointR M A n l) (hn : n ≤ 1099511627776) : Det Try.prog M.length 29 [.agg #[.slice A n c], iv x] M (.tuple #[iv (valV l x).1, iv (valV l x).2]) M := by
  first | (refine det_fn Try.func29 rfl Try.ntmps29 Try.results29 rfl rfl rfl (by simp) ?_) | (refine det_fnC Try.func29 rfl Try.ntmps29 Try.results29 rfl rfl (by simp) ?_)
  simp
  refine awCall_det' (l25Ok_a (A := A) (n := n) (c := c) (by simp) (h.keeps (keeps_app _)) (by omega)) (by simp) ?_
  by_cases hok : okP l = true
  · simp [hok]
    refine awCall_det' (l00In_a _ _ _) (by simp) ?_
    by_cases hin : inB x 0 4000 = true
    · have hb := inB_iff.1 hin
      simp [hin]
      refine awCall_det' (l25At_a x (h.keeps (keeps_app _)) hok (by omega) (by omega)) (by simp) ?_
      simp [valV, hok, hin, keeps_app]
    · simp at hin
      simp [valV, hok, hin, keeps_app]
  · simp at hok
    simp [hok, valV, keeps_app]
theorem ValueAt_i {M : Mem} {A : Option Addr} {n c : Nat} {l : List CurvePoint} (x : Int) (h : Sl curvePointR M A n l) (hn : n ≤ 1099511627776) : Det Try.prog M.length 30 [.agg #[.slice A n c], iv x] M (.tuple #[iv (valV l x).1, iv (valV l x).2]) M := by
  first | (refine det_fn Try.func30 rfl Try.ntmps30 Try.results30 rfl rfl rfl (by simp) ?_) | (refine det_fnC Try.func30 rfl Try.ntmps30 Try.results30 rfl rfl (by simp) ?_)
  simp
  refine awCall_det' (isCurve_a (h.keeps (keeps_app _)) (by omega)) (by simp) ?_
  by_cases hok : okP l = true
  · simp [hok]
    refine awCall_det' (isCount_a _) (by simp) ?_
    by_cases hin : inB x 0 4000 = true
    · have hb := inB_iff.1 hin
      simp [hin]
      refine awCall_det' (valueAt_a x (h.keeps (keeps_app _)) hok (by omega) (by omega)) (by simp) ?_
      simp [valV, hok, hin, keeps_app]
    · simp at hin
      simp [valV, hok, hin, keeps_app]
  · simp at hok
    simp [hok, valV, keeps_app]
theorem ValueAt_sl {M : Mem} {v : Value} {lo hi : Nat} {l : List CurvePoint} (h : RdL curvePointR lo hi M v l) (x : Int) (hl : l.length ≤ 1048576) : Det Try.prog M.length 29 [.agg #[v], iv x] M (.tuple #[iv (valV l x).1, iv (valV l x).2]) M := by
  obtain ⟨A, n, c, rfl, hn, hS, _⟩ := h
  exact ValueAt_s x hS (by have := hS.1; omega)
theorem ValueAt_il {M : Mem} {v : Value} {lo hi : Nat} {l : List CurvePoint} (h : RdL curvePointR lo hi M v l) (x : Int) (hl : l.length ≤ 1048576) : Det Try.prog M.length 30 [.agg #[v], iv x] M (.tuple #[iv (valV l x).1, iv (valV l x).2]) M := by
  obtain ⟨A, n, c, rfl, hn, hS, _⟩ := h
  exact ValueAt_i x hS (by have := hS.1; omega)
end Go.Proofs.Ytaacgipfmmomiaa
