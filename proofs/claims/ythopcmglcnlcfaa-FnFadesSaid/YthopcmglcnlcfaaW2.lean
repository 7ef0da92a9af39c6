/- The law of the windows is walked. No conditions. -/
import Derived.Test.YthopcmglcnlcfaaW1
namespace Go.Proofs.Ythopcmglcnlcfaa
open Go.RowKit
set_option linter.unusedVariables false
set_option linter.unusedSimpArgs false
set_option maxRecDepth 100000
attribute [local simp] List.getElem?_cons_zero
attribute [local irreducible] awCond awCall awLoop awDraw ow retQ retC resQ Keeps
theorem Fresh.sl {M M' : Mem} {v : Value} {l : List Int} (h : Fresh intR M v M' l) : ∃ A c, v = .slice A l.length c ∧ Sl intR M' A l.length l ∧ Keeps M M' := by
  obtain ⟨A, n, c, rfl, -, hsl, -, -, hK⟩ := h
  obtain rfl : l.length = n := hsl.1
  exact ⟨A, c, rfl, hsl, hK⟩
set_option maxHeartbeats 4000000 in
theorem lawWindows_a {M : Mem} {A : Option Addr} {n c : Nat} {cs : List Int} (h : Sl codeR M A n cs) (hcs : ∀ x, x ∈ cs → 0 ≤ x ∧ x ≤ 255) :
    Det Try.prog M.length 3 [.slice A n c] M (.bool true) M := by
  have K0 := Keeps.refl M
  by_cases hn : 1048576 < n
  · have hn' : (1048576 : Int) < n := by omega
    first | (refine det_fn Try.func3 rfl Try.ntmps3 Try.results3 rfl rfl rfl (by simp) ?_) | (refine det_fnC Try.func3 rfl Try.ntmps3 Try.results3 rfl rfl (by simp) ?_)
    simp [hn', K0]
  have hn' : ¬ (1048576 : Int) < n := by omega
  first | (refine det_fn Try.func3 rfl Try.ntmps3 Try.results3 rfl rfl rfl (by simp) ?_) | (refine det_fnC Try.func3 rfl Try.ntmps3 Try.results3 rfl rfl (by simp) ?_)
  simp [hn']
  refine awCall_ctr ((v8At_a 0 256 h hcs (by omega) (by omega) (by omega)).weaken (by omega)) ?_
  rintro r M0 ⟨rfl, V, rfl, v0, v1⟩
  obtain ⟨V', rfl⟩ := Int.eq_ofNat_of_zero_le v0
  obtain ⟨N, hN⟩ : ∃ N : Nat, N = 1 + V' := ⟨_, rfl⟩
  have eN : 1 + (V' : Int) = N := by omega
  simp (disch := omega) [wrap_in, eN]
  refine awCall_ctr ((lin_i (n := N) (by omega) (by omega)).weaken (by omega)) ?_
  rintro r M1 ⟨w1, rfl, hF1⟩
  obtain ⟨A1, c1, rfl, hS1, k1⟩ := hF1.sl
  rw [Old.lineL_len] at hS1
  have n1 := k1.len
  simp (disch := omega) [wrap_in, Old.lineL_len]
  refine awCall_ctr ((smo_i (n := N) (by omega) (by omega)).weaken (by omega)) ?_
  rintro r M2 ⟨w2, rfl, hF2⟩
  obtain ⟨A2, c2, rfl, hS2, k2⟩ := hF2.sl
  rw [Old.lineL_len] at hS2
  have n2 := k2.len
  simp (disch := omega) [wrap_in, Old.lineL_len]
  replace hS1 := hS1.keeps k2
  have K2 := k1.trans k2
  refine awCall_det' (ValidWindow_s hS1) (by omega) ?_
  rw [win_lin (by omega) (by omega)]
  simp
  refine awCall_det' (ValidWindow_i hS2) (by omega) ?_
  rw [win_smo (by omega) (by omega)]
  simp
  refine awLoop_T (fun k T M' => ∃ i : Nat, i + k = N ∧ 0 < i ∧ M' = M2 ∧ look T 8 = some (iv i) ∧ look T 3 = some (iv N) ∧ look T 4 = some (.slice A1 N c1) ∧ look T 6 = some (.slice A2 N c2) ∧ look T 0 = some (.slice A n c)) (N - 1) ⟨1, by omega, by omega, rfl, by simp, by simp, by simp, by simp, by simp⟩ ?_
  rintro k T M' ⟨i, hik, hi0, rfl, h8, h3, h4, h6, h0⟩
  by_cases hi : i < N
  · obtain ⟨id1, o1, rfl, f1, x1⟩ := sl_int hS1 hi
    obtain ⟨_, _, e1, -, y1⟩ := sl_int hS1 (show i - 1 < N by omega)
    cases e1
    obtain ⟨id2, o2, rfl, f2, x2⟩ := sl_int hS2 hi
    obtain ⟨_, _, e2, -, y2⟩ := sl_int hS2 (show i - 1 < N by omega)
    cases e2
    have u1 : ¬ el (Old.lineL Old.linV N N) i < el (Old.lineL Old.linV N N) (i - 1) := by have := up_lin hi0 hi; omega
    have u2 : ¬ el (Old.lineL Old.smoV N N) i < el (Old.lineL Old.smoV N N) (i - 1) := by have := up_smo hi0 hi; omega
    have et : ((i : Int) - 1).toNat = i - 1 := by omega
    have eb : (i : Int) - 1 < N := by omega
    have ec : (0 : Int) ≤ (i : Int) - 1 := by omega
    simp (disch := omega) [h8, h3, h4, h6, hi]
    refine awDraw_E 20 [[],[],[0,1],[2,0,1],[],[],[5],[4,6,5],[7,4,6,5],[3,2,0,1,8,7,4,6,5],[9,3,2,0,1,8,7,4,6,5],[10,9,3,2,0,1,8,7,4,6,5],[10,9,3,2,0,1,8,7,4,6,5],[11,10,9,3,2,0,1,8,7,4,6,5,12],[13,11,10,9,3,2,0,1,8,7,4,6,5,12],[10,9,3,2,0,1,8,7,4,6,5],[10,9,3,2,0,1,8,7,4,6,5],[16,10,9,3,2,0,1,8,7,4,6,5],[15,10,9,3,2,0,1,8,7,4,6,5,17,16],[18,15,10,9,3,2,0,1,8,7,4,6,5,17,16],[14,13,11,10,9,3,2,0,1,8,7,4,6,5,12,19,18,15,17,16],[10,9,3,2,0,1,8,7,4,6,5,20,14,13,11,12,19,18,15,17,16]] (by kernel_rfl) (by kernel_rfl) ?_
    simp (disch := omega) [h8, h3, h4, h6, hi, wrap_in, f1, f2, x1, x2, y1, y2, u1, u2, et, eb, ec]
    refine ⟨by omega, lpI (k - 1) (by omega) ?_⟩
    exact ⟨i + 1, by omega, by omega, rfl, by simp, by simp [h3], by simp [h4], by simp [h6], by simp [h0]⟩
  · obtain rfl : i = N := by omega
    simp (disch := omega) [h8, h3, h4, h6, h0]
    refine awCall_ctr ((v8At_a 1 9 (h.keeps K2) hcs (by omega) (by omega) (by omega)).weaken (by omega)) ?_
    rintro r M3 ⟨rfl, X, rfl, x0, x1⟩
    obtain ⟨X', rfl⟩ := Int.eq_ofNat_of_zero_le x0
    obtain ⟨m, hm⟩ : ∃ m : Nat, m = 1 + X' := ⟨_, rfl⟩
    have em : 1 + (X' : Int) = m := by omega
    simp (disch := omega) [wrap_in, em]
    refine awCall_ctr ((E8Window_a (m := m) (h.keeps K2) (by omega) hcs (by omega) (by omega)).weaken (by omega)) ?_
    rintro r M4 ⟨A3, c3, l, rfl, hS3, hw, k4⟩
    have n4 := k4.len
    have hl3 := hS3.1
    try simp
    refine awCall_ctr ((Reverse_i hS3 hw).weaken (by omega)) ?_
    rintro r M5 hF5
    obtain ⟨A5, c5, rfl, hS5, k5⟩ := hF5.sl
    rw [List.length_reverse, hl3] at hS5
    have n5 := k5.len
    try simp
    refine awCall_ctr ((Complement_i (hS3.keeps k5) hw).weaken (by omega)) ?_
    rintro r M6 hF6
    obtain ⟨A6, c6, rfl, hS6, k6⟩ := hF6.sl
    rw [comp_len, hl3] at hS6
    have n6 := k6.len
    replace hS3 := (hS3.keeps k5).keeps k6
    replace hS5 := hS5.keeps k6
    have K6 := ((K2.trans k4).trans k5).trans k6
    simp (disch := omega) [hl3, comp_len, wrap_in]
    refine awLoop_T (fun k T M' => ∃ j : Nat, j + k = m ∧ M' = M6 ∧ look T 12 = some (iv j) ∧ look T 9 = some (.slice A3 m c3) ∧ look T 10 = some (.slice A5 m c5) ∧ look T 11 = some (.slice A6 m c6) ∧ look T 3 = some (iv i) ∧ look T 4 = some (.slice A1 i c1) ∧ look T 6 = some (.slice A2 i c2)) m ⟨0, by omega, rfl, by simp, by simp, by simp, by simp, by simp [h3], by simp [h4], by simp [h6]⟩ ?_
    clear h8 h3 h4 h6 h0 hF1 hF2 hF5 hF6 T
    rintro k' T M7 ⟨j, hjk, rfl, h12, h9, h10, h11, h3, h4, h6⟩
    by_cases hj : j < m
    · obtain ⟨id3, o3, rfl, f3, x3⟩ := sl_int hS3 hj
      obtain ⟨id5, o5, rfl, f5, x5⟩ := sl_int hS5 (show m - 1 - j < m by omega)
      obtain ⟨id6, o6, rfl, f6, x6⟩ := sl_int hS6 hj
      have e5 : el l.reverse (m - 1 - j) = el l j := by rw [← hl3]; exact el_rev (by omega)
      rw [e5] at x5
      rw [el_comp (by omega)] at x6
      have hb := winB_el hw (i := j) (by omega)
      have et : ((m : Int) - 1 - j).toNat = m - 1 - j := by omega
      have eb : (m : Int) - 1 - j < m := by omega
      have ec : (0 : Int) ≤ (m : Int) - 1 - j := by omega
      have ed : 256 - el l j + el l j = 256 := by omega
      simp (disch := omega) [h12, h9, h10, h11, hj]
      refine awDraw_E 22 [[],[],[1],[2,1],[],[3,2,1,4],[0,5,3,2,1,4],[6,0,5,3,2,1,4],[],[],[8,9],[10,8,9],[7,6,0,5,3,2,1,4,11,10,8,9],[12,7,6,0,5,3,2,1,4,11,10,8,9],[13,12,7,6,0,5,3,2,1,4,11,10,8,9],[13,12,7,6,0,5,3,2,1,4,11,10,8,9],[14,13,12,7,6,0,5,3,2,1,4,11,10,8,9,15],[16,14,13,12,7,6,0,5,3,2,1,4,11,10,8,9,15],[13,12,7,6,0,5,3,2,1,4,11,10,8,9],[13,12,7,6,0,5,3,2,1,4,11,10,8,9],[18,13,12,7,6,0,5,3,2,1,4,11,10,8,9,19],[20,18,13,12,7,6,0,5,3,2,1,4,11,10,8,9,19],[17,16,14,13,12,7,6,0,5,3,2,1,4,11,10,8,9,15,21,20,18,19],[22,17,16,14,13,12,7,6,0,5,3,2,1,4,11,10,8,9,15,21,20,18,19],[13,12,7,6,0,5,3,2,1,4,11,10,8,9,23,22,17,16,14,15,21,20,18,19]] (by kernel_rfl) (by kernel_rfl) ?_
      simp (disch := omega) [h12, h9, h10, h11, hj, wrap_in, f3, f5, f6, x3, x5, x6, et, eb, ec, ed]
      try refine ⟨by omega, ?_⟩
      refine lpI (k' - 1) (by omega) ?_
      exact ⟨j + 1, by omega, rfl, by simp, by simp [h9], by simp [h10], by simp [h11], by simp [h3], by simp [h4], by simp [h6]⟩
    · obtain rfl : j = m := by omega
      obtain ⟨id1, o1, rfl, f1, y1⟩ := sl_int hS1 (show i - 1 < i by omega)
      obtain ⟨id2, o2, rfl, f2, y2⟩ := sl_int hS2 (show i - 1 < i by omega)
      have z1 := (lin_bd (k := ((i - 1 : Nat) : Int) + 1) (m := (i : Int) + 1) (by omega) (by omega)).2
      have z2 := (smo_bd (k := ((i - 1 : Nat) : Int) + 1) (m := (i : Int) + 1) (by omega) (by omega)).2
      rw [el_line _ _ (by omega)] at y1 y2
      generalize Old.linV (((i - 1 : Nat) : Int) + 1) ((i : Int) + 1) = Z1 at y1 z1
      generalize Old.smoV (((i - 1 : Nat) : Int) + 1) ((i : Int) + 1) = Z2 at y2 z2
      have y1' := cellAt_keeps ((k4.trans k5).trans k6) y1
      have y2' := cellAt_keeps ((k4.trans k5).trans k6) y2
      have f1' := rowEsz_keeps ((k4.trans k5).trans k6) f1
      have f2' := rowEsz_keeps ((k4.trans k5).trans k6) f2
      have et : ((i : Int) - 1).toNat = i - 1 := by omega
      have eb : (i : Int) - 1 < i := by omega
      have ec : (0 : Int) ≤ (i : Int) - 1 := by omega
      have ed : (1 : Int) ≤ i := by omega
      simp (disch := omega) [h12, h9, h10, h11, h3, h4, h6, wrap_in, et, eb, ec, ed, y1', y2', f1', f2', z1, z2]
      refine awCall_ctr ((Reverse_i hS5 (win_rev hw)).weaken (by omega)) ?_
      rintro r M8 hF8
      rw [List.reverse_reverse] at hF8
      obtain ⟨A8, c8, rfl, hS8, k8⟩ := hF8.sl
      have n8 := k8.len
      rw [hl3] at hS8
      simp (disch := omega) [h12, h9, h10, h11, h3, h4, h6, hl3]
      refine awCall_det' (v8Same_a hS8 (hS3.keeps k8) (by omega)) (by omega) ?_
      simp (disch := omega) [h12, h9, h10, h11, h3, h4, h6, hl3]
      refine awCall_ctr ((Complement_i (hS6.keeps k8) (win_comp hw)).weaken (by omega)) ?_
      rintro r M9 hF9
      rw [comp_comp] at hF9
      obtain ⟨A9, c9, rfl, hS9, k9⟩ := hF9.sl
      have n9 := k9.len
      rw [hl3] at hS9
      simp (disch := omega) [h12, h9, h10, h11, h3, h4, h6, hl3]
      refine awCall_det' (v8Same_a hS9 ((hS3.keeps k8).keeps k9) (by omega)) (by omega) ?_
      simp [(K6.trans k8).trans k9]
end Go.Proofs.Ythopcmglcnlcfaa
