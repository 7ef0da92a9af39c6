/- Plain lemmas: lines and smooth lines are windows that never fall; a window turned or complemented twice is itself. No program in sight. -/
import Derived.Test.YthopcmglcnlcfaaL1
import Derived.Test.YthopcmglcnlcfaaOWinP
import Derived.Test.YthopcmglcnlcfaaOFade
namespace Go.Proofs.Ythopcmglcnlcfaa
open Go.RowKit
set_option linter.unusedVariables false
set_option linter.unusedSimpArgs false
theorem el_gi (l : List Int) (i : Nat) : el l i = Old.gi l i := rfl
theorem el_line (f : Int → Int → Int) (n : Int) {k i : Nat} (h : i < k) : el (Old.lineL f n k) i = f ((i : Int) + 1) (n + 1) := by
  have hl : i < (Old.lineL f n k).length := by rw [Old.lineL_len]; exact h
  rw [← el_eq hl]
  simp [Old.lineL]
theorem lin_bd {k m : Int} (h0 : 0 ≤ k) (h : k < m) : 0 ≤ Old.linV k m ∧ Old.linV k m < 256 :=
  ⟨Int.ediv_nonneg (by omega) (by omega), Old.linV_lt k m h (by omega)⟩
theorem smo_nn {k m : Int} (h0 : 0 ≤ k) (h : k < m) : 0 ≤ Old.smoV k m := by
  unfold Old.smoV
  exact Int.ediv_nonneg (Int.mul_nonneg (Int.mul_nonneg (by omega) h0) (by omega)) (by have := Old.cube_pos (m := m) (by omega); omega)
theorem smo_le {m : Int} : ∀ (d : Nat) (k : Int), 0 ≤ k → k + d + 1 = m → Old.smoV k m ≤ 256
  | 0, k, h0, h => by
    obtain rfl : m = k + 1 := by omega
    exact Old.smoV_le k h0
  | d + 1, k, h0, h => Int.le_trans (Old.smoV_mono k m h0 (by omega)) (smo_le d (k + 1) (by omega) (by omega))
theorem smo_bd {k m : Int} (h0 : 0 ≤ k) (h : k < m) : 0 ≤ Old.smoV k m ∧ Old.smoV k m ≤ 256 :=
  ⟨smo_nn h0 h, smo_le (m - k - 1).toNat k h0 (by omega)⟩
theorem winB_of {l : List Int} (h : ∀ i, i < l.length → 0 ≤ el l i ∧ el l i ≤ 256) (h1 : 1 ≤ l.length) (h2 : l.length ≤ 256) : Old.winB l = true := by
  unfold Old.winB Old.allB
  rw [Bool.and_eq_true, List.all_eq_true]
  refine ⟨fun x hx => ?_, ?_⟩
  · obtain ⟨i, hi, rfl⟩ := List.getElem_of_mem hx
    rw [el_eq hi]
    exact Old.inB_iff.2 (h i hi)
  · exact Old.inB_iff.2 ⟨by omega, by omega⟩
theorem winB_el {l : List Int} (h : Old.winB l = true) {i : Nat} (hi : i < l.length) : 0 ≤ el l i ∧ el l i ≤ 256 := Old.winB_get h hi
theorem win_line {f : Int → Int → Int} {n : Nat} (h1 : 1 ≤ n) (h2 : n ≤ 256) (hf : ∀ k m : Int, 0 ≤ k → k < m → 0 ≤ f k m ∧ f k m ≤ 256) : Old.winB (Old.lineL f n n) = true := by
  have hl := Old.lineL_len f n n
  refine winB_of (fun i hi => ?_) (by omega) (by omega)
  rw [hl] at hi
  rw [el_line f _ hi]
  exact hf _ _ (by omega) (by omega)
theorem win_lin {n : Nat} (h1 : 1 ≤ n) (h2 : n ≤ 256) : Old.winB (Old.lineL Old.linV n n) = true := win_line h1 h2 fun k m h0 h => by have := lin_bd h0 h; omega
theorem win_smo {n : Nat} (h1 : 1 ≤ n) (h2 : n ≤ 256) : Old.winB (Old.lineL Old.smoV n n) = true := win_line h1 h2 fun k m h0 h => smo_bd h0 h
theorem lineR_nat (f : Int → Int → Int) {n : Nat} (h1 : 1 ≤ n) (h2 : n ≤ 256) : Old.lineR f n = Old.lineL f n n ∧ Old.lineC n = 0 := by
  have h : Old.inB (n : Int) 1 256 = true := Old.inB_iff.2 (by omega)
  unfold Old.lineR Old.lineC
  rw [h]
  exact ⟨rfl, rfl⟩
theorem up_lin {n i : Nat} (h0 : 0 < i) (h : i < n) : el (Old.lineL Old.linV n n) (i - 1) ≤ el (Old.lineL Old.linV n n) i := by
  rw [el_line _ _ h, el_line _ _ (by omega)]
  have := Old.linV_mono ((i : Int)) ((n : Int) + 1) (by omega)
  rw [show (((i - 1 : Nat) : Int) + 1) = i by omega]
  exact this
theorem up_smo {n i : Nat} (h0 : 0 < i) (h : i < n) : el (Old.lineL Old.smoV n n) (i - 1) ≤ el (Old.lineL Old.smoV n n) i := by
  rw [el_line _ _ h, el_line _ _ (by omega)]
  have := Old.smoV_mono ((i : Int)) ((n : Int) + 1) (by omega) (by omega)
  rw [show (((i - 1 : Nat) : Int) + 1) = i by omega]
  exact this
theorem comp_len (l : List Int) : (Old.compL l).length = l.length := by simp [Old.compL]
theorem el_comp {l : List Int} {i : Nat} (h : i < l.length) : el (Old.compL l) i = 256 - el l i := by
  rw [← el_eq (l := Old.compL l) (by rw [comp_len]; exact h), ← el_eq h]
  simp [Old.compL]
theorem comp_comp (l : List Int) : Old.compL (Old.compL l) = l := by
  induction l with
  | nil => rfl
  | cons a l ih =>
    show (256 - (256 - a)) :: Old.compL (Old.compL l) = a :: l
    rw [ih, show 256 - (256 - a) = a by omega]
theorem win_comp {l : List Int} (h : Old.winB l = true) : Old.winB (Old.compL l) = true := by
  have hl := Old.winB_len h
  refine winB_of (fun i hi => ?_) (by rw [comp_len]; omega) (by rw [comp_len]; omega)
  rw [comp_len] at hi
  rw [el_comp hi]
  have := winB_el h hi
  omega
theorem el_rev {l : List Int} {i : Nat} (h : i < l.length) : el l.reverse (l.length - 1 - i) = el l i := by
  rw [← el_eq (l := l.reverse) (by rw [List.length_reverse]; omega), ← el_eq h, List.getElem_reverse]
  congr 1
  omega
theorem win_rev {l : List Int} (h : Old.winB l = true) : Old.winB l.reverse = true := by
  have hl := Old.winB_len h
  refine winB_of (fun i hi => ?_) (by rw [List.length_reverse]; omega) (by rw [List.length_reverse]; omega)
  rw [List.length_reverse] at hi
  have := el_rev (l := l) (i := l.length - 1 - i) (by omega)
  rw [show l.length - 1 - (l.length - 1 - i) = i by omega] at this
  rw [this]
  exact winB_el h (by omega)
end Go.Proofs.Ythopcmglcnlcfaa
