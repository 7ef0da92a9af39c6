/- Plain lemmas: windows never fall; a fade and its rest add up; between two samples. No program in sight. -/
import Derived.Test.YthopcmglcnlcfaaOLine
import Derived.Test.YthopcmglcnlcfaaOAdd
namespace Go.Proofs.Ythopcmglcnlcfaa.Old
open Go.RowKit
set_option linter.unusedVariables false
set_option maxRecDepth 100000
set_option linter.unusedSimpArgs false

theorem linV_mono (k m : Int) (hm : 0 < m) : linV k m ≤ linV (k + 1) m := by
  unfold linV
  exact Int.ediv_le_ediv hm (by omega)
theorem linV_lt (k m : Int) (h : k < m) (hm : 0 < m) : linV k m < 256 := by
  unfold linV
  exact Int.ediv_lt_of_lt_mul hm (by omega)
theorem smo_id (k m : Int) : 256 * (k + 1) * (k + 1) * (3 * m - 2 * (k + 1)) = 256 * k * k * (3 * m - 2 * k) + 256 * (6 * (k * (m - k - 1)) + 3 * m - 2) := by grind
theorem smo_top (k : Int) : 256 * ((k + 1) * (k + 1) * (k + 1)) = 256 * k * k * (3 * (k + 1) - 2 * k) + 256 * (3 * k + 1) := by grind
theorem cube_pos {m : Int} (hm : 0 < m) : 0 < m * m * m := Int.mul_pos (Int.mul_pos hm hm) hm
theorem smoV_mono (k m : Int) (h0 : 0 ≤ k) (h : k + 1 ≤ m) : smoV k m ≤ smoV (k + 1) m := by
  unfold smoV
  refine Int.ediv_le_ediv (cube_pos (by omega)) ?_
  have h1 : 0 ≤ k * (m - k - 1) := Int.mul_nonneg h0 (by omega)
  rw [smo_id]
  omega
theorem smoV_le (k : Int) (h0 : 0 ≤ k) : smoV k (k + 1) ≤ 256 := by
  unfold smoV
  refine Int.ediv_le_of_le_mul (cube_pos (by omega)) ?_
  have := smo_top k
  omega
theorem cross_same (x v : Int) : crossV x x v = x := by
  unfold crossV fl
  have : x * (256 - v) + x * v = x * 256 := by grind
  rw [this]
  omega
theorem cross_between (x y v : Int) (h0 : 0 ≤ v) (h1 : v ≤ 256) (h : x ≤ y) : x ≤ crossV x y v ∧ crossV x y v ≤ y ∧ x ≤ crossV y x v ∧ crossV y x v ≤ y := by
  unfold crossV fl
  have e1 : x * (256 - v) + y * v = x * 256 + (y - x) * v := by grind
  have e2 : y * (256 - v) + x * v = y * 256 - (y - x) * v := by grind
  have p1 : 0 ≤ (y - x) * v := Int.mul_nonneg (by omega) h0
  have p2 : (y - x) * v ≤ (y - x) * 256 := Int.mul_le_mul_of_nonneg_left h1 (by omega)
  rw [e1, e2]
  omega
end Go.Proofs.Ythopcmglcnlcfaa.Old
