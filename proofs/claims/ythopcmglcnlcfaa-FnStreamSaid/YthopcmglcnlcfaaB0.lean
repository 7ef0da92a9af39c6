/- Contracts of the smallest functions, both packages. No conditions. -/
import Derived.Test.YthopcmglcnlcfaaL0
namespace Go.Proofs.Ythopcmglcnlcfaa
open Go.RowKit
set_option linter.unusedVariables false
set_option linter.unusedSimpArgs false
set_option maxRecDepth 100000
attribute [local simp] List.getElem?_cons_zero
attribute [local irreducible] awCond awCall awLoop awDraw ow retQ retC resQ Keeps
theorem within_a {M : Mem} (n lo hi : Int) : Det Try.prog M.length 74 [iv n, iv lo, iv hi] M (.bool (inB n lo hi)) M := by
  first | (refine det_fn Try.func74 rfl Try.ntmps74 Try.results74 rfl rfl rfl (by simp) ?_) | (refine det_fnC Try.func74 rfl Try.ntmps74 Try.results74 rfl rfl (by simp) ?_)
  simp
  repeat' (first | (refine guardV_split ?_ ?_ <;> intro _) | (simp [*]))
  all_goals (simp_all [inB, Keeps.refl] <;> omega)
theorem l00In_a {M : Mem} (n lo hi : Int) : Det Try.prog M.length 92 [iv n, iv lo, iv hi] M (.bool (inB n lo hi)) M := by
  first | (refine det_fn Try.func92 rfl Try.ntmps92 Try.results92 rfl rfl rfl (by simp) ?_) | (refine det_fnC Try.func92 rfl Try.ntmps92 Try.results92 rfl rfl (by simp) ?_)
  simp
  repeat' (first | (refine guardV_split ?_ ?_ <;> intro _) | (simp [*]))
  all_goals (simp_all [inB, Keeps.refl] <;> omega)
theorem isKey_a {M : Mem} (n : Int) : Det Try.prog M.length 134 [iv n] M (.bool (inB n 0 127)) M := by
  first | (refine det_fn Try.func134 rfl Try.ntmps134 Try.results134 rfl rfl rfl (by simp) ?_) | (refine det_fnC Try.func134 rfl Try.ntmps134 Try.results134 rfl rfl (by simp) ?_)
  simp
  refine awCall_det' (within_a _ _ _) (by simp) ?_
  simp [Keeps.refl]
theorem isCount_a {M : Mem} (n : Int) : Det Try.prog M.length 62 [iv n] M (.bool (inB n 0 4000)) M := by
  first | (refine det_fn Try.func62 rfl Try.ntmps62 Try.results62 rfl rfl rfl (by simp) ?_) | (refine det_fnC Try.func62 rfl Try.ntmps62 Try.results62 rfl rfl (by simp) ?_)
  simp
  refine awCall_det' (within_a _ _ _) (by simp) ?_
  simp [Keeps.refl]
theorem isSample_a {M : Mem} (n : Int) : Det Try.prog M.length 124 [iv n] M (.bool (inB n (-2147483648) 2147483647)) M := by
  first | (refine det_fn Try.func124 rfl Try.ntmps124 Try.results124 rfl rfl rfl (by simp) ?_) | (refine det_fnC Try.func124 rfl Try.ntmps124 Try.results124 rfl rfl (by simp) ?_)
  simp
  refine awCall_det' (within_a _ _ _) (by simp) ?_
  simp [Keeps.refl]
theorem l01Sample_a {M : Mem} (n : Int) : Det Try.prog M.length 111 [iv n] M (.bool (inB n (-2147483648) 2147483647)) M := by
  first | (refine det_fn Try.func111 rfl Try.ntmps111 Try.results111 rfl rfl rfl (by simp) ?_) | (refine det_fnC Try.func111 rfl Try.ntmps111 Try.results111 rfl rfl (by simp) ?_)
  simp
  refine awCall_det' (l00In_a _ _ _) (by simp) ?_
  simp [Keeps.refl]
end Go.Proofs.Ythopcmglcnlcfaa
