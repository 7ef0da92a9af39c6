/- Contracts of the smallest functions, both packages. No conditions. -/
import Derived.Test.YtgaiejaegimilaaL0
namespace Go.Proofs.Ytgaiejaegimilaa
open Go.RowKit
set_option linter.unusedVariables false
set_option linter.unusedSimpArgs false
set_option maxRecDepth 100000
attribute [local simp] List.getElem?_cons_zero
attribute [local irreducible] awCond awCall awLoop awDraw ow retQ retC resQ Keeps
theorem within_a {M : Mem} (n lo hi : Int) : Det Try.prog M.length 80 [iv n, iv lo, iv hi] M (.bool (inB n lo hi)) M := by
  first | (refine det_fn Try.func80 rfl Try.ntmps80 Try.results80 rfl rfl rfl (by simp) ?_) | (refine det_fnC Try.func80 rfl Try.ntmps80 Try.results80 rfl rfl (by simp) ?_)
  simp
  repeat' (first | (refine guardV_split ?_ ?_ <;> intro _) | (simp [*]))
  all_goals (simp_all [inB, Keeps.refl] <;> omega)
theorem l00In_a {M : Mem} (n lo hi : Int) : Det Try.prog M.length 74 [iv n, iv lo, iv hi] M (.bool (inB n lo hi)) M := by
  first | (refine det_fn Try.func74 rfl Try.ntmps74 Try.results74 rfl rfl rfl (by simp) ?_) | (refine det_fnC Try.func74 rfl Try.ntmps74 Try.results74 rfl rfl (by simp) ?_)
  simp
  repeat' (first | (refine guardV_split ?_ ?_ <;> intro _) | (simp [*]))
  all_goals (simp_all [inB, Keeps.refl] <;> omega)
theorem isKey_a {M : Mem} (n : Int) : Det Try.prog M.length 145 [iv n] M (.bool (inB n 0 127)) M := by
  first | (refine det_fn Try.func145 rfl Try.ntmps145 Try.results145 rfl rfl rfl (by simp) ?_) | (refine det_fnC Try.func145 rfl Try.ntmps145 Try.results145 rfl rfl (by simp) ?_)
  simp
  refine awCall_det' (within_a _ _ _) (by simp) ?_
  simp [Keeps.refl]
end Go.Proofs.Ytgaiejaegimilaa
