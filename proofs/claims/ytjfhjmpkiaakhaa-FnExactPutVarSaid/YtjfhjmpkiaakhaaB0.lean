/- Contracts of the smallest functions, both packages. No conditions. -/
import Derived.Test.YtjfhjmpkiaakhaaL0
namespace Go.Proofs.Ytjfhjmpkiaakhaa
open Go.RowKit
set_option linter.unusedVariables false
set_option linter.unusedSimpArgs false
set_option maxRecDepth 100000
attribute [local simp] List.getElem?_cons_zero
attribute [local irreducible] awCond awCall awLoop awDraw ow retQ retC resQ Keeps
theorem within_a {M : Mem} (n lo hi : Int) : Det Try.prog M.length 30 [iv n, iv lo, iv hi] M (.bool (inB n lo hi)) M := by
  first | (refine det_fn Try.func30 rfl Try.ntmps30 Try.results30 rfl rfl rfl (by simp) ?_) | (refine det_fnC Try.func30 rfl Try.ntmps30 Try.results30 rfl rfl (by simp) ?_)
  simp
  repeat' (first | (refine guardV_split ?_ ?_ <;> intro _) | (simp [*]))
  all_goals (simp_all [inB, Keeps.refl] <;> omega)
theorem l00In_a {M : Mem} (n lo hi : Int) : Det Try.prog M.length 28 [iv n, iv lo, iv hi] M (.bool (inB n lo hi)) M := by
  first | (refine det_fn Try.func28 rfl Try.ntmps28 Try.results28 rfl rfl rfl (by simp) ?_) | (refine det_fnC Try.func28 rfl Try.ntmps28 Try.results28 rfl rfl (by simp) ?_)
  simp
  repeat' (first | (refine guardV_split ?_ ?_ <;> intro _) | (simp [*]))
  all_goals (simp_all [inB, Keeps.refl] <;> omega)
theorem isSample_a {M : Mem} (n : Int) : Det Try.prog M.length 39 [iv n] M (.bool (inB n (-2147483648) 2147483647)) M := by
  first | (refine det_fn Try.func39 rfl Try.ntmps39 Try.results39 rfl rfl rfl (by simp) ?_) | (refine det_fnC Try.func39 rfl Try.ntmps39 Try.results39 rfl rfl (by simp) ?_)
  simp
  refine awCall_det' (within_a _ _ _) (by simp) ?_
  simp [Keeps.refl]
theorem l01Sample_a {M : Mem} (n : Int) : Det Try.prog M.length 38 [iv n] M (.bool (inB n (-2147483648) 2147483647)) M := by
  first | (refine det_fn Try.func38 rfl Try.ntmps38 Try.results38 rfl rfl rfl (by simp) ?_) | (refine det_fnC Try.func38 rfl Try.ntmps38 Try.results38 rfl rfl (by simp) ?_)
  simp
  refine awCall_det' (l00In_a _ _ _) (by simp) ?_
  simp [Keeps.refl]
end Go.Proofs.Ytjfhjmpkiaakhaa
