/- Contracts of the smallest functions, both packages. No conditions. -/
import Derived.Test.YtaacgipfmmomiaaL0
namespace Go.Proofs.Ytaacgipfmmomiaa
open Go.RowKit
set_option linter.unusedVariables false
set_option linter.unusedSimpArgs false
set_option maxRecDepth 100000
attribute [local simp] List.getElem?_cons_zero
attribute [local irreducible] awCond awCall awLoop awDraw ow retQ retC resQ Keeps
theorem within_a {M : Mem} (n lo hi : Int) : Det Try.prog M.length 94 [iv n, iv lo, iv hi] M (.bool (inB n lo hi)) M := by
  first | (refine det_fn Try.func94 rfl Try.ntmps94 Try.results94 rfl rfl rfl (by simp) ?_) | (refine det_fnC Try.func94 rfl Try.ntmps94 Try.results94 rfl rfl (by simp) ?_)
  simp
  repeat' (first | (refine guardV_split ?_ ?_ <;> intro _) | (simp [*]))
  all_goals (simp_all [inB, Keeps.refl] <;> omega)
theorem l00In_a {M : Mem} (n lo hi : Int) : Det Try.prog M.length 65 [iv n, iv lo, iv hi] M (.bool (inB n lo hi)) M := by
  first | (refine det_fn Try.func65 rfl Try.ntmps65 Try.results65 rfl rfl rfl (by simp) ?_) | (refine det_fnC Try.func65 rfl Try.ntmps65 Try.results65 rfl rfl (by simp) ?_)
  simp
  repeat' (first | (refine guardV_split ?_ ?_ <;> intro _) | (simp [*]))
  all_goals (simp_all [inB, Keeps.refl] <;> omega)
theorem isCount_a {M : Mem} (n : Int) : Det Try.prog M.length 67 [iv n] M (.bool (inB n 0 4000)) M := by
  first | (refine det_fn Try.func67 rfl Try.ntmps67 Try.results67 rfl rfl rfl (by simp) ?_) | (refine det_fnC Try.func67 rfl Try.ntmps67 Try.results67 rfl rfl (by simp) ?_)
  simp
  refine awCall_det' (within_a _ _ _) (by simp) ?_
  simp [Keeps.refl]
theorem isSample_a {M : Mem} (n : Int) : Det Try.prog M.length 99 [iv n] M (.bool (inB n (-2147483648) 2147483647)) M := by
  first | (refine det_fn Try.func99 rfl Try.ntmps99 Try.results99 rfl rfl rfl (by simp) ?_) | (refine det_fnC Try.func99 rfl Try.ntmps99 Try.results99 rfl rfl (by simp) ?_)
  simp
  refine awCall_det' (within_a _ _ _) (by simp) ?_
  simp [Keeps.refl]
theorem l01Sample_a {M : Mem} (n : Int) : Det Try.prog M.length 98 [iv n] M (.bool (inB n (-2147483648) 2147483647)) M := by
  first | (refine det_fn Try.func98 rfl Try.ntmps98 Try.results98 rfl rfl rfl (by simp) ?_) | (refine det_fnC Try.func98 rfl Try.ntmps98 Try.results98 rfl rfl (by simp) ?_)
  simp
  refine awCall_det' (l00In_a _ _ _) (by simp) ?_
  simp [Keeps.refl]
end Go.Proofs.Ytaacgipfmmomiaa
