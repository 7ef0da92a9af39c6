/- Contracts of the smallest functions, both packages. No conditions. -/
import Derived.Test.YtffbocbjmhkikaaL0
namespace Go.Proofs.Ytffbocbjmhkikaa
open Go.RowKit
set_option linter.unusedVariables false
set_option linter.unusedSimpArgs false
set_option maxRecDepth 100000
attribute [local simp] List.getElem?_cons_zero
attribute [local irreducible] awCond awCall awLoop awDraw ow retQ retC resQ Keeps
theorem within_a {M : Mem} (n lo hi : Int) : Det Try.prog M.length 110 [iv n, iv lo, iv hi] M (.bool (inB n lo hi)) M := by
  first | (refine det_fn Try.func110 rfl Try.ntmps110 Try.results110 rfl rfl rfl (by simp) ?_) | (refine det_fnC Try.func110 rfl Try.ntmps110 Try.results110 rfl rfl (by simp) ?_)
  simp
  repeat' (first | (refine guardV_split ?_ ?_ <;> intro _) | (simp [*]))
  all_goals (simp_all [inB, Keeps.refl] <;> omega)
theorem l00In_a {M : Mem} (n lo hi : Int) : Det Try.prog M.length 61 [iv n, iv lo, iv hi] M (.bool (inB n lo hi)) M := by
  first | (refine det_fn Try.func61 rfl Try.ntmps61 Try.results61 rfl rfl rfl (by simp) ?_) | (refine det_fnC Try.func61 rfl Try.ntmps61 Try.results61 rfl rfl (by simp) ?_)
  simp
  repeat' (first | (refine guardV_split ?_ ?_ <;> intro _) | (simp [*]))
  all_goals (simp_all [inB, Keeps.refl] <;> omega)
theorem isVoice_a {M : Mem} (n : Int) : Det Try.prog M.length 179 [iv n] M (.bool (inB n 0 3)) M := by
  first | (refine det_fn Try.func179 rfl Try.ntmps179 Try.results179 rfl rfl rfl (by simp) ?_) | (refine det_fnC Try.func179 rfl Try.ntmps179 Try.results179 rfl rfl (by simp) ?_)
  simp
  refine awCall_det' (within_a _ _ _) (by simp) ?_
  simp [Keeps.refl]
theorem isKey_a {M : Mem} (n : Int) : Det Try.prog M.length 63 [iv n] M (.bool (inB n 0 127)) M := by
  first | (refine det_fn Try.func63 rfl Try.ntmps63 Try.results63 rfl rfl rfl (by simp) ?_) | (refine det_fnC Try.func63 rfl Try.ntmps63 Try.results63 rfl rfl (by simp) ?_)
  simp
  refine awCall_det' (within_a _ _ _) (by simp) ?_
  simp [Keeps.refl]
theorem isCount_a {M : Mem} (n : Int) : Det Try.prog M.length 72 [iv n] M (.bool (inB n 0 4000)) M := by
  first | (refine det_fn Try.func72 rfl Try.ntmps72 Try.results72 rfl rfl rfl (by simp) ?_) | (refine det_fnC Try.func72 rfl Try.ntmps72 Try.results72 rfl rfl (by simp) ?_)
  simp
  refine awCall_det' (within_a _ _ _) (by simp) ?_
  simp [Keeps.refl]
theorem isSample_a {M : Mem} (n : Int) : Det Try.prog M.length 124 [iv n] M (.bool (inB n (-2147483648) 2147483647)) M := by
  first | (refine det_fn Try.func124 rfl Try.ntmps124 Try.results124 rfl rfl rfl (by simp) ?_) | (refine det_fnC Try.func124 rfl Try.ntmps124 Try.results124 rfl rfl (by simp) ?_)
  simp
  refine awCall_det' (within_a _ _ _) (by simp) ?_
  simp [Keeps.refl]
theorem l01Sample_a {M : Mem} (n : Int) : Det Try.prog M.length 123 [iv n] M (.bool (inB n (-2147483648) 2147483647)) M := by
  first | (refine det_fn Try.func123 rfl Try.ntmps123 Try.results123 rfl rfl rfl (by simp) ?_) | (refine det_fnC Try.func123 rfl Try.ntmps123 Try.results123 rfl rfl (by simp) ?_)
  simp
  refine awCall_det' (l00In_a _ _ _) (by simp) ?_
  simp [Keeps.refl]
end Go.Proofs.Ytffbocbjmhkikaa
