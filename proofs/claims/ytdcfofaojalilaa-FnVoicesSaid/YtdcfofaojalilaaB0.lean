/- Contracts of the smallest functions, both packages. No conditions. -/
import Derived.Test.YtdcfofaojalilaaL0
namespace Go.Proofs.Ytdcfofaojalilaa
open Go.RowKit
set_option linter.unusedVariables false
set_option linter.unusedSimpArgs false
set_option maxRecDepth 100000
attribute [local simp] List.getElem?_cons_zero
attribute [local irreducible] awCond awCall awLoop awDraw ow retQ retC resQ Keeps
theorem within_a {M : Mem} (n lo hi : Int) : Det Try.prog M.length 56 [iv n, iv lo, iv hi] M (.bool (inB n lo hi)) M := by
  first | (refine det_fn Try.func56 rfl Try.ntmps56 Try.results56 rfl rfl rfl (by simp) ?_) | (refine det_fnC Try.func56 rfl Try.ntmps56 Try.results56 rfl rfl (by simp) ?_)
  simp
  repeat' (first | (refine guardV_split ?_ ?_ <;> intro _) | (simp [*]))
  all_goals (simp_all [inB, Keeps.refl] <;> omega)
theorem l00In_a {M : Mem} (n lo hi : Int) : Det Try.prog M.length 44 [iv n, iv lo, iv hi] M (.bool (inB n lo hi)) M := by
  first | (refine det_fn Try.func44 rfl Try.ntmps44 Try.results44 rfl rfl rfl (by simp) ?_) | (refine det_fnC Try.func44 rfl Try.ntmps44 Try.results44 rfl rfl (by simp) ?_)
  simp
  repeat' (first | (refine guardV_split ?_ ?_ <;> intro _) | (simp [*]))
  all_goals (simp_all [inB, Keeps.refl] <;> omega)
theorem isVoice_a {M : Mem} (n : Int) : Det Try.prog M.length 45 [iv n] M (.bool (inB n 0 3)) M := by
  first | (refine det_fn Try.func45 rfl Try.ntmps45 Try.results45 rfl rfl rfl (by simp) ?_) | (refine det_fnC Try.func45 rfl Try.ntmps45 Try.results45 rfl rfl (by simp) ?_)
  simp
  refine awCall_det' (within_a _ _ _) (by simp) ?_
  simp [Keeps.refl]
theorem isKey_a {M : Mem} (n : Int) : Det Try.prog M.length 66 [iv n] M (.bool (inB n 0 127)) M := by
  first | (refine det_fn Try.func66 rfl Try.ntmps66 Try.results66 rfl rfl rfl (by simp) ?_) | (refine det_fnC Try.func66 rfl Try.ntmps66 Try.results66 rfl rfl (by simp) ?_)
  simp
  refine awCall_det' (within_a _ _ _) (by simp) ?_
  simp [Keeps.refl]
theorem isCount_a {M : Mem} (n : Int) : Det Try.prog M.length 46 [iv n] M (.bool (inB n 0 4000)) M := by
  first | (refine det_fn Try.func46 rfl Try.ntmps46 Try.results46 rfl rfl rfl (by simp) ?_) | (refine det_fnC Try.func46 rfl Try.ntmps46 Try.results46 rfl rfl (by simp) ?_)
  simp
  refine awCall_det' (within_a _ _ _) (by simp) ?_
  simp [Keeps.refl]
end Go.Proofs.Ytdcfofaojalilaa
