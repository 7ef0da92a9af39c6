/- CurvePoint: a list is cloned. No conditions. -/
import Derived.Test.YtaacgipfmmomiaaHCurvePoint
import Derived.Test.YtaacgipfmmomiaaL1
namespace Go.Proofs.Ytaacgipfmmomiaa
open Go.RowKit
set_option linter.unusedVariables false
set_option linter.unusedSimpArgs false
set_option maxRecDepth 100000
attribute [local simp] List.getElem?_cons_zero
attribute [local irreducible] awCond awCall awLoop awDraw ow retQ retC resQ Keeps
theorem curvePoint_one (l : List CurvePoint) : (cellsL curvePointR l).all (fun u => u.oneCell') = true := by
  induction l with
  | nil => rfl
  | cons a l ih => rw [cellsL_cons, List.all_append, ih]; rfl
theorem CloneCurvePoint_a {M : Mem} {A : Option Addr} {n c : Nat} {l : List CurvePoint} (h : Sl curvePointR M A n l) (hn : n ≤ 1048576) : Ctr Try.prog M.length 69 [.slice A n c] M fun r M' => Acc curvePointR 83 M.length M' r l ∧ Keeps M M' := by
  have hl := h.1
  first | (refine ctr_fn Try.func69 rfl Try.ntmps69 Try.results69 rfl rfl (by simp) ?_) | (refine ctr_fnC Try.func69 rfl Try.ntmps69 Try.results69 rfl (by simp) ?_)
  rcases A with _ | ad
  · have h0 : l = [] := by
      apply List.eq_nil_of_length_eq_zero
      rcases Nat.eq_zero_or_pos n with e | e
      · omega
      · obtain ⟨_, _, e', _⟩ := h.2 e
        cases e'
    simp [nil_eq Try.underlying41]
    exact ⟨h0 ▸ .nil, Keeps.refl _⟩
  · simp [nil_eq Try.underlying41]
    refine cloneX (R := curvePointR) (e := 83) (by_ := 16) (l := l) (by exact h.keeps (keeps_app _)) (by omega) ⟨_, 0, 0, rfl, rfl, .inr ⟨M.length, true, rfl, Nat.le_refl _, by simp [cellsL]⟩⟩ (Nat.le_refl _) (by simp) (by simp) ⟨_, Try.underlying41⟩ (by kernel_rfl) (curvePoint_one _) (by omega) (by unfold maxLen; omega) ?_
    intro v' M2 hA hS
    try simp
    exact ⟨hA, hS.keeps (keeps_app _) (Nat.le_refl _)⟩
end Go.Proofs.Ytaacgipfmmomiaa
