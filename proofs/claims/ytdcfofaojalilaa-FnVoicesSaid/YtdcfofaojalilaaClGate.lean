/- Gate: a list is cloned. No conditions. -/
import Derived.Test.YtdcfofaojalilaaHGate
import Derived.Test.YtdcfofaojalilaaL1
namespace Go.Proofs.Ytdcfofaojalilaa
open Go.RowKit
set_option linter.unusedVariables false
set_option linter.unusedSimpArgs false
set_option maxRecDepth 100000
attribute [local simp] List.getElem?_cons_zero
attribute [local irreducible] awCond awCall awLoop awDraw ow retQ retC resQ Keeps
theorem gate_one (l : List Gate) : (cellsL gateR l).all (fun u => u.oneCell') = true := by
  induction l with
  | nil => rfl
  | cons a l ih => rw [cellsL_cons, List.all_append, ih]; rfl
theorem CloneGate_a {M : Mem} {A : Option Addr} {n c : Nat} {l : List Gate} (h : Sl gateR M A n l) (hn : n ≤ 1048576) : Ctr Try.prog M.length 63 [.slice A n c] M fun r M' => Acc gateR 45 M.length M' r l ∧ Keeps M M' := by
  have hl := h.1
  first | (refine ctr_fn Try.func63 rfl Try.ntmps63 Try.results63 rfl rfl (by simp) ?_) | (refine ctr_fnC Try.func63 rfl Try.ntmps63 Try.results63 rfl (by simp) ?_)
  rcases A with _ | ad
  · have h0 : l = [] := by
      apply List.eq_nil_of_length_eq_zero
      rcases Nat.eq_zero_or_pos n with e | e
      · omega
      · obtain ⟨_, _, e', _⟩ := h.2 e
        cases e'
    simp [nil_eq Try.underlying25]
    exact ⟨h0 ▸ .nil, Keeps.refl _⟩
  · simp [nil_eq Try.underlying25]
    refine cloneX (R := gateR) (e := 45) (by_ := 40) (l := l) (by exact h.keeps (keeps_app _)) (by omega) ⟨_, 0, 0, rfl, rfl, .inr ⟨M.length, true, rfl, Nat.le_refl _, by simp [cellsL]⟩⟩ (Nat.le_refl _) (by simp) (by simp) ⟨_, Try.underlying25⟩ (by kernel_rfl) (gate_one _) (by omega) (by unfold maxLen; omega) ?_
    intro v' M2 hA hS
    try simp
    exact ⟨hA, hS.keeps (keeps_app _) (Nat.le_refl _)⟩
end Go.Proofs.Ytdcfofaojalilaa
