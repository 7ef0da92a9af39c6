/- Instruments: the program's test. No conditions. -/
import Derived.Test.YtffbocbjmhkikaaI7
namespace Go.Proofs.Ytffbocbjmhkikaa
open Go.RowKit
set_option linter.unusedVariables false
set_option linter.unusedSimpArgs false
set_option maxRecDepth 100000
attribute [local simp] List.getElem?_cons_zero
attribute [local irreducible] awCond awCall awLoop awDraw ow retQ retC resQ Keeps
def patB (p : Patch) : Bool := formB p && decide ((ordL p.nodes).length = p.nodes.length)
def instB (i : Inst) : Bool := patB i.pat && (decide (i.pat.inp = 3) && (decide (i.pat.outs.length = 1) && (envB i.env && (decide (i.steps.length = 12) && areSB i.steps))))
theorem formB_nodes {p : Patch} (h : formB p = true) : p.nodes.length ≤ 24 ∧ (∀ y, y ∈ p.nodes → idxB p.nodes.length y.from_ = true) ∧ (∀ y, y ∈ p.nodes → nodeF p y = true) := by
  unfold formB at h
  simp only [Bool.and_eq_true, decide_eq_true_eq, List.all_eq_true] at h
  refine ⟨h.1.1.1.2, fun y hy => ?_, h.2⟩
  have := h.2 y hy
  unfold nodeF at this
  simp only [Bool.and_eq_true] at this
  exact this.2.1
theorem order_b {M : Mem} {lo hi : Nat} {us : List Value} {x : Patch} (h : patchP.rd lo hi M x us) (hf : formB x = true) : Det Try.prog M.length 149 [.agg us.toArray] M (.slice (some ⟨M.length, 0, none⟩) (ordL x.nodes).length 0) (M ++ [.dead]) := by
  obtain ⟨h1, h2, -⟩ := formB_nodes hf
  refine ((order_i h h2 h1).mono ?_).blind
  rintro r M' ⟨hA, hk, a, n, c, rfl⟩
  obtain ⟨_, _, _, e, hl, -⟩ := hA.sl
  injection e with e1 e2 e3
  exact ⟨⟨a, c, by rw [← hl.trans e2.symm]⟩, hk⟩
theorem isPatch_i {M : Mem} {lo hi : Nat} {us : List Value} {x : Patch} (h : patchP.rd lo hi M x us) : Det Try.prog M.length 106 [.agg us.toArray] M (.bool (patB x)) M := by
  have hx := h
  obtain ⟨u1, u2, u3, rfl, hu1, hu2, hu3⟩ := h
  obtain ⟨A1, n1, c1, rfl⟩ := hu1.isSl
  obtain ⟨A2, n2, c2, e2, p1, p2, p3⟩ := hu2
  obtain ⟨A3, n3, c3, rfl⟩ := hu3.isSl
  subst e2
  have hn := p3.1
  first | (refine det_fn Try.func106 rfl Try.ntmps106 Try.results106 rfl rfl rfl (by simp) ?_) | (refine det_fnC Try.func106 rfl Try.ntmps106 Try.results106 rfl rfl (by simp) ?_)
  simp
  by_cases hf : formB x = true
  case neg =>
    rw [Bool.not_eq_true] at hf
    refine awDraw_E 9 [[],[0],[1,0],[2,1,0],[3,2,1,0],[4,3,2,1,0],[2,1,0],[6,2,1,0],[7,6,2,1,0],[5,4,3,2,1,0,8,7,6],[2,1,0,9,5,4,3,8,7,6],[10,2,1,0,9,5,4,3,8,7,6]] (by kernel_rfl) (by kernel_rfl) ?_
    simp
    refine awCall_det' (isWellFormed_i (patchP.app hx _)) (by simp) ?_
    simp [hf, patB, keeps_app]
  refine awDraw_D 9 [[],[0],[1,0],[2,1,0],[3,2,1,0],[4,3,2,1,0],[2,1,0],[6,2,1,0],[7,6,2,1,0],[5,4,3,2,1,0,8,7,6],[2,1,0,9,5,4,3,8,7,6],[10,2,1,0,9,5,4,3,8,7,6]] (by kernel_rfl) (by decide +kernel) ?_
  simp
  refine awCall_det' (isWellFormed_i (patchP.app hx _)) (by simp) ?_
  simp [hf]
  refine awCall_det' (order_b (patchP.app hx _) hf) (by simp) ?_
  simp
  by_cases hl : (ordL x.nodes).length = n2
  · simp [patB, hf, hn, hl, keeps_app]
  · have hl' : ¬ ((ordL x.nodes).length : Int) = n2 := by omega
    simp [patB, hf, hn, hl, hl', keeps_app]
theorem isInstrument_i {M : Mem} {lo hi : Nat} {us : List Value} {x : Inst} (h : instP.rd lo hi M x us) : Det Try.prog M.length 60 [.agg us.toArray] M (.bool (instB x)) M := by
  obtain ⟨ps, es, w, rfl, hp, he, hw⟩ := h
  have hp2 := hp
  obtain ⟨u1, u2, u3, rfl, hu1, hu2, hu3⟩ := hp2
  obtain ⟨A1, n1, c1, rfl⟩ := hu1.isSl
  obtain ⟨A2, n2, c2, rfl⟩ := hu2.isSl
  obtain ⟨A3, n3, c3, e3, q1, q2, q3⟩ := hu3
  subst e3
  obtain ⟨A4, n4, c4, rfl⟩ := env_isV he
  have hw2 := hw
  obtain ⟨A5, n5, c5, rfl, r1, r2, r3⟩ := hw2
  have ho := q3.1
  have hs := r3.1
  first | (refine det_fn Try.func60 rfl Try.ntmps60 Try.results60 rfl rfl rfl (by simp) ?_) | (refine det_fnC Try.func60 rfl Try.ntmps60 Try.results60 rfl rfl (by simp) ?_)
  simp
  refine awCall_det' (isPatch_i (patchP.app hp _)) (by simp) ?_
  by_cases g1 : patB x.pat = true
  case neg => simp [g1, instB, keeps_app]
  by_cases g2 : x.pat.inp = 3
  case neg => simp [g1, g2, instB, keeps_app]
  by_cases g3 : n3 = 1
  case neg =>
    have g3' : ¬ (n3 : Int) = 1 := by omega
    simp [g1, g2, g3, g3', ho, instB, keeps_app]
  subst g3
  simp [g1, g2]
  refine awCall_det' (isEnvelope_i (envP.app he _)) (by simp) ?_
  by_cases g4 : envB x.env = true
  case neg => simp [g1, g2, ho, g4, instB, keeps_app]
  by_cases g5 : n5 = 12
  case neg =>
    have g5' : ¬ (n5 : Int) = 12 := by omega
    simp [g1, g2, ho, g4, g5, g5', hs, instB, keeps_app]
  subst g5
  simp [g4]
  refine awCall_det' (areSamples_i (hw.app _)) (by simp) ?_
  simp [g1, g2, ho, g4, hs, instB, keeps_app]
theorem ValidInstrument_i {M : Mem} {lo hi : Nat} {us : List Value} {x : Inst} (h : instP.rd lo hi M x us) : Det Try.prog M.length 16 [.agg us.toArray] M (.bool (instB x)) M := by
  have hl := instP.len h
  have ht : us.take 8 = us := List.take_of_length_le (by omega)
  first | (refine det_fn Try.func16 rfl Try.ntmps16 Try.results16 rfl rfl rfl (by simp) ?_) | (refine det_fnC Try.func16 rfl Try.ntmps16 Try.results16 rfl rfl (by simp) ?_)
  simp [hl, ht]
  refine awCall_det' (isInstrument_i (instP.app h _)) (by simp) ?_
  simp [keeps_app]
end Go.Proofs.Ytffbocbjmhkikaa
