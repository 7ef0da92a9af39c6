/- Patches: the program's test of their form. No conditions. -/
import Derived.Test.YtffbocbjmhkikaaI5
namespace Go.Proofs.Ytffbocbjmhkikaa
open Go.RowKit
set_option linter.unusedVariables false
set_option linter.unusedSimpArgs false
set_option maxRecDepth 100000
attribute [local simp] List.getElem?_cons_zero
attribute [local irreducible] awCond awCall awLoop awDraw ow retQ retC resQ Keeps
def nodeF (p : Patch) (x : Node) : Bool := nodeB x p.tabs.length && (idxB p.nodes.length x.from_ && !(decide (x.k = 1) && decide (p.inp ≤ x.a)))
def formB (p : Patch) : Bool := (inB p.inp 0 4 && tablesB p.tabs && decide (p.nodes.length ≤ 24) && decide (p.outs.length ≤ 4) && idxB p.nodes.length p.outs) && p.nodes.all (nodeF p)
set_option maxHeartbeats 2000000 in
theorem isWellFormed_i {M : Mem} {lo hi : Nat} {us : List Value} {x : Patch} (h : patchP.rd lo hi M x us) : Det Try.prog M.length 148 [.agg us.toArray] M (.bool (formB x)) M := by
  obtain ⟨u1, u2, u3, rfl, hu1, hu2, hu3⟩ := h
  obtain ⟨A1, n1, c1, e1, r1, r2, r3⟩ := id hu1
  obtain ⟨A2, n2, c2, e2, p1, p2, p3⟩ := id hu2
  obtain ⟨A3, n3, c3, e3, q1, q2, q3⟩ := id hu3
  subst e1; subst e2; subst e3
  have ht := r3.1
  have hn := p3.1
  have ho := q3.1
  have szN : ∀ {M : Mem} {A : Option Addr} {n c : Nat}, Det Try.prog M.length 172 [.slice A n c] M (iv n) M := by
    intro M A n c
    first | (refine det_fn Try.func172 rfl Try.ntmps172 Try.results172 rfl rfl rfl (by simp) ?_) | (refine det_fnC Try.func172 rfl Try.ntmps172 Try.results172 rfl rfl (by simp) ?_)
    simp [Keeps.refl]
  have szI : ∀ {M : Mem} {A : Option Addr} {n c : Nat}, Det Try.prog M.length 153 [.slice A n c] M (iv n) M := by
    intro M A n c
    first | (refine det_fn Try.func153 rfl Try.ntmps153 Try.results153 rfl rfl rfl (by simp) ?_) | (refine det_fnC Try.func153 rfl Try.ntmps153 Try.results153 rfl rfl (by simp) ?_)
    simp [Keeps.refl]
  have szT : ∀ {M : Mem} {A : Option Addr} {n c : Nat}, Det Try.prog M.length 74 [.slice A n c] M (iv n) M := by
    intro M A n c
    first | (refine det_fn Try.func74 rfl Try.ntmps74 Try.results74 rfl rfl rfl (by simp) ?_) | (refine det_fnC Try.func74 rfl Try.ntmps74 Try.results74 rfl rfl (by simp) ?_)
    simp [Keeps.refl]
  have no : (inB x.inp 0 4 && tablesB x.tabs && decide (x.nodes.length ≤ 24) && decide (x.outs.length ≤ 4) && idxB x.nodes.length x.outs) = false → formB x = false := fun h => by unfold formB; rw [h]; rfl
  rw [hn, ho] at no
  first | (refine det_fn Try.func148 rfl Try.ntmps148 Try.results148 rfl rfl rfl (by simp) ?_) | (refine det_fnC Try.func148 rfl Try.ntmps148 Try.results148 rfl rfl (by simp) ?_)
  simp
  refine awCall_det' szN (by simp) ?_
  simp
  refine awCall_det' (within_a x.inp 0 4) (by simp) ?_
  by_cases g1 : inB x.inp 0 4 = true
  case neg =>
    rw [Bool.not_eq_true] at g1
    simp [g1]
    exact ⟨no (by rw [g1]; rfl), keeps_app _⟩
  simp [g1]
  refine awCall_det' (areTables_i (hu1.app _)) (by simp) ?_
  by_cases g2 : tablesB x.tabs = true
  case neg =>
    rw [Bool.not_eq_true] at g2
    simp [g2]
    exact ⟨no (by rw [g2]; simp), keeps_app _⟩
  simp [g2]
  by_cases g3 : n2 ≤ 24
  case neg =>
    have g3' : (24 : Int) < n2 := by omega
    simp [g3']
    exact ⟨no (by simp [g3]), keeps_app _⟩
  have g3' : ¬ (24 : Int) < n2 := by omega
  simp [g3']
  refine awCall_det' szI (by simp) ?_
  by_cases g4 : n3 ≤ 4
  case neg =>
    have g4' : (4 : Int) < n3 := by omega
    simp [g4']
    exact ⟨no (by simp [g4]), keeps_app _⟩
  have g4' : ¬ (4 : Int) < n3 := by omega
  simp [g4']
  refine awCall_det' (areIndices_i n2 (by omega) (by omega) (hu3.app _)) (by simp) ?_
  by_cases g5 : idxB n2 x.outs = true
  case neg =>
    rw [Bool.not_eq_true] at g5
    simp [g5]
    exact ⟨no (by rw [g5]; simp), keeps_app _⟩
  simp [g5]
  have key : formB x = x.nodes.all (nodeF x) := by unfold formB; rw [g1, g2, hn, ho, g5]; simp [g3, g4]
  rw [key]
  clear key no
  obtain ⟨M0, hM0⟩ : ∃ M0 : Mem, M0 = M ++ [Slot.live ⟨[iv x.inp, .slice A1 n1 c1, .slice A2 n2 c2, .slice A3 n3 c3], true, true, 36, 4⟩] := ⟨_, rfl⟩
  have k0 : Keeps M M0 := by rw [hM0]; exact keeps_app _
  have b0 : cellAt M0 M.length 0 = some (iv x.inp) := by rw [hM0]; simp
  have b1 : cellAt M0 M.length 1 = some (.slice A1 n1 c1) := by rw [hM0]; simp
  have l0 : M0.length = M.length + 1 := by rw [hM0]; simp
  rw [← hM0]
  clear hM0
  refine awLoop_T (fun m T M' => ∃ k : Nat, k + m = n2 ∧ Keeps M0 M' ∧ look T 39 = some (iv k) ∧ look T 38 = some (iv n2) ∧ look T 37 = some (.slice A2 n2 c2) ∧ look T 3 = some (iv n2) ∧ look T 1 = some (.pointer (some ⟨M.length, 0, none⟩)) ∧ ∀ i, i < k → nodeF x (el x.nodes i) = true) n2 ⟨0, by omega, Keeps.refl _, by simp, by simp, by simp, by simp, by simp, fun i hi => by omega⟩ ?_
  rintro m T M1 ⟨k, hm, k1, t39, t38, t37, t3, t1, hkk⟩
  have l1 := k1.len
  have k01 := k0.trans k1
  by_cases hlt : k < n2
  case neg =>
    obtain rfl : k = n2 := by omega
    simp [t39, t38]
    exact ⟨fun y hy => List.all_eq_true.1 (all_yes (p := nodeF x) fun i hi => hkk i (by omega)) y hy, k01⟩
  obtain ⟨id, off, us, rfl, he, hrd, hc⟩ := (p3.keeps k01).at_ hlt
  have hrd2 := hrd
  obtain ⟨u, rfl, hu⟩ := hrd2
  have huV := hu
  obtain ⟨A4, n4, c4, rfl, -⟩ := hu
  have cl := cellsAt_of (n := 4) hc rfl (by omega)
  have bad : nodeF x (el x.nodes k) = false → x.nodes.all (nodeF x) = false := fun h => all_no (by omega) h
  have kb : nodeF x (el x.nodes k) = (nodeB (el x.nodes k) n1 && (idxB n2 (el x.nodes k).from_ && !(decide ((el x.nodes k).k = 1) && decide (x.inp ≤ (el x.nodes k).a)))) := by unfold nodeF; rw [ht, hn]
  have next : nodeF x (el x.nodes k) = true → ∀ i, i < k + 1 → nodeF x (el x.nodes i) = true := fun h i hi => by
    by_cases e : i = k
    · rw [e]; exact h
    · exact hkk i (by omega)
  generalize hG : x.nodes.all (nodeF x) = G at bad ⊢
  generalize hy : el x.nodes k = y at *
  simp (disch := omega) [t39, t38, t37, hlt, cl, he]
  refine awDraw_E 22 [[],[],[1],[2,1],[0,3,2,1],[4,0,3,2,1],[5,4,0,3,2,1],[6,5,4,0,3,2,1],[7,6,5,4,0,3,2,1],[6,5,4,0,3,2,1],[8,7,6,5,4,0,3,2,1,9],[10,8,7,6,5,4,0,3,2,1,9],[6,5,4,0,3,2,1,11,10,8,7,9],[12,6,5,4,0,3,2,1,11,10,8,7,9],[13,12,6,5,4,0,3,2,1,11,10,8,7,9],[14,13,12,6,5,4,0,3,2,1,11,10,8,7,9],[15,14,13,12,6,5,4,0,3,2,1,11,10,8,7,9],[16,15,14,13,12,6,5,4,0,3,2,1,11,10,8,7,9],[17,16,15,14,13,12,6,5,4,0,3,2,1,11,10,8,7,9],[18,17,16,15,14,13,12,6,5,4,0,3,2,1,11,10,8,7,9],[17,16,15,14,13,12,6,5,4,0,3,2,1,11,10,8,7,9],[20,17,16,15,14,13,12,6,5,4,0,3,2,1,11,10,8,7,9],[19,18,17,16,15,14,13,12,6,5,4,0,3,2,1,11,10,8,7,9,21,20],[17,16,15,14,13,12,6,5,4,0,3,2,1,11,10,8,7,9,22,19,18,21,20],[13,12,6,5,4,0,3,2,1,11,10,8,7,9,23,17,16,15,14,22,19,18,21,20]] (by kernel_rfl) (by kernel_rfl) ?_
  simp (disch := omega) [t1, t3, cellAt_app (cellAt_keeps k1 b1)]
  refine awCall_det' szT (by simp) ?_
  simp
  refine awCall_det' (isNode_i n1 (nodeP.app hrd _)) (by simp <;> omega) ?_
  by_cases f1 : nodeB y n1 = true
  case neg =>
    rw [Bool.not_eq_true] at f1
    simp [f1]
    exact ⟨bad (by rw [kb, f1]; rfl), k01.app _⟩
  simp (disch := omega) [f1, t3, t1]
  refine awCall_det' (areIndices_i n2 (by omega) (by omega) (huV.app _)) (by simp <;> omega) ?_
  by_cases f2 : idxB n2 y.from_ = true
  case neg =>
    rw [Bool.not_eq_true] at f2
    simp [f2]
    exact ⟨bad (by rw [kb, f1, f2]; rfl), k01.app _⟩
  by_cases f3 : y.k = 1
  case neg =>
    simp (disch := omega) [f2, f3, t1, t3, t39, t38, t37, wrap_in]
    exact lpI (m - 1) (by omega) ⟨k + 1, by omega, k1.app _, by simp, by simp [t38], by simp [t37], by simp [t3], by simp [t1], next (by rw [kb, f1, f2]; simp [f3])⟩
  by_cases f4 : x.inp ≤ y.a
  · simp (disch := omega) [f2, f3, f4, t1, t3, cellAt_app (cellAt_keeps k1 b0)]
    exact ⟨bad (by rw [kb]; simp [f3, f4]), k01.app _⟩
  · simp (disch := omega) [f2, f3, f4, t1, t3, cellAt_app (cellAt_keeps k1 b0), t39, t38, t37, wrap_in]
    exact lpI (m - 1) (by omega) ⟨k + 1, by omega, k1.app _, by simp, by simp [t38], by simp [t37], by simp [t3], by simp [t1], next (by rw [kb, f1, f2]; simp [f3, f4])⟩
end Go.Proofs.Ytffbocbjmhkikaa
