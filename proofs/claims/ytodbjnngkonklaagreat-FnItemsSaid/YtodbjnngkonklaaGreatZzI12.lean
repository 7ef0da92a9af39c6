/- Parts of the proof, together: Which items are valid, but for their size: the reference. Regions that draw their order, whose values are known and whose stores lie in known memory. Whether items are equal and valid: the program. Which lists of items are valid: plain, and the reference. Which lists of items are valid: the program. No conditions. -/
import Derived.Test.YtodbjnngkonklaaGreatZzI9
import Derived.Test.YtodbjnngkonklaaGreatZzI10
namespace Go.Proofs.YtodbjnngkonklaaGreat
open Go.RowKit
set_option linter.unusedVariables false
set_option linter.unusedSimpArgs false
set_option maxRecDepth 100000
attribute [local simp] List.getElem?_cons_zero
attribute [local irreducible] awCond awCall awLoop awDraw ow retQ retC resQ Keeps
def Item.len (x : Item) : Frac := ⟨x.ln, x.ld⟩
def Item.mv (x : Item) : Interval := ⟨x.mt, x.mh⟩
def itemB (x : Item) : Bool :=
  if x.j = 1 then chordB x.ps && (lenB x.len && (decide (x.x = 0) && ((decide (x.mt = 0) && decide (x.mh = 0)) && (decide (x.z = 0)))))
  else if x.j = 2 then decide (x.ps = []) && (lenB x.len && (decide (x.x = 0) && ((decide (x.mt = 0) && decide (x.mh = 0)) && (decide (x.z = 0)))))
  else if x.j = 3 then decide (x.ps = []) && ((decide (x.ln = 0) && decide (x.ld = 0)) && (inB x.x 1 127 && ((decide (x.mt = 0) && decide (x.mh = 0)) && (decide (x.z = 0)))))
  else if x.j = 4 then decide (x.ps = []) && ((decide (x.ln = 0) && decide (x.ld = 0)) && (inB x.x 2 8 && ((decide (x.mt = 0) && decide (x.mh = 0)))))
  else if x.j = 5 then decide (x.ps = []) && ((decide (x.ln = 0) && decide (x.ld = 0)) && (decide (x.x = 0) && (intervalB x.mv)))
  else false
def grpB (x : Item) : Bool := decide (x.j = 4) || decide (x.j = 5)
theorem item_cells {M : Mem} {id off lo hi : Nat} {us : List Value} {x : Item} (h : itemP.rd lo hi M x us) (hc : Cl M id off us) : ∃ A n c, SlV pitchP lo hi M (.slice A n c) x.ps ∧ us = [iv x.j, .slice A n c, iv x.ln, iv x.ld, iv x.x, iv x.mt, iv x.mh, iv x.z] ∧
    cellAt M id off = some (iv x.j) ∧ cellAt M id (off + 1) = some (.slice A n c) ∧ cellsAt M id (off + 2) 2 = some [iv x.ln, iv x.ld] ∧ cellAt M id (off + 4) = some (iv x.x) ∧ cellsAt M id (off + 5) 2 = some [iv x.mt, iv x.mh] ∧ cellAt M id (off + 7) = some (iv x.z) ∧ cellsAt M id off 8 = some us := by
  obtain ⟨u, rfl, hu⟩ := h
  obtain ⟨A, n, c, rfl⟩ := hu.isSl
  refine ⟨A, n, c, hu, rfl, hc 0 _ rfl, hc 1 _ rfl, ?_, hc 4 _ rfl, ?_, hc 7 _ rfl, cellsAt_of hc rfl (by omega)⟩
  · refine cellsAt_of (fun j y hy => ?_) rfl (by omega)
    rcases j with _ | _ | j
    · simp at hy; subst hy; exact hc 2 _ rfl
    · simp at hy; subst hy; exact hc 3 _ rfl
    · simp at hy
  · refine cellsAt_of (fun j y hy => ?_) rfl (by omega)
    rcases j with _ | _ | j
    · simp at hy; subst hy; exact hc 5 _ rfl
    · simp at hy; subst hy; exact hc 6 _ rfl
    · simp at hy
set_option maxHeartbeats 2000000 in
theorem l19Item_s {M : Mem} {id off lo hi : Nat} {us : List Value} {x : Item} (h : itemP.rd lo hi M x us) (hc : Cl M id off us) : Det Tryz.prog M.length 96 [.pointer (some ⟨id, off, none⟩)] M (.bool (itemB x)) M := by
  obtain ⟨A, n, c, hu, -, c0, c1, c2, c4, c5, c7, -⟩ := item_cells h hc
  have hu2 := hu
  obtain ⟨_, _, _, e, hn, -, hS⟩ := hu2
  injection e with e1 e2 e3
  subst e1 e2 e3
  have hS := hS.sl
  have hl := hS.1
  first | (refine det_fn Tryz.func96 rfl Tryz.ntmps96 Tryz.results96 rfl rfl rfl (by simp) ?_) | (refine det_fnC Tryz.func96 rfl Tryz.ntmps96 Tryz.results96 rfl rfl (by simp) ?_)
  simp
  obtain ⟨M0, hM0⟩ : ∃ M0 : Mem, M0 = M ++ [Slot.live ⟨[iv 0, iv 0], true, true, 34, 2⟩, Slot.live ⟨[iv 0, iv 0], true, true, 58, 2⟩] := ⟨_, rfl⟩
  have k0 : Keeps M M0 := by rw [hM0]; exact keeps_app _
  have n0 : M0.length = M.length + 2 := by rw [hM0]; simp
  have hnone : cellsAt M0 M.length 0 2 = some [iv 0, iv 0] := by rw [hM0]; simp [cellsAt]
  have hstill : cellsAt M0 (M.length + 1) 0 2 = some [iv 0, iv 0] := by rw [hM0]; simp [cellsAt]
  rw [← hM0]
  try simp only [List.length_append, List.length_cons, List.length_nil]
  clear hM0
  replace c0 := cellAt_keeps k0 c0
  replace c1 := cellAt_keeps k0 c1
  replace c2 := cellsAt_keeps k0 c2
  replace c4 := cellAt_keeps k0 c4
  replace c5 := cellsAt_keeps k0 c5
  replace c7 := cellAt_keeps k0 c7
  have hS0 := hS.keeps k0
  have ei := interval_eql ⟨x.mt, x.mh⟩ ⟨0, 0⟩
  have ef := frac_eql ⟨x.ln, x.ld⟩ ⟨0, 0⟩
  simp only [interval_eq, frac_eq, Bool.decide_and] at ei ef
  have hlz : ((n : Int) = 0) = (x.ps = []) := by rw [← List.length_eq_zero_iff, hl]; apply propext; omega
  have hlz2 : (n = 0) = (x.ps = []) := by rw [← List.length_eq_zero_iff, hl]
  simp (disch := omega) [c0]
  by_cases j1 : x.j = 1
  · have eB : itemB x = (chordB x.ps && (lenB x.len && (decide (x.x = 0) && ((decide (x.mt = 0) && decide (x.mh = 0)) && (decide (x.z = 0)))))) := by unfold itemB; rw [if_pos j1]
    rw [eB]
    simp (disch := omega) [j1, c0]
    refine awDraw_E 25 [[],[0],[1,0],[2,1,0],[3,2,1,0],[4,3,2,1,0],[5,4,3,2,1,0],[6,5,4,3,2,1,0],[7,6,5,4,3,2,1,0],[8,7,6,5,4,3,2,1,0],[9,8,7,6,5,4,3,2,1,0],[5,4,3,2,1,0,10,9,8,7,6],[11,5,4,3,2,1,0,10,9,8,7,6],[12,11,5,4,3,2,1,0,10,9,8,7,6],[13,12,11,5,4,3,2,1,0,10,9,8,7,6],[14,13,12,11,5,4,3,2,1,0,10,9,8,7,6],[15,14,13,12,11,5,4,3,2,1,0,10,9,8,7,6],[16,15,14,13,12,11,5,4,3,2,1,0,10,9,8,7,6],[12,11,5,4,3,2,1,0,10,9,8,7,6,17,16,15,14,13],[18,12,11,5,4,3,2,1,0,10,9,8,7,6,17,16,15,14,13],[19,18,12,11,5,4,3,2,1,0,10,9,8,7,6,17,16,15,14,13],[20,19,18,12,11,5,4,3,2,1,0,10,9,8,7,6,17,16,15,14,13],[21,20,19,18,12,11,5,4,3,2,1,0,10,9,8,7,6,17,16,15,14,13],[22,21,20,19,18,12,11,5,4,3,2,1,0,10,9,8,7,6,17,16,15,14,13],[19,18,12,11,5,4,3,2,1,0,10,9,8,7,6,17,16,15,14,13],[23,22,21,20,19,18,12,11,5,4,3,2,1,0,10,9,8,7,6,17,16,15,14,13,24],[19,18,12,11,5,4,3,2,1,0,10,9,8,7,6,17,16,15,14,13,25,23,22,21,20,24],[26,19,18,12,11,5,4,3,2,1,0,10,9,8,7,6,17,16,15,14,13,25,23,22,21,20,24],[27,26,19,18,12,11,5,4,3,2,1,0,10,9,8,7,6,17,16,15,14,13,25,23,22,21,20,24],[28,27,26,19,18,12,11,5,4,3,2,1,0,10,9,8,7,6,17,16,15,14,13,25,23,22,21,20,24],[29,28,27,26,19,18,12,11,5,4,3,2,1,0,10,9,8,7,6,17,16,15,14,13,25,23,22,21,20,24],[30,29,28,27,26,19,18,12,11,5,4,3,2,1,0,10,9,8,7,6,17,16,15,14,13,25,23,22,21,20,24],[31,30,29,28,27,26,19,18,12,11,5,4,3,2,1,0,10,9,8,7,6,17,16,15,14,13,25,23,22,21,20,24],[27,26,19,18,12,11,5,4,3,2,1,0,10,9,8,7,6,17,16,15,14,13,25,23,22,21,20,24,32,31,30,29,28],[33,27,26,19,18,12,11,5,4,3,2,1,0,10,9,8,7,6,17,16,15,14,13,25,23,22,21,20,24,32,31,30,29,28]] (by kernel_rfl) (by kernel_rfl) ?_
    try simp (disch := omega) [c0, c1, c2, c4, c5, c7, hlz, hlz2]
    refine awCall_det' (l19Chord_s hS0 hn) (by omega) ?_
    by_cases g0 : chordB x.ps = true
    case neg => simp (disch := omega) [g0, k0, hlz, hlz2, c0, c1, c2, c4, c5, c7]
    simp (disch := omega) [g0, hstill, hnone, ei, ef, hlz, hlz2, c0, c1, c2, c4, c5, c7]
    refine awCall_det' (l19Length_s x.len) (by omega) ?_
    by_cases g1 : lenB x.len = true
    case neg => simp (disch := omega) [g1, k0, hlz, hlz2, c0, c1, c2, c4, c5, c7]
    simp (disch := omega) [g0, g1, hstill, hnone, ei, ef, hlz, hlz2, c0, c1, c2, c4, c5, c7]
    by_cases g2 : x.x = 0
    case neg => simp (disch := omega) [g2, k0, hlz, hlz2, c0, c1, c2, c4, c5, c7]
    simp (disch := omega) [g0, g1, g2, hstill, hnone, ei, ef, hlz, hlz2, c0, c1, c2, c4, c5, c7]
    by_cases g3a : x.mt = 0
    case neg => simp (disch := omega) [g3a, k0, hstill, ei, c0, c1, c2, c4, c5, c7]
    by_cases g3 : x.mh = 0
    case neg => simp (disch := omega) [g3a, g3, k0, hstill, ei, c0, c1, c2, c4, c5, c7]
    simp (disch := omega) [g0, g1, g2, g3, g3a, hstill, hnone, ei, ef, hlz, hlz2, c0, c1, c2, c4, c5, c7]
    by_cases g4 : x.z = 0
    case neg => simp (disch := omega) [g4, k0, hlz, hlz2, c0, c1, c2, c4, c5, c7]
    simp (disch := omega) [g0, g1, g2, g3, g3a, g4, k0, hstill, hnone, ei, ef, c0, c1, c2, c4, c5, c7]
  simp (disch := omega) [j1, c0]
  by_cases j2 : x.j = 2
  · have eB : itemB x = (decide (x.ps = []) && (lenB x.len && (decide (x.x = 0) && ((decide (x.mt = 0) && decide (x.mh = 0)) && (decide (x.z = 0)))))) := by unfold itemB; rw [if_neg j1, if_pos j2]
    rw [eB]
    simp (disch := omega) [j2, c0]
    refine awDraw_E 26 [[],[0],[1,0],[2,1,0],[3,2,1,0],[4,3,2,1,0],[5,4,3,2,1,0],[6,5,4,3,2,1,0],[7,6,5,4,3,2,1,0],[8,7,6,5,4,3,2,1,0],[9,8,7,6,5,4,3,2,1,0],[10,9,8,7,6,5,4,3,2,1,0],[6,5,4,3,2,1,0,11,10,9,8,7],[12,6,5,4,3,2,1,0,11,10,9,8,7],[13,12,6,5,4,3,2,1,0,11,10,9,8,7],[14,13,12,6,5,4,3,2,1,0,11,10,9,8,7],[15,14,13,12,6,5,4,3,2,1,0,11,10,9,8,7],[16,15,14,13,12,6,5,4,3,2,1,0,11,10,9,8,7],[17,16,15,14,13,12,6,5,4,3,2,1,0,11,10,9,8,7],[13,12,6,5,4,3,2,1,0,11,10,9,8,7,18,17,16,15,14],[19,13,12,6,5,4,3,2,1,0,11,10,9,8,7,18,17,16,15,14],[20,19,13,12,6,5,4,3,2,1,0,11,10,9,8,7,18,17,16,15,14],[21,20,19,13,12,6,5,4,3,2,1,0,11,10,9,8,7,18,17,16,15,14],[22,21,20,19,13,12,6,5,4,3,2,1,0,11,10,9,8,7,18,17,16,15,14],[23,22,21,20,19,13,12,6,5,4,3,2,1,0,11,10,9,8,7,18,17,16,15,14],[20,19,13,12,6,5,4,3,2,1,0,11,10,9,8,7,18,17,16,15,14],[24,23,22,21,20,19,13,12,6,5,4,3,2,1,0,11,10,9,8,7,18,17,16,15,14,25],[20,19,13,12,6,5,4,3,2,1,0,11,10,9,8,7,18,17,16,15,14,26,24,23,22,21,25],[27,20,19,13,12,6,5,4,3,2,1,0,11,10,9,8,7,18,17,16,15,14,26,24,23,22,21,25],[28,27,20,19,13,12,6,5,4,3,2,1,0,11,10,9,8,7,18,17,16,15,14,26,24,23,22,21,25],[29,28,27,20,19,13,12,6,5,4,3,2,1,0,11,10,9,8,7,18,17,16,15,14,26,24,23,22,21,25],[30,29,28,27,20,19,13,12,6,5,4,3,2,1,0,11,10,9,8,7,18,17,16,15,14,26,24,23,22,21,25],[31,30,29,28,27,20,19,13,12,6,5,4,3,2,1,0,11,10,9,8,7,18,17,16,15,14,26,24,23,22,21,25],[32,31,30,29,28,27,20,19,13,12,6,5,4,3,2,1,0,11,10,9,8,7,18,17,16,15,14,26,24,23,22,21,25],[28,27,20,19,13,12,6,5,4,3,2,1,0,11,10,9,8,7,18,17,16,15,14,26,24,23,22,21,25,33,32,31,30,29],[34,28,27,20,19,13,12,6,5,4,3,2,1,0,11,10,9,8,7,18,17,16,15,14,26,24,23,22,21,25,33,32,31,30,29]] (by kernel_rfl) (by kernel_rfl) ?_
    try simp (disch := omega) [c0, c1, c2, c4, c5, c7, hlz, hlz2]
    by_cases g0 : x.ps = []
    case neg => simp (disch := omega) [g0, k0, hlz, hlz2, c0, c1, c2, c4, c5, c7]
    simp (disch := omega) [g0, hstill, hnone, ei, ef, hlz, hlz2, c0, c1, c2, c4, c5, c7]
    refine awCall_det' (l19Length_s x.len) (by omega) ?_
    by_cases g1 : lenB x.len = true
    case neg => simp (disch := omega) [g1, k0, hlz, hlz2, c0, c1, c2, c4, c5, c7]
    simp (disch := omega) [g0, g1, hstill, hnone, ei, ef, hlz, hlz2, c0, c1, c2, c4, c5, c7]
    by_cases g2 : x.x = 0
    case neg => simp (disch := omega) [g2, k0, hlz, hlz2, c0, c1, c2, c4, c5, c7]
    simp (disch := omega) [g0, g1, g2, hstill, hnone, ei, ef, hlz, hlz2, c0, c1, c2, c4, c5, c7]
    by_cases g3a : x.mt = 0
    case neg => simp (disch := omega) [g3a, k0, hstill, ei, c0, c1, c2, c4, c5, c7]
    by_cases g3 : x.mh = 0
    case neg => simp (disch := omega) [g3a, g3, k0, hstill, ei, c0, c1, c2, c4, c5, c7]
    simp (disch := omega) [g0, g1, g2, g3, g3a, hstill, hnone, ei, ef, hlz, hlz2, c0, c1, c2, c4, c5, c7]
    by_cases g4 : x.z = 0
    case neg => simp (disch := omega) [g4, k0, hlz, hlz2, c0, c1, c2, c4, c5, c7]
    simp (disch := omega) [g0, g1, g2, g3, g3a, g4, k0, hstill, hnone, ei, ef, c0, c1, c2, c4, c5, c7]
  simp (disch := omega) [j2, c0]
  by_cases j3 : x.j = 3
  · have eB : itemB x = (decide (x.ps = []) && ((decide (x.ln = 0) && decide (x.ld = 0)) && (inB x.x 1 127 && ((decide (x.mt = 0) && decide (x.mh = 0)) && (decide (x.z = 0)))))) := by unfold itemB; rw [if_neg j1, if_neg j2, if_pos j3]
    rw [eB]
    simp (disch := omega) [j3, c0]
    refine awDraw_E 27 [[],[0],[1,0],[2,1,0],[3,2,1,0],[4,3,2,1,0],[5,4,3,2,1,0],[6,5,4,3,2,1,0],[7,6,5,4,3,2,1,0],[8,7,6,5,4,3,2,1,0],[9,8,7,6,5,4,3,2,1,0],[6,5,4,3,2,1,0],[10,9,8,7,6,5,4,3,2,1,0,11],[6,5,4,3,2,1,0,12,10,9,8,7,11],[13,6,5,4,3,2,1,0,12,10,9,8,7,11],[14,13,6,5,4,3,2,1,0,12,10,9,8,7,11],[15,14,13,6,5,4,3,2,1,0,12,10,9,8,7,11],[16,15,14,13,6,5,4,3,2,1,0,12,10,9,8,7,11],[17,16,15,14,13,6,5,4,3,2,1,0,12,10,9,8,7,11],[18,17,16,15,14,13,6,5,4,3,2,1,0,12,10,9,8,7,11],[14,13,6,5,4,3,2,1,0,12,10,9,8,7,11,19,18,17,16,15],[20,14,13,6,5,4,3,2,1,0,12,10,9,8,7,11,19,18,17,16,15],[21,20,14,13,6,5,4,3,2,1,0,12,10,9,8,7,11,19,18,17,16,15],[22,21,20,14,13,6,5,4,3,2,1,0,12,10,9,8,7,11,19,18,17,16,15],[23,22,21,20,14,13,6,5,4,3,2,1,0,12,10,9,8,7,11,19,18,17,16,15],[24,23,22,21,20,14,13,6,5,4,3,2,1,0,12,10,9,8,7,11,19,18,17,16,15],[21,20,14,13,6,5,4,3,2,1,0,12,10,9,8,7,11,19,18,17,16,15],[25,24,23,22,21,20,14,13,6,5,4,3,2,1,0,12,10,9,8,7,11,19,18,17,16,15,26],[21,20,14,13,6,5,4,3,2,1,0,12,10,9,8,7,11,19,18,17,16,15,27,25,24,23,22,26],[28,21,20,14,13,6,5,4,3,2,1,0,12,10,9,8,7,11,19,18,17,16,15,27,25,24,23,22,26],[29,28,21,20,14,13,6,5,4,3,2,1,0,12,10,9,8,7,11,19,18,17,16,15,27,25,24,23,22,26],[30,29,28,21,20,14,13,6,5,4,3,2,1,0,12,10,9,8,7,11,19,18,17,16,15,27,25,24,23,22,26],[31,30,29,28,21,20,14,13,6,5,4,3,2,1,0,12,10,9,8,7,11,19,18,17,16,15,27,25,24,23,22,26],[32,31,30,29,28,21,20,14,13,6,5,4,3,2,1,0,12,10,9,8,7,11,19,18,17,16,15,27,25,24,23,22,26],[33,32,31,30,29,28,21,20,14,13,6,5,4,3,2,1,0,12,10,9,8,7,11,19,18,17,16,15,27,25,24,23,22,26],[29,28,21,20,14,13,6,5,4,3,2,1,0,12,10,9,8,7,11,19,18,17,16,15,27,25,24,23,22,26,34,33,32,31,30],[35,29,28,21,20,14,13,6,5,4,3,2,1,0,12,10,9,8,7,11,19,18,17,16,15,27,25,24,23,22,26,34,33,32,31,30]] (by kernel_rfl) (by kernel_rfl) ?_
    try simp (disch := omega) [c0, c1, c2, c4, c5, c7, hlz, hlz2]
    by_cases g0 : x.ps = []
    case neg => simp (disch := omega) [g0, k0, hlz, hlz2, c0, c1, c2, c4, c5, c7]
    simp (disch := omega) [g0, hstill, hnone, ei, ef, hlz, hlz2, c0, c1, c2, c4, c5, c7]
    by_cases g1a : x.ln = 0
    case neg => simp (disch := omega) [g1a, k0, hnone, ef, c0, c1, c2, c4, c5, c7]
    by_cases g1 : x.ld = 0
    case neg => simp (disch := omega) [g1a, g1, k0, hnone, ef, c0, c1, c2, c4, c5, c7]
    simp (disch := omega) [g0, g1, g1a, hstill, hnone, ei, ef, hlz, hlz2, c0, c1, c2, c4, c5, c7]
    refine awCall_det' (l00In_a _ _ _) (by omega) ?_
    by_cases g2 : inB x.x 1 127 = true
    case neg => simp (disch := omega) [g2, k0, hlz, hlz2, c0, c1, c2, c4, c5, c7]
    simp (disch := omega) [g0, g1, g1a, g2, hstill, hnone, ei, ef, hlz, hlz2, c0, c1, c2, c4, c5, c7]
    by_cases g3a : x.mt = 0
    case neg => simp (disch := omega) [g3a, k0, hstill, ei, c0, c1, c2, c4, c5, c7]
    by_cases g3 : x.mh = 0
    case neg => simp (disch := omega) [g3a, g3, k0, hstill, ei, c0, c1, c2, c4, c5, c7]
    simp (disch := omega) [g0, g1, g1a, g2, g3, g3a, hstill, hnone, ei, ef, hlz, hlz2, c0, c1, c2, c4, c5, c7]
    by_cases g4 : x.z = 0
    case neg => simp (disch := omega) [g4, k0, hlz, hlz2, c0, c1, c2, c4, c5, c7]
    simp (disch := omega) [g0, g1, g1a, g2, g3, g3a, g4, k0, hstill, hnone, ei, ef, c0, c1, c2, c4, c5, c7]
  simp (disch := omega) [j3, c0]
  by_cases j4 : x.j = 4
  · have eB : itemB x = (decide (x.ps = []) && ((decide (x.ln = 0) && decide (x.ld = 0)) && (inB x.x 2 8 && ((decide (x.mt = 0) && decide (x.mh = 0)))))) := by unfold itemB; rw [if_neg j1, if_neg j2, if_neg j3, if_pos j4]
    rw [eB]
    simp (disch := omega) [j4, c0]
    refine awDraw_E 27 [[],[0],[1,0],[2,1,0],[3,2,1,0],[4,3,2,1,0],[5,4,3,2,1,0],[6,5,4,3,2,1,0],[7,6,5,4,3,2,1,0],[8,7,6,5,4,3,2,1,0],[9,8,7,6,5,4,3,2,1,0],[6,5,4,3,2,1,0],[10,9,8,7,6,5,4,3,2,1,0,11],[6,5,4,3,2,1,0,12,10,9,8,7,11],[13,6,5,4,3,2,1,0,12,10,9,8,7,11],[14,13,6,5,4,3,2,1,0,12,10,9,8,7,11],[15,14,13,6,5,4,3,2,1,0,12,10,9,8,7,11],[16,15,14,13,6,5,4,3,2,1,0,12,10,9,8,7,11],[17,16,15,14,13,6,5,4,3,2,1,0,12,10,9,8,7,11],[18,17,16,15,14,13,6,5,4,3,2,1,0,12,10,9,8,7,11],[14,13,6,5,4,3,2,1,0,12,10,9,8,7,11,19,18,17,16,15],[20,14,13,6,5,4,3,2,1,0,12,10,9,8,7,11,19,18,17,16,15],[21,20,14,13,6,5,4,3,2,1,0,12,10,9,8,7,11,19,18,17,16,15],[22,21,20,14,13,6,5,4,3,2,1,0,12,10,9,8,7,11,19,18,17,16,15],[23,22,21,20,14,13,6,5,4,3,2,1,0,12,10,9,8,7,11,19,18,17,16,15],[24,23,22,21,20,14,13,6,5,4,3,2,1,0,12,10,9,8,7,11,19,18,17,16,15],[21,20,14,13,6,5,4,3,2,1,0,12,10,9,8,7,11,19,18,17,16,15],[25,24,23,22,21,20,14,13,6,5,4,3,2,1,0,12,10,9,8,7,11,19,18,17,16,15,26],[21,20,14,13,6,5,4,3,2,1,0,12,10,9,8,7,11,19,18,17,16,15,27,25,24,23,22,26],[28,21,20,14,13,6,5,4,3,2,1,0,12,10,9,8,7,11,19,18,17,16,15,27,25,24,23,22,26]] (by kernel_rfl) (by kernel_rfl) ?_
    try simp (disch := omega) [c0, c1, c2, c4, c5, c7, hlz, hlz2]
    by_cases g0 : x.ps = []
    case neg => simp (disch := omega) [g0, k0, hlz, hlz2, c0, c1, c2, c4, c5, c7]
    simp (disch := omega) [g0, hstill, hnone, ei, ef, hlz, hlz2, c0, c1, c2, c4, c5, c7]
    by_cases g1a : x.ln = 0
    case neg => simp (disch := omega) [g1a, k0, hnone, ef, c0, c1, c2, c4, c5, c7]
    by_cases g1 : x.ld = 0
    case neg => simp (disch := omega) [g1a, g1, k0, hnone, ef, c0, c1, c2, c4, c5, c7]
    simp (disch := omega) [g0, g1, g1a, hstill, hnone, ei, ef, hlz, hlz2, c0, c1, c2, c4, c5, c7]
    refine awCall_det' (l00In_a _ _ _) (by omega) ?_
    by_cases g2 : inB x.x 2 8 = true
    case neg => simp (disch := omega) [g2, k0, hlz, hlz2, c0, c1, c2, c4, c5, c7]
    simp (disch := omega) [g0, g1, g1a, g2, hstill, hnone, ei, ef, hlz, hlz2, c0, c1, c2, c4, c5, c7]
    by_cases g3a : x.mt = 0
    case neg => simp (disch := omega) [g3a, k0, hstill, ei, c0, c1, c2, c4, c5, c7]
    by_cases g3 : x.mh = 0
    case neg => simp (disch := omega) [g3a, g3, k0, hstill, ei, c0, c1, c2, c4, c5, c7]
    simp (disch := omega) [g0, g1, g1a, g2, g3, g3a, k0, hstill, hnone, ei, ef, c0, c1, c2, c4, c5, c7]
  simp (disch := omega) [j4, c0]
  by_cases j5 : x.j = 5
  · have eB : itemB x = (decide (x.ps = []) && ((decide (x.ln = 0) && decide (x.ld = 0)) && (decide (x.x = 0) && (intervalB x.mv)))) := by unfold itemB; rw [if_neg j1, if_neg j2, if_neg j3, if_neg j4, if_pos j5]
    rw [eB]
    simp (disch := omega) [j5, c0]
    refine awDraw_E 12 [[],[0],[1,0],[2,1,0],[3,2,1,0],[4,3,2,1,0],[5,4,3,2,1,0],[6,5,4,3,2,1,0],[7,6,5,4,3,2,1,0],[8,7,6,5,4,3,2,1,0],[9,8,7,6,5,4,3,2,1,0],[6,5,4,3,2,1,0],[10,9,8,7,6,5,4,3,2,1,0,11],[6,5,4,3,2,1,0,12,10,9,8,7,11],[13,6,5,4,3,2,1,0,12,10,9,8,7,11],[14,13,6,5,4,3,2,1,0,12,10,9,8,7,11],[15,14,13,6,5,4,3,2,1,0,12,10,9,8,7,11],[16,15,14,13,6,5,4,3,2,1,0,12,10,9,8,7,11],[17,16,15,14,13,6,5,4,3,2,1,0,12,10,9,8,7,11],[18,17,16,15,14,13,6,5,4,3,2,1,0,12,10,9,8,7,11],[14,13,6,5,4,3,2,1,0,12,10,9,8,7,11,19,18,17,16,15],[20,14,13,6,5,4,3,2,1,0,12,10,9,8,7,11,19,18,17,16,15],[21,20,14,13,6,5,4,3,2,1,0,12,10,9,8,7,11,19,18,17,16,15],[22,21,20,14,13,6,5,4,3,2,1,0,12,10,9,8,7,11,19,18,17,16,15],[23,22,21,20,14,13,6,5,4,3,2,1,0,12,10,9,8,7,11,19,18,17,16,15],[24,23,22,21,20,14,13,6,5,4,3,2,1,0,12,10,9,8,7,11,19,18,17,16,15],[25,24,23,22,21,20,14,13,6,5,4,3,2,1,0,12,10,9,8,7,11,19,18,17,16,15],[21,20,14,13,6,5,4,3,2,1,0,12,10,9,8,7,11,19,18,17,16,15,26,25,24,23,22],[27,21,20,14,13,6,5,4,3,2,1,0,12,10,9,8,7,11,19,18,17,16,15,26,25,24,23,22]] (by kernel_rfl) (by kernel_rfl) ?_
    try simp (disch := omega) [c0, c1, c2, c4, c5, c7, hlz, hlz2]
    by_cases g0 : x.ps = []
    case neg => simp (disch := omega) [g0, k0, hlz, hlz2, c0, c1, c2, c4, c5, c7]
    simp (disch := omega) [g0, hstill, hnone, ei, ef, hlz, hlz2, c0, c1, c2, c4, c5, c7]
    by_cases g1a : x.ln = 0
    case neg => simp (disch := omega) [g1a, k0, hnone, ef, c0, c1, c2, c4, c5, c7]
    by_cases g1 : x.ld = 0
    case neg => simp (disch := omega) [g1a, g1, k0, hnone, ef, c0, c1, c2, c4, c5, c7]
    simp (disch := omega) [g0, g1, g1a, hstill, hnone, ei, ef, hlz, hlz2, c0, c1, c2, c4, c5, c7]
    by_cases g2 : x.x = 0
    case neg => simp (disch := omega) [g2, k0, hlz, hlz2, c0, c1, c2, c4, c5, c7]
    simp (disch := omega) [g0, g1, g1a, g2, hstill, hnone, ei, ef, hlz, hlz2, c0, c1, c2, c4, c5, c7]
    refine awCall_det' (l16Interval_s x.mv) (by omega) ?_
    by_cases g3 : intervalB x.mv = true
    case neg => simp (disch := omega) [g3, k0, hlz, hlz2, c0, c1, c2, c4, c5, c7]
    simp (disch := omega) [g0, g1, g1a, g2, g3, k0, hstill, hnone, ei, ef, c0, c1, c2, c4, c5, c7]
  simp (disch := omega) [j5, c0]
  have eB : itemB x = false := by unfold itemB; rw [if_neg j1, if_neg j2, if_neg j3, if_neg j4, if_neg j5]
  simp (disch := omega) [eB, k0]
end Go.Proofs.YtodbjnngkonklaaGreat

namespace Go.Proofs.YtodbjnngkonklaaGreat
open Go.RowKit
set_option linter.unusedVariables false
set_option linter.unusedSimpArgs false
theorem awDraw_W {P : Program} {b : Nat} {ops : List Oper} {Q : St → Prop} {S : St} (mem : (Nat → Bool) → Mem) (φ : Nat → Value)
    (h1 : P.follows .mixedOrders = true) (h2 : drawBack ⟨ops⟩ = true) (h3 : dstOnce ⟨ops⟩ = true) (h0 : S.M = mem fun _ => false)
    (hstep : ∀ (X : Nat → Bool) (k : Nat) (o : Oper) (T : List (Nat × Value)) (K : Value → Mem → Prop), X k = false → (∀ j d, edge ops k j = true → dstOf ⟨ops⟩ j = some d → look T d = some (φ j)) → (∀ t, noDst ⟨ops⟩ t = true → look T t = look S.T t) → ops[k]? = some o →
      (∀ v, (v = φ k ∨ dstOf ⟨ops⟩ k = none) → K v (mem (upX X k))) → sOp P false b o ⟨S.n, T, mem X⟩ K)
    (hend : ∀ (X : Nat → Bool) (T : List (Nat × Value)), (∀ k, k < ops.length → X k = true) → (∀ t, noDst ⟨ops⟩ t = true → look T t = look S.T t) → Q ⟨S.n, T, mem X⟩) : awDraw P b ⟨ops⟩ Q S := by
  refine awDraw_G (fun X γ M => M = mem X ∧ ∀ k, X k = true → dstOf ⟨ops⟩ k ≠ none → γ k = φ k) h1 h2 h3 (fun γ => ⟨h0, fun k h => by cases h⟩) ?_ ?_
  · intro X γ T M k o K hC hT hG ho hX ha hK
    obtain ⟨rfl, hγ⟩ := hG
    refine hstep X k o T K hX (fun j d he hd => ?_) (fun t ht => hT.frame' t ht) ho fun v hv => hK v _ ⟨rfl, fun j hj hd => ?_⟩
    · have hj := edge_ahead ho ha j he
      rw [← hγ j hj (by rw [hd]; simp)]
      exact hT.done j d hj hd
    · by_cases e : j = k
      · subst e
        rw [show upG γ j v j = v by simp [upG]]
        exact hv.resolve_right hd
      · rw [upX_ne e] at hj
        rw [upG_ne e]
        exact hγ j hj hd
  · intro X γ T M hX hT hG
    obtain ⟨rfl, hγ⟩ := hG
    exact hend X T hX (fun t ht => hT.frame' t ht)
end Go.Proofs.YtodbjnngkonklaaGreat

namespace Go.Proofs.YtodbjnngkonklaaGreat
open Go.RowKit
set_option linter.unusedVariables false
set_option linter.unusedSimpArgs false
set_option maxRecDepth 100000
attribute [local simp] List.getElem?_cons_zero
attribute [local irreducible] awCond awCall awLoop awDraw ow retQ retC resQ Keeps
theorem EqualP_a {M : Mem} {A B : Option Addr} {n c m d : Nat} {x y : List Pitch} (hx : Sl pitchR M A n x) (hy : Sl pitchR M B m y) (hn : n ≤ 9223372036854775807) : Det Tryz.prog M.length 112 [.slice A n c, .slice B m d] M (.bool (decide (x = y))) M := by
  have hlx := hx.1
  have hly := hy.1
  first | (refine det_fn Tryz.func112 rfl Tryz.ntmps112 Tryz.results112 rfl rfl rfl (by simp) ?_) | (refine det_fnC Tryz.func112 rfl Tryz.ntmps112 Tryz.results112 rfl rfl (by simp) ?_)
  simp
  refine awCond_split ?_ ?_ <;> intro hnm
  · simp at hnm
    simp
    exact ⟨fun e => by subst e; omega, Keeps.refl _⟩
  · simp at hnm
    obtain rfl : n = m := by omega
    simp
    refine awLoop_T (fun m T M' => ∃ k : Nat, k + m = n ∧ M' = M ∧ look T 13 = some (iv k) ∧ look T 12 = some (iv n) ∧ look T 11 = some (.slice A n c) ∧ look T 0 = some (.slice A n c) ∧ look T 1 = some (.slice B n d) ∧ x.take k = y.take k) n ⟨0, by omega, rfl, by simp, by simp, by simp, by simp, by simp, by simp⟩ ?_
    rintro m T M' ⟨k, hm, rfl, h13, h12, h11, h0, h1, hk⟩
    by_cases hlt : k < n
    · obtain ⟨id, off, rfl, he, hc⟩ := hx.at_ hlt
      obtain ⟨id', off', rfl, he', hc'⟩ := hy.at_ hlt
      simp (disch := omega) [h13, h12, h11, h0, h1, hlt, wrap_in]
      refine awDraw_E 8 [[],[],[0,1],[2,0,1],[],[],[4,5],[6,4,5],[3,2,0,1,7,6,4,5]] (by kernel_rfl) (by kernel_rfl) ?_
      simp (disch := omega) [h13, h12, h11, h0, h1, hlt, wrap_in, pitch_load hc, pitch_load hc', pitch_neq]
      refine awCond_split ?_ ?_ <;> intro he
      · simp at he
        simp
        exact ⟨fun e => he (by rw [e]), Keeps.refl _⟩
      · simp at he
        simp (disch := omega) [h13, h12, h11, h0, h1, wrap_in]
        refine lpI (m - 1) (by omega) ?_
        exact ⟨k + 1, by omega, rfl, by simp, by simp [h12], by simp [h11], by simp [h0], by simp [h1], by rw [take_el (by omega), take_el (by omega), hk, he]⟩
    · obtain rfl : k = n := by omega
      rw [List.take_of_length_le (by omega), List.take_of_length_le (by omega)] at hk
      simp [h13, h12, h11, h0, h1, hk, Keeps.refl]
set_option maxHeartbeats 1000000 in
theorem sameItem_i {M : Mem} {lo hi lo' hi' : Nat} {us vs : List Value} {x y : Item} (h : itemP.rd lo hi M x us) (h' : itemP.rd lo' hi' M y vs) : Det Tryz.prog M.length 93 [.agg us.toArray, .agg vs.toArray] M (.bool (decide (x = y))) M := by
  obtain ⟨u, rfl, hu⟩ := h
  obtain ⟨A1, n1, c1, rfl, g1, -, gS⟩ := hu
  obtain ⟨v, rfl, hv⟩ := h'
  obtain ⟨A2, n2, c2, rfl, g2, -, gT⟩ := hv
  have e3 := frac_eql ⟨x.ln, x.ld⟩ ⟨y.ln, y.ld⟩
  have e5 := interval_eql ⟨x.mt, x.mh⟩ ⟨y.mt, y.mh⟩
  simp only [interval_eq, frac_eq, Bool.decide_and] at e3 e5
  first | (refine det_fn Tryz.func93 rfl Tryz.ntmps93 Tryz.results93 rfl rfl rfl (by simp) ?_) | (refine det_fnC Tryz.func93 rfl Tryz.ntmps93 Tryz.results93 rfl rfl (by simp) ?_)
  simp
  by_cases h1 : x.j = y.j
  case neg => simp [h1, item_eq, keeps_app]
  simp [h1]
  refine awCall_det' (EqualP_a (gS.sl.app _) (gT.sl.app _) g1) (by simp) ?_
  by_cases h2 : x.ps = y.ps
  case neg => simp [h2, item_eq, keeps_app]
  simp [h2, e3]
  by_cases h3 : x.ln = y.ln
  case neg => simp [h3, item_eq, keeps_app]
  by_cases h4 : x.ld = y.ld
  case neg => simp [h3, h4, item_eq, keeps_app]
  simp [h3, h4]
  by_cases h5 : x.x = y.x
  case neg => simp [h5, item_eq, keeps_app]
  simp [h5, e5]
  by_cases h6 : x.mt = y.mt
  case neg => simp [h6, item_eq, keeps_app]
  by_cases h7 : x.mh = y.mh
  case neg => simp [h6, h7, item_eq, keeps_app]
  by_cases h8 : x.z = y.z
  · simp [h1, h2, h3, h4, h5, h6, h7, h8, item_eq, keeps_app]
  · simp [h6, h7, h8, item_eq, keeps_app]
set_option maxHeartbeats 4000000 in
theorem item_build1 (a : Int) : Instr.fill (fun x => [(0, 1), (1, 1), (2, 2), (4, 1), (5, 2), (7, 1)][x]?) #[iv 0, .slice none 0 0, iv 0, iv 0, iv 0, iv 0, iv 0, iv 0] [(0, iv a)] = some #[iv a, .slice none 0 0, iv 0, iv 0, iv 0, iv 0, iv 0, iv 0] := by kernel_rfl
def itemI (x : Item) : Bool := itemB x && (!grpB x || decide (1 ≤ x.z))
set_option maxHeartbeats 2000000 in
theorem isItem_i {M : Mem} {lo hi : Nat} {us : List Value} {x : Item} (h : itemP.rd lo hi M x us) : Det Tryz.prog M.length 60 [.agg us.toArray] M (.bool (itemI x)) M := by
  obtain ⟨u, rfl, hu⟩ := h
  have hu2 := hu
  obtain ⟨A, n, c, rfl, hn, hcn, hS⟩ := hu2
  have hl := hS.1
  first | (refine det_fn Tryz.func60 rfl Tryz.ntmps60 Tryz.results60 rfl rfl rfl (by simp) ?_) | (refine det_fnC Tryz.func60 rfl Tryz.ntmps60 Tryz.results60 rfl rfl (by simp) ?_)
  simp [item_build1]
  by_cases j1 : x.j = 1
  · simp [j1]
    refine awDraw_W (fun X => M ++ [.live ⟨[iv 1, .slice A n c, iv x.ln, iv x.ld, iv x.x, iv x.mt, iv x.mh, iv x.z], true, true, 60, 8⟩, .live ⟨[iv 1, if X 5 = true then .slice A n c else .slice none 0 0, if X 7 = true then iv x.ln else iv 0, if X 7 = true then iv x.ld else iv 0, iv 0, iv 0, iv 0, iv 0], true, true, 60, 8⟩]) (fun q => match q with
      | 0 => .pointer (some ⟨M.length, 1, none⟩)
      | 1 => .slice A n c
      | 2 => .pointer (some ⟨M.length, 2, none⟩)
      | 3 => .agg #[iv x.ln, iv x.ld]
      | 4 => .pointer (some ⟨M.length + 1, 1, none⟩)
      | 6 => .pointer (some ⟨M.length + 1, 2, none⟩)
      | _ => undef) (by kernel_rfl) (by decide +kernel) (by decide +kernel) (by first | omega | simp) ?_ ?_
    · intro X q o T K hX hp hf ho hK
      have f1 := hf 1 (by decide +kernel)
      have f3 := hf 3 (by decide +kernel)
      simp at f1 f3
      rcases q with _ | _ | _ | _ | _ | _ | _ | _ | q
      · simp at ho; subst ho
        have := hK _ (.inl rfl)
        simp (disch := omega) [f1, f3]
        simpa [upX] using this
      · simp at ho; subst ho
        have p0 := hp 0 11 (by decide +kernel) rfl
        simp only at p0
        have := hK _ (.inl rfl)
        simp (disch := omega) [f1, f3, p0]
        simpa [upX] using this
      · simp at ho; subst ho
        have := hK _ (.inl rfl)
        simp (disch := omega) [f1, f3]
        simpa [upX] using this
      · simp at ho; subst ho
        have p2 := hp 2 13 (by decide +kernel) rfl
        simp only at p2
        have := hK _ (.inl rfl)
        simp (disch := omega) [f1, f3, p2]
        simpa [upX] using this
      · simp at ho; subst ho
        have := hK _ (.inl rfl)
        simp (disch := omega) [f1, f3]
        simpa [upX] using this
      · simp at ho; subst ho
        have p4 := hp 4 15 (by decide +kernel) rfl
        have p1 := hp 1 12 (by decide +kernel) rfl
        simp only at p4 p1
        have := hK undef (.inr rfl)
        simp (disch := omega) [f1, f3, p4, p1]
        simpa [upX] using this
      · simp at ho; subst ho
        have := hK _ (.inl rfl)
        simp (disch := omega) [f1, f3]
        simpa [upX] using this
      · simp at ho; subst ho
        have p6 := hp 6 16 (by decide +kernel) rfl
        have p3 := hp 3 14 (by decide +kernel) rfl
        simp only at p6 p3
        have := hK undef (.inr rfl)
        simp (disch := omega) [f1, f3, p6, p3]
        simpa [upX] using this
      · simp at ho
    intro X T hX hf
    have f1 := hf 1 (by decide +kernel)
    have f3 := hf 3 (by decide +kernel)
    have f2 := hf 2 (by decide +kernel)
    simp at f1 f3 f2
    have x5 := hX 5 (by decide)
    have x7 := hX 7 (by decide)
    simp (disch := omega) [f1, f3, f2, x5, x7]
    refine awCall_det' (areChord_i (hS.sl.app _) hn) (by first | omega | simp) ?_
    by_cases g1 : chordB x.ps = true
    case neg =>
      have e : itemI x = false := by simp [itemI, itemB, grpB, j1, g1]
      simp (disch := omega) [g1, e, keeps_app, f1, f3, f2]
    try simp (disch := omega) [g1, f1, f3, f2]
    refine awCall_det' (isLength_i x.len) (by first | omega | simp) ?_
    by_cases g2 : lenB x.len = true
    case neg =>
      have e : itemI x = false := by simp [itemI, itemB, grpB, j1, g1, g2]
      simp (disch := omega) [g2, e, keeps_app, f1, f3, f2]
    try simp (disch := omega) [g2, f1, f3, f2]
    have hxr : itemP.rd lo hi (M ++ [.live ⟨[iv 1, .slice A n c, iv x.ln, iv x.ld, iv x.x, iv x.mt, iv x.mh, iv x.z], true, true, 60, 8⟩, .live ⟨[iv 1, .slice A n c, iv x.ln, iv x.ld, iv 0, iv 0, iv 0, iv 0], true, true, 60, 8⟩]) x [iv 1, .slice A n c, iv x.ln, iv x.ld, iv x.x, iv x.mt, iv x.mh, iv x.z] := ⟨_, by rw [j1], hu.app _⟩
    have hpr : itemP.rd lo hi (M ++ [.live ⟨[iv 1, .slice A n c, iv x.ln, iv x.ld, iv x.x, iv x.mt, iv x.mh, iv x.z], true, true, 60, 8⟩, .live ⟨[iv 1, .slice A n c, iv x.ln, iv x.ld, iv 0, iv 0, iv 0, iv 0], true, true, 60, 8⟩]) ⟨1, x.ps, x.ln, x.ld, 0, 0, 0, 0⟩ [iv 1, .slice A n c, iv x.ln, iv x.ld, iv 0, iv 0, iv 0, iv 0] := ⟨_, rfl, hu.app _⟩
    have e : itemI x = decide (x = ⟨1, x.ps, x.ln, x.ld, 0, 0, 0, 0⟩) := by
      rw [Bool.eq_iff_iff]
      simp [itemI, itemB, grpB, j1, g1, g2, item_eq, and_assoc]
      try omega
    rw [e]
    refine awCall_det' (sameItem_i hxr hpr) (by first | omega | simp) ?_
    simp [keeps_app]
  simp [j1]
  by_cases j2 : x.j = 2
  · simp [j2]
    refine awCall_det' (isLength_i x.len) (by first | omega | simp) ?_
    by_cases g1 : lenB x.len = true
    case neg =>
      have e : itemI x = false := by simp [itemI, itemB, grpB, j1, j2, g1]
      simp (disch := omega) [g1, e, keeps_app]
    try simp (disch := omega) [g1]
    have hxr : itemP.rd lo hi (M ++ [.live ⟨[iv 2, .slice A n c, iv x.ln, iv x.ld, iv x.x, iv x.mt, iv x.mh, iv x.z], true, true, 60, 8⟩, .live ⟨[iv 2, .slice none 0 0, iv x.ln, iv x.ld, iv 0, iv 0, iv 0, iv 0], true, true, 60, 8⟩]) x [iv 2, .slice A n c, iv x.ln, iv x.ld, iv x.x, iv x.mt, iv x.mh, iv x.z] := ⟨_, by rw [j2], hu.app _⟩
    have hpr : itemP.rd lo hi (M ++ [.live ⟨[iv 2, .slice A n c, iv x.ln, iv x.ld, iv x.x, iv x.mt, iv x.mh, iv x.z], true, true, 60, 8⟩, .live ⟨[iv 2, .slice none 0 0, iv x.ln, iv x.ld, iv 0, iv 0, iv 0, iv 0], true, true, 60, 8⟩]) ⟨2, [], x.ln, x.ld, 0, 0, 0, 0⟩ [iv 2, .slice none 0 0, iv x.ln, iv x.ld, iv 0, iv 0, iv 0, iv 0] := ⟨_, rfl, .nil⟩
    have e : itemI x = decide (x = ⟨2, [], x.ln, x.ld, 0, 0, 0, 0⟩) := by
      rw [Bool.eq_iff_iff]
      simp [itemI, itemB, grpB, j1, j2, g1, item_eq, and_assoc]
      try omega
    rw [e]
    refine awCall_det' (sameItem_i hxr hpr) (by first | omega | simp) ?_
    simp [keeps_app]
  simp [j2]
  by_cases j3 : x.j = 3
  · simp [j3]
    refine awCall_det' (within_a _ _ _) (by first | omega | simp) ?_
    by_cases g1 : inB x.x 1 127 = true
    case neg =>
      have e : itemI x = false := by simp [itemI, itemB, grpB, j1, j2, j3, g1]
      simp (disch := omega) [g1, e, keeps_app]
    try simp (disch := omega) [g1]
    have hxr : itemP.rd lo hi (M ++ [.live ⟨[iv 3, .slice A n c, iv x.ln, iv x.ld, iv x.x, iv x.mt, iv x.mh, iv x.z], true, true, 60, 8⟩, .live ⟨[iv 3, .slice none 0 0, iv 0, iv 0, iv x.x, iv 0, iv 0, iv 0], true, true, 60, 8⟩]) x [iv 3, .slice A n c, iv x.ln, iv x.ld, iv x.x, iv x.mt, iv x.mh, iv x.z] := ⟨_, by rw [j3], hu.app _⟩
    have hpr : itemP.rd lo hi (M ++ [.live ⟨[iv 3, .slice A n c, iv x.ln, iv x.ld, iv x.x, iv x.mt, iv x.mh, iv x.z], true, true, 60, 8⟩, .live ⟨[iv 3, .slice none 0 0, iv 0, iv 0, iv x.x, iv 0, iv 0, iv 0], true, true, 60, 8⟩]) ⟨3, [], 0, 0, x.x, 0, 0, 0⟩ [iv 3, .slice none 0 0, iv 0, iv 0, iv x.x, iv 0, iv 0, iv 0] := ⟨_, rfl, .nil⟩
    have e : itemI x = decide (x = ⟨3, [], 0, 0, x.x, 0, 0, 0⟩) := by
      rw [Bool.eq_iff_iff]
      simp [itemI, itemB, grpB, j1, j2, j3, g1, item_eq, and_assoc]
      try omega
    rw [e]
    refine awCall_det' (sameItem_i hxr hpr) (by first | omega | simp) ?_
    simp [keeps_app]
  simp [j3]
  by_cases j4 : x.j = 4
  · simp [j4]
    refine awDraw_W (fun X => M ++ [.live ⟨[iv 4, .slice A n c, iv x.ln, iv x.ld, iv x.x, iv x.mt, iv x.mh, iv x.z], true, true, 60, 8⟩, .live ⟨[iv 4, .slice none 0 0, iv 0, iv 0, if X 5 = true then iv x.x else iv 0, iv 0, iv 0, if X 7 = true then iv x.z else iv 0], true, true, 60, 8⟩]) (fun q => match q with
      | 0 => .pointer (some ⟨M.length, 4, none⟩)
      | 1 => iv x.x
      | 2 => .pointer (some ⟨M.length, 7, none⟩)
      | 3 => iv x.z
      | 4 => .pointer (some ⟨M.length + 1, 4, none⟩)
      | 6 => .pointer (some ⟨M.length + 1, 7, none⟩)
      | _ => undef) (by kernel_rfl) (by decide +kernel) (by decide +kernel) (by first | omega | simp) ?_ ?_
    · intro X q o T K hX hp hf ho hK
      have f1 := hf 1 (by decide +kernel)
      have f3 := hf 3 (by decide +kernel)
      simp at f1 f3
      rcases q with _ | _ | _ | _ | _ | _ | _ | _ | q
      · simp at ho; subst ho
        have := hK _ (.inl rfl)
        simp (disch := omega) [f1, f3]
        simpa [upX] using this
      · simp at ho; subst ho
        have p0 := hp 0 47 (by decide +kernel) rfl
        simp only at p0
        have := hK _ (.inl rfl)
        simp (disch := omega) [f1, f3, p0]
        simpa [upX] using this
      · simp at ho; subst ho
        have := hK _ (.inl rfl)
        simp (disch := omega) [f1, f3]
        simpa [upX] using this
      · simp at ho; subst ho
        have p2 := hp 2 49 (by decide +kernel) rfl
        simp only at p2
        have := hK _ (.inl rfl)
        simp (disch := omega) [f1, f3, p2]
        simpa [upX] using this
      · simp at ho; subst ho
        have := hK _ (.inl rfl)
        simp (disch := omega) [f1, f3]
        simpa [upX] using this
      · simp at ho; subst ho
        have p4 := hp 4 51 (by decide +kernel) rfl
        have p1 := hp 1 48 (by decide +kernel) rfl
        simp only at p4 p1
        have := hK undef (.inr rfl)
        simp (disch := omega) [f1, f3, p4, p1]
        simpa [upX] using this
      · simp at ho; subst ho
        have := hK _ (.inl rfl)
        simp (disch := omega) [f1, f3]
        simpa [upX] using this
      · simp at ho; subst ho
        have p6 := hp 6 52 (by decide +kernel) rfl
        have p3 := hp 3 50 (by decide +kernel) rfl
        simp only at p6 p3
        have := hK undef (.inr rfl)
        simp (disch := omega) [f1, f3, p6, p3]
        simpa [upX] using this
      · simp at ho
    intro X T hX hf
    have f1 := hf 1 (by decide +kernel)
    have f3 := hf 3 (by decide +kernel)
    have f2 := hf 2 (by decide +kernel)
    simp at f1 f3 f2
    have x5 := hX 5 (by decide)
    have x7 := hX 7 (by decide)
    simp (disch := omega) [f1, f3, f2, x5, x7]
    refine awCall_det' (within_a _ _ _) (by first | omega | simp) ?_
    by_cases g1 : inB x.x 2 8 = true
    case neg =>
      have e : itemI x = false := by simp [itemI, itemB, grpB, j1, j2, j3, j4, g1]
      simp (disch := omega) [g1, e, keeps_app, f1, f3, f2]
    try simp (disch := omega) [g1, f1, f3, f2]
    by_cases g2L : x.z < 1
    case pos =>
      have g2 : ¬ 1 ≤ x.z := by omega
      have e : itemI x = false := by simp [itemI, itemB, grpB, j1, j2, j3, j4, g1, g2]
      simp (disch := omega) [g2L, e, keeps_app, f1, f3, f2]
    have g2 : 1 ≤ x.z := by omega
    try simp (disch := omega) [g2L, f1, f3, f2]
    have hxr : itemP.rd lo hi (M ++ [.live ⟨[iv 4, .slice A n c, iv x.ln, iv x.ld, iv x.x, iv x.mt, iv x.mh, iv x.z], true, true, 60, 8⟩, .live ⟨[iv 4, .slice none 0 0, iv 0, iv 0, iv x.x, iv 0, iv 0, iv x.z], true, true, 60, 8⟩]) x [iv 4, .slice A n c, iv x.ln, iv x.ld, iv x.x, iv x.mt, iv x.mh, iv x.z] := ⟨_, by rw [j4], hu.app _⟩
    have hpr : itemP.rd lo hi (M ++ [.live ⟨[iv 4, .slice A n c, iv x.ln, iv x.ld, iv x.x, iv x.mt, iv x.mh, iv x.z], true, true, 60, 8⟩, .live ⟨[iv 4, .slice none 0 0, iv 0, iv 0, iv x.x, iv 0, iv 0, iv x.z], true, true, 60, 8⟩]) ⟨4, [], 0, 0, x.x, 0, 0, x.z⟩ [iv 4, .slice none 0 0, iv 0, iv 0, iv x.x, iv 0, iv 0, iv x.z] := ⟨_, rfl, .nil⟩
    have e : itemI x = decide (x = ⟨4, [], 0, 0, x.x, 0, 0, x.z⟩) := by
      rw [Bool.eq_iff_iff]
      simp [itemI, itemB, grpB, j1, j2, j3, j4, g1, g2, item_eq, and_assoc]
      try omega
    rw [e]
    refine awCall_det' (sameItem_i hxr hpr) (by first | omega | simp) ?_
    simp [keeps_app]
  simp [j4]
  by_cases j5 : x.j = 5
  · simp [j5]
    refine awDraw_W (fun X => M ++ [.live ⟨[iv 5, .slice A n c, iv x.ln, iv x.ld, iv x.x, iv x.mt, iv x.mh, iv x.z], true, true, 60, 8⟩, .live ⟨[iv 5, .slice none 0 0, iv 0, iv 0, iv 0, if X 5 = true then iv x.mt else iv 0, if X 5 = true then iv x.mh else iv 0, if X 7 = true then iv x.z else iv 0], true, true, 60, 8⟩]) (fun q => match q with
      | 0 => .pointer (some ⟨M.length, 5, none⟩)
      | 1 => .agg #[iv x.mt, iv x.mh]
      | 2 => .pointer (some ⟨M.length, 7, none⟩)
      | 3 => iv x.z
      | 4 => .pointer (some ⟨M.length + 1, 5, none⟩)
      | 6 => .pointer (some ⟨M.length + 1, 7, none⟩)
      | _ => undef) (by kernel_rfl) (by decide +kernel) (by decide +kernel) (by first | omega | simp) ?_ ?_
    · intro X q o T K hX hp hf ho hK
      have f1 := hf 1 (by decide +kernel)
      have f3 := hf 3 (by decide +kernel)
      simp at f1 f3
      rcases q with _ | _ | _ | _ | _ | _ | _ | _ | q
      · simp at ho; subst ho
        have := hK _ (.inl rfl)
        simp (disch := omega) [f1, f3]
        simpa [upX] using this
      · simp at ho; subst ho
        have p0 := hp 0 64 (by decide +kernel) rfl
        simp only at p0
        have := hK _ (.inl rfl)
        simp (disch := omega) [f1, f3, p0]
        simpa [upX] using this
      · simp at ho; subst ho
        have := hK _ (.inl rfl)
        simp (disch := omega) [f1, f3]
        simpa [upX] using this
      · simp at ho; subst ho
        have p2 := hp 2 66 (by decide +kernel) rfl
        simp only at p2
        have := hK _ (.inl rfl)
        simp (disch := omega) [f1, f3, p2]
        simpa [upX] using this
      · simp at ho; subst ho
        have := hK _ (.inl rfl)
        simp (disch := omega) [f1, f3]
        simpa [upX] using this
      · simp at ho; subst ho
        have p4 := hp 4 68 (by decide +kernel) rfl
        have p1 := hp 1 65 (by decide +kernel) rfl
        simp only at p4 p1
        have := hK undef (.inr rfl)
        simp (disch := omega) [f1, f3, p4, p1]
        simpa [upX] using this
      · simp at ho; subst ho
        have := hK _ (.inl rfl)
        simp (disch := omega) [f1, f3]
        simpa [upX] using this
      · simp at ho; subst ho
        have p6 := hp 6 69 (by decide +kernel) rfl
        have p3 := hp 3 67 (by decide +kernel) rfl
        simp only at p6 p3
        have := hK undef (.inr rfl)
        simp (disch := omega) [f1, f3, p6, p3]
        simpa [upX] using this
      · simp at ho
    intro X T hX hf
    have f1 := hf 1 (by decide +kernel)
    have f3 := hf 3 (by decide +kernel)
    have f2 := hf 2 (by decide +kernel)
    simp at f1 f3 f2
    have x5 := hX 5 (by decide)
    have x7 := hX 7 (by decide)
    simp (disch := omega) [f1, f3, f2, x5, x7]
    refine awCall_det' (isInterval_i x.mv) (by first | omega | simp) ?_
    by_cases g1 : intervalB x.mv = true
    case neg =>
      have e : itemI x = false := by simp [itemI, itemB, grpB, j1, j2, j3, j4, j5, g1]
      simp (disch := omega) [g1, e, keeps_app, f1, f3, f2]
    try simp (disch := omega) [g1, f1, f3, f2]
    by_cases g2L : x.z < 1
    case pos =>
      have g2 : ¬ 1 ≤ x.z := by omega
      have e : itemI x = false := by simp [itemI, itemB, grpB, j1, j2, j3, j4, j5, g1, g2]
      simp (disch := omega) [g2L, e, keeps_app, f1, f3, f2]
    have g2 : 1 ≤ x.z := by omega
    try simp (disch := omega) [g2L, f1, f3, f2]
    have hxr : itemP.rd lo hi (M ++ [.live ⟨[iv 5, .slice A n c, iv x.ln, iv x.ld, iv x.x, iv x.mt, iv x.mh, iv x.z], true, true, 60, 8⟩, .live ⟨[iv 5, .slice none 0 0, iv 0, iv 0, iv 0, iv x.mt, iv x.mh, iv x.z], true, true, 60, 8⟩]) x [iv 5, .slice A n c, iv x.ln, iv x.ld, iv x.x, iv x.mt, iv x.mh, iv x.z] := ⟨_, by rw [j5], hu.app _⟩
    have hpr : itemP.rd lo hi (M ++ [.live ⟨[iv 5, .slice A n c, iv x.ln, iv x.ld, iv x.x, iv x.mt, iv x.mh, iv x.z], true, true, 60, 8⟩, .live ⟨[iv 5, .slice none 0 0, iv 0, iv 0, iv 0, iv x.mt, iv x.mh, iv x.z], true, true, 60, 8⟩]) ⟨5, [], 0, 0, 0, x.mt, x.mh, x.z⟩ [iv 5, .slice none 0 0, iv 0, iv 0, iv 0, iv x.mt, iv x.mh, iv x.z] := ⟨_, rfl, .nil⟩
    have e : itemI x = decide (x = ⟨5, [], 0, 0, 0, x.mt, x.mh, x.z⟩) := by
      rw [Bool.eq_iff_iff]
      simp [itemI, itemB, grpB, j1, j2, j3, j4, j5, g1, g2, item_eq, and_assoc]
      try omega
    rw [e]
    refine awCall_det' (sameItem_i hxr hpr) (by first | omega | simp) ?_
    simp [keeps_app]
  have e : itemI x = false := by unfold itemI itemB; rw [if_neg j1, if_neg j2, if_neg j3, if_neg j4, if_neg j5]; rfl
  simp [j5, e, keeps_app]
end Go.Proofs.YtodbjnngkonklaaGreat

namespace Go.Proofs.YtodbjnngkonklaaGreat
open Go.RowKit
set_option linter.unusedVariables false
set_option linter.unusedSimpArgs false
set_option maxRecDepth 100000
attribute [local simp] List.getElem?_cons_zero
attribute [local irreducible] awCond awCall awLoop awDraw ow retQ retC resQ Keeps
def scanI (d : Nat) : List Item → Bool
  | [] => true
  | x :: r => itemB x && (if grpB x = true then decide (0 < d) && (inB x.z 1 r.length && (scanI (d - 1) (r.take x.z.toNat) && scanI d (r.drop x.z.toNat))) else scanI d r)
termination_by l => l.length
decreasing_by
  · simp only [List.length_take, List.length_cons]; omega
  · simp only [List.length_drop, List.length_cons]; omega
  · simp
def okI (l : List Item) : Bool := decide (l.length ≤ 80) && scanI 3 l
theorem scanI_nil (d : Nat) : scanI d [] = true := by rw [scanI]
theorem scanI_cons (d : Nat) (x : Item) (r : List Item) : scanI d (x :: r) = (itemB x && (if grpB x = true then decide (0 < d) && (inB x.z 1 r.length && (scanI (d - 1) (r.take x.z.toNat) && scanI d (r.drop x.z.toNat))) else scanI d r)) := by rw [scanI]
theorem scanI_all : ∀ (N d : Nat) (l : List Item), l.length ≤ N → scanI d l = true → ∀ x, x ∈ l → itemI x = true := by
  intro N
  induction N with
  | zero =>
    intro d l hl _ x hx
    obtain rfl : l = [] := List.eq_nil_of_length_eq_zero (by omega)
    cases hx
  | succ N ih =>
    intro d l hl h x hx
    cases l with
    | nil => cases hx
    | cons y r =>
      simp only [List.length_cons] at hl
      rw [scanI_cons, Bool.and_eq_true] at h
      obtain ⟨h1, h2⟩ := h
      by_cases hg : grpB y = true
      · rw [if_pos hg] at h2
        simp only [Bool.and_eq_true, decide_eq_true_eq] at h2
        obtain ⟨h3, h4, h5, h6⟩ := h2
        have h4 := inB_iff.1 h4
        rcases List.mem_cons.1 hx with rfl | hx
        · unfold itemI
          rw [h1, hg]
          simp
          omega
        · rw [← List.take_append_drop y.z.toNat r] at hx
          rcases List.mem_append.1 hx with hx | hx
          · exact ih _ _ (by rw [List.length_take]; omega) h5 x hx
          · exact ih _ _ (by rw [List.length_drop]; omega) h6 x hx
      · rw [if_neg hg] at h2
        rcases List.mem_cons.1 hx with rfl | hx
        · unfold itemI
          rw [h1]
          simp [hg]
        · exact ih _ _ (by omega) h2 x hx
/-- The items from one place to another one. -/
def subI (l : List Item) (a b : Nat) : List Item := (l.drop a).take (b - a)
theorem subI_cons {l : List Item} {i b : Nat} (hi : i < b) (hb : b ≤ l.length) : subI l i b = el l i :: subI l (i + 1) b := by
  unfold subI
  rw [drop_el (by omega), show b - i = (b - (i + 1)) + 1 by omega, List.take_succ_cons]
theorem subI_len {l : List Item} {i b : Nat} (hi : i ≤ b) (hb : b ≤ l.length) : (subI l i b).length = b - i := by
  unfold subI
  rw [List.length_take, List.length_drop]
  omega
theorem subI_take {l : List Item} {i b z : Nat} (hz : i + z ≤ b) : (subI l i b).take z = subI l i (i + z) := by
  unfold subI
  rw [List.take_take]
  congr 1
  omega
theorem subI_drop {l : List Item} {i b z : Nat} : (subI l i b).drop z = subI l (i + z) b := by
  unfold subI
  rw [List.drop_take, List.drop_drop]
  congr 1
  omega
theorem subI_nil {l : List Item} {i : Nat} : subI l i i = [] := by unfold subI; simp
theorem subI_all {l : List Item} : subI l 0 l.length = l := by unfold subI; simp
theorem l19Group_s {M : Mem} {id off : Nat} {x : Item} (c0 : cellAt M id off = some (iv x.j)) : Det Tryz.prog M.length 97 [.pointer (some ⟨id, off, none⟩)] M (.bool (grpB x)) M := by
  first | (refine det_fn Tryz.func97 rfl Tryz.ntmps97 Tryz.results97 rfl rfl rfl (by simp) ?_) | (refine det_fnC Tryz.func97 rfl Tryz.ntmps97 Tryz.results97 rfl rfl (by simp) ?_)
  simp [c0]
  by_cases h1 : x.j = 4
  · simp [h1, grpB, Keeps.refl]
  · simp [h1, grpB, Keeps.refl, c0]
def RangeTo (N : Nat) : Prop := ∀ (M : Mem) (A : Option Addr) (n c : Nat) (l : List Item) (lo hi a b d : Nat), SlP itemP lo hi M A n l → n ≤ 1048576 → a ≤ b → b ≤ n → d ≤ 3 → b - a < N →
  Det Tryz.prog M.length 64 [.slice A n c, iv a, iv b, iv d] M (.bool (scanI (3 - d) (subI l a b))) M
set_option maxHeartbeats 2000000 in
theorem range_step {N : Nat} (hN : RangeTo N) : RangeTo (N + 1) := by
  intro M A n c l lo hi a b d h hn hab hb hd hlt
  have hl := h.1
  first | (refine det_fn Tryz.func64 rfl Tryz.ntmps64 Tryz.results64 rfl rfl rfl (by simp) ?_) | (refine det_fnC Tryz.func64 rfl Tryz.ntmps64 Tryz.results64 rfl rfl (by simp) ?_)
  simp
  refine awLoop_T (fun m T M' => ∃ i : Nat, a ≤ i ∧ i + m = b ∧ M' = M ∧ scanI (3 - d) (subI l a b) = scanI (3 - d) (subI l i b) ∧ look T 9 = some (iv i) ∧ look T 0 = some (.slice A n c) ∧ look T 2 = some (iv b) ∧ look T 3 = some (iv d)) (b - a) ⟨a, Nat.le_refl _, by omega, rfl, rfl, by simp, by simp, by simp, by simp⟩ ?_
  rintro m T M' ⟨i, hai, hm, rfl, hs, t9, t0, t2, t3⟩
  by_cases hib : i < b
  case neg =>
    obtain rfl : i = b := by omega
    rw [hs, subI_nil, scanI_nil]
    simp (disch := omega) [t9, t0, t2, t3, Keeps.refl]
  have hib' : (i : Int) < b := by omega
  have hin : (i : Int) < n := by omega
  obtain ⟨id, off, us, rfl, he, hrd, hc⟩ := h.at_ (show i < n by omega)
  have hrd2 := hrd
  obtain ⟨A1, n1, c1', hu, hus, c0, c1, c2, c4, c5, c7, c8⟩ := item_cells hrd2 hc
  have hcons := subI_cons (l := l) hib (by omega)
  have hrl : (subI l (i + 1) b).length = b - (i + 1) := subI_len (by omega) (by omega)
  rw [hcons, scanI_cons] at hs
  simp (disch := omega) [t9, t0, t2, t3, hib, hib', hin, he]
  refine awCall_det' (l19Item_s hrd hc) (by omega) ?_
  by_cases h1 : itemB (el l i) = true
  case neg =>
    rw [hs]
    simp (disch := omega) [h1, Keeps.refl]
  simp (disch := omega) [h1, t9, t0, t2, t3, hib, hib', hin, he]
  refine awCall_det' (l19Group_s c0) (by omega) ?_
  rw [h1, Bool.true_and] at hs
  by_cases hg : grpB (el l i) = true
  case neg =>
    rw [if_neg hg] at hs
    simp (disch := omega) [hg, t9, t0, t2, t3, wrap_in]
    exact lpI (m - 1) (by omega) ⟨i + 1, by omega, by omega, rfl, hs, by simp, by simp [t0], by simp [t2], by simp [t3]⟩
  rw [if_pos hg] at hs
  by_cases hd3 : 3 ≤ d
  · have hd3' : (3 : Int) ≤ d := by omega
    have : ¬ 0 < 3 - d := by omega
    rw [hs]
    simp (disch := omega) [hg, t9, t0, t2, t3, hd3, hd3', this, Keeps.refl]
  have hd3' : ¬ (3 : Int) ≤ d := by omega
  have hd0 : decide (0 < 3 - d) = true := decide_eq_true (by omega)
  rw [hd0, Bool.true_and, hrl] at hs
  simp (disch := omega) [hg, t9, t0, t2, t3, hd3, hd3', c7, wrap_in]
  refine awCall_det' (l00In_a _ _ _) (by omega) ?_
  have eI : inB (el l i).z 1 ((b - (i + 1) : Nat) : Int) = inB (el l i).z 1 ((b : Int) - i - 1) := by congr 1; omega
  rw [eI] at hs
  by_cases hz : inB (el l i).z 1 ((b : Int) - i - 1) = true
  case neg =>
    rw [hs]
    simp (disch := omega) [hz, t9, t0, t2, t3, Keeps.refl]
  have hzb := inB_iff.1 hz
  obtain ⟨z, hz2⟩ : ∃ z : Nat, (el l i).z = z := ⟨(el l i).z.toNat, by omega⟩
  rw [hz, Bool.true_and, hz2, Int.toNat_natCast, subI_take (by omega), subI_drop] at hs
  rw [hz2] at c7
  simp (disch := omega) [hz, t9, t0, t2, t3, c7, wrap_in]
  have hcall := hN M' (some ⟨id, off, none⟩) n c l lo hi (i + 1) (i + 1 + z) (d + 1) h hn (by omega) (by omega) (by omega) (by omega)
  push_cast at hcall
  refine awCall_det' hcall (by omega) ?_
  rw [show 3 - d - 1 = 2 - d by omega] at hs
  by_cases hr : scanI (2 - d) (subI l (i + 1) (i + 1 + z)) = true
  case neg =>
    rw [hs]
    simp (disch := omega) [hr, t9, t0, t2, t3, Keeps.refl]
  rw [hr, Bool.true_and] at hs
  simp (disch := omega) [hr, t9, t0, t2, t3, c7, wrap_in]
  exact lpI (m - 1 - z) (by omega) ⟨i + 1 + z, by omega, by omega, rfl, hs, by simp; omega, by simp [t0], by simp [t2], by simp [t3]⟩
theorem range_to : ∀ N, RangeTo N
  | 0 => fun M A n c l lo hi a b d _ _ _ _ _ h => by omega
  | N + 1 => range_step (range_to N)
theorem l19Ok_s {M : Mem} {A : Option Addr} {n c lo hi : Nat} {l : List Item} (h : SlP itemP lo hi M A n l) (hn : n ≤ 1048576) : Det Tryz.prog M.length 31 [.slice A n c] M (.bool (okI l)) M := by
  have hl := h.1
  first | (refine det_fn Tryz.func31 rfl Tryz.ntmps31 Tryz.results31 rfl rfl rfl (by simp) ?_) | (refine det_fnC Tryz.func31 rfl Tryz.ntmps31 Tryz.results31 rfl rfl (by simp) ?_)
  simp
  by_cases h1 : n ≤ 80
  · have h1' : (n : Int) ≤ 80 := by omega
    simp [h1, h1']
    have hcall := range_to (n + 1) M A n c l lo hi 0 n 0 h hn (by omega) (by omega) (by omega) (by omega)
    rw [show subI l 0 n = l by rw [← hl]; exact subI_all] at hcall
    refine awCall_det' hcall (by omega) ?_
    simp [okI, hl, h1, Keeps.refl]
  · have h1' : ¬ (n : Int) ≤ 80 := by omega
    simp [h1, h1', okI, hl, Keeps.refl]
end Go.Proofs.YtodbjnngkonklaaGreat

namespace Go.Proofs.YtodbjnngkonklaaGreat
open Go.RowKit
set_option linter.unusedVariables false
set_option linter.unusedSimpArgs false
set_option maxRecDepth 100000
attribute [local simp] List.getElem?_cons_zero
attribute [local irreducible] awCond awCall awLoop awDraw ow retQ retC resQ Keeps
theorem sizeItem_a {M : Mem} {A : Option Addr} {n c : Nat} : Det Tryz.prog M.length 94 [.slice A n c] M (iv n) M := by
  first | (refine det_fn Tryz.func94 rfl Tryz.ntmps94 Tryz.results94 rfl rfl rfl (by simp) ?_) | (refine det_fnC Tryz.func94 rfl Tryz.ntmps94 Tryz.results94 rfl rfl (by simp) ?_)
  simp [Keeps.refl]
theorem isGroup_i {M : Mem} {lo hi : Nat} {us : List Value} {x : Item} (h : itemP.rd lo hi M x us) : Det Tryz.prog M.length 33 [.agg us.toArray] M (.bool (grpB x)) M := by
  obtain ⟨u, rfl, hu⟩ := h
  obtain ⟨A, n, c, rfl⟩ := hu.isSl
  first | (refine det_fn Tryz.func33 rfl Tryz.ntmps33 Tryz.results33 rfl rfl rfl (by simp) ?_) | (refine det_fnC Tryz.func33 rfl Tryz.ntmps33 Tryz.results33 rfl rfl (by simp) ?_)
  simp
  by_cases h1 : x.j = 4
  · simp [h1, grpB, keeps_app]
  · simp [h1, grpB, keeps_app]
theorem SlP.part {α : Type} {k : Nat} [Inhabited α] {P : RecP α k} {M : Mem} {id off n lo hi a b : Nat} {l : List α} (h : SlP P lo hi M (some ⟨id, off, none⟩) n l) (hab : a ≤ b) (hb : b ≤ n) : SlP P lo hi M (some ⟨id, off + a * k, none⟩) (b - a) ((l.drop a).take (b - a)) := by
  have hl := h.1
  refine ⟨by rw [List.length_take, List.length_drop]; omega, fun hp => ?_⟩
  obtain ⟨_, _, e, h1, h2, h3, h4⟩ := h.2 (by omega)
  cases e
  refine ⟨id, off + a * k, rfl, h1, h2, h3, fun i hi => ?_⟩
  obtain ⟨us, q1, q2⟩ := h4 (a + i) (by omega)
  refine ⟨us, ?_, ?_⟩
  · have : el ((l.drop a).take (b - a)) i = el l (a + i) := by
      simp [el, List.getElem?_take, hi]
    rw [this]
    exact q1
  · rw [show off + a * k + i * k = off + (a + i) * k by rw [Nat.add_mul]; omega]
    exact q2
def NestTo (N : Nat) : Prop := ∀ (M : Mem) (A : Option Addr) (n c : Nat) (l : List Item) (lo hi g : Nat), SlP itemP lo hi M A n l → n ≤ 1048576 → g ≤ 3 → n < N → (∀ x, x ∈ l → itemI x = true) →
  Det Tryz.prog M.length 61 [.slice A n c, iv g] M (.bool (scanI (3 - g) l)) M
theorem nest4 {M : Mem} {A : Option Addr} {n c : Nat} (hn : 1 ≤ n) : Det Tryz.prog M.length 61 [.slice A n c, iv 4] M (.bool false) M := by
  first | (refine det_fn Tryz.func61 rfl Tryz.ntmps61 Tryz.results61 rfl rfl rfl (by simp) ?_) | (refine det_fnC Tryz.func61 rfl Tryz.ntmps61 Tryz.results61 rfl rfl (by simp) ?_)
  simp
  exact ⟨by omega, Keeps.refl _⟩
set_option maxHeartbeats 2000000 in
theorem nest_step {N : Nat} (hN : NestTo N) : NestTo (N + 1) := by
  intro M A n c l lo hi g h hn hg hlt hv
  have hl := h.1
  have hg' : ¬ (3 : Int) < g := by omega
  first | (refine det_fn Tryz.func61 rfl Tryz.ntmps61 Tryz.results61 rfl rfl rfl (by simp) ?_) | (refine det_fnC Tryz.func61 rfl Tryz.ntmps61 Tryz.results61 rfl rfl (by simp) ?_)
  simp [hg']
  refine awLoop_T (fun m T M' => ∃ i : Nat, i + m = n ∧ M' = M ∧ scanI (3 - g) l = scanI (3 - g) (subI l i n) ∧ look T 5 = some (iv i) ∧ look T 0 = some (.slice A n c) ∧ look T 1 = some (iv g)) n ⟨0, by omega, rfl, by rw [show subI l 0 n = l by rw [← hl]; exact subI_all], by simp, by simp, by simp⟩ ?_
  rintro m T M' ⟨i, hm, rfl, hs, t5, t0, t1⟩
  simp (disch := omega) [t5, t0, t1]
  refine awCall_det' sizeItem_a (by omega) ?_
  by_cases hib : i < n
  case neg =>
    obtain rfl : i = n := by omega
    rw [hs, subI_nil, scanI_nil]
    simp (disch := omega) [t5, t0, t1, Keeps.refl]
  have hib' : (i : Int) < n := by omega
  obtain ⟨id, off, us, rfl, he, hrd, hc⟩ := h.at_ hib
  have hrd2 := hrd
  obtain ⟨A1, n1, c1', hu, hus, c0, c1, c2, c4, c5, c7, c8⟩ := item_cells hrd2 hc
  have hcons := subI_cons (l := l) hib (by omega)
  have hrl : (subI l (i + 1) n).length = n - (i + 1) := subI_len (by omega) (by omega)
  have hiI := hv _ (el_mem (show i < l.length by omega))
  unfold itemI at hiI
  rw [Bool.and_eq_true] at hiI
  obtain ⟨h1, h2⟩ := hiI
  rw [hcons, scanI_cons, h1, Bool.true_and] at hs
  simp (disch := omega) [t5, t0, t1, hib, hib', he, c8]
  refine awCall_det' (isGroup_i hrd) (by omega) ?_
  by_cases hg2 : grpB (el l i) = true
  case neg =>
    rw [if_neg hg2] at hs
    simp (disch := omega) [hg2, t5, t0, t1, wrap_in]
    exact lpI (m - 1) (by omega) ⟨i + 1, by omega, rfl, hs, by simp, by simp [t0], by simp [t1]⟩
  have hz1 : 1 ≤ (el l i).z := by simpa [hg2] using h2
  rw [if_pos hg2, hrl] at hs
  simp (disch := omega) [hg2, t5, t0, t1, hib, hib', c7, wrap_in]
  refine awCall_det' sizeItem_a (by omega) ?_
  have eI : inB (el l i).z 1 ((n - (i + 1) : Nat) : Int) = decide ((el l i).z ≤ (n : Int) - i - 1) := by
    unfold inB
    rw [decide_eq_true hz1, Bool.true_and]
    exact decide_eq_decide.2 (by omega)
  rw [eI] at hs
  by_cases hz : (el l i).z ≤ (n : Int) - i - 1
  case neg =>
    have hz' : (n : Int) - i - 1 < (el l i).z := by omega
    rw [hs]
    simp (disch := omega) [hz, hz', t5, t0, t1, wrap_in, Keeps.refl]
  have hz' : ¬ (n : Int) - i - 1 < (el l i).z := by omega
  obtain ⟨z, hz2⟩ : ∃ z : Nat, (el l i).z = z := ⟨(el l i).z.toNat, by omega⟩
  rw [decide_eq_true hz, Bool.true_and, hz2, Int.toNat_natCast, subI_take (by omega), subI_drop] at hs
  rw [hz2] at c7 hz1 hz hz'
  simp (disch := omega) [hz2, hz, hz', t5, t0, t1, wrap_in, he]
  have ez : ((i : Int) + 1 + z).toNat - (i + 1) = z := by omega
  rw [ez]
  refine ⟨by omega, ?_⟩
  by_cases hg3 : g = 3
  · subst hg3
    refine awCall_det' (nest4 (M := M') (A := some ⟨id, off + (i + 1) * 8, none⟩) (n := z) (c := z) (by omega)) (by omega) ?_
    rw [hs]
    simp (disch := omega) [t5, t0, t1, Keeps.refl]
  have hd0 : decide (0 < 3 - g) = true := decide_eq_true (by omega)
  rw [hd0, Bool.true_and] at hs
  have hpart := h.part (a := i + 1) (b := i + 1 + z) (by omega) (by omega)
  rw [show i + 1 + z - (i + 1) = z by omega] at hpart
  have esub : (l.drop (i + 1)).take z = subI l (i + 1) (i + 1 + z) := by unfold subI; rw [show i + 1 + z - (i + 1) = z by omega]
  rw [esub] at hpart
  have hcall := hN M' (some ⟨id, off + (i + 1) * 8, none⟩) z z (subI l (i + 1) (i + 1 + z)) lo hi (g + 1) hpart (by omega) (by omega) (by omega) (fun x hx => hv x (by rw [← esub] at hx; exact List.mem_of_mem_drop (List.mem_of_mem_take hx)))
  rw [show 3 - (g + 1) = 3 - g - 1 by omega, show ((g + 1 : Nat) : Int) = (g : Int) + 1 by omega] at hcall
  refine awCall_det' hcall (by omega) ?_
  by_cases hr : scanI (3 - g - 1) (subI l (i + 1) (i + 1 + z)) = true
  case neg =>
    rw [hs]
    simp (disch := omega) [hr, t5, t0, t1, Keeps.refl]
  rw [hr, Bool.true_and] at hs
  simp (disch := omega) [hr, t5, t0, t1, wrap_in]
  exact lpI (m - 1 - z) (by omega) ⟨i + 1 + z, by omega, rfl, hs, by simp; omega, by simp [t0], by simp [t1]⟩
theorem nest_to : ∀ N, NestTo N
  | 0 => fun M A n c l lo hi g _ _ _ h => by omega
  | N + 1 => nest_step (nest_to N)
set_option maxHeartbeats 1000000 in
theorem areItems_i {M : Mem} {A : Option Addr} {n c lo hi : Nat} {l : List Item} (h : SlP itemP lo hi M A n l) (hn : n ≤ 1048576) : Det Tryz.prog M.length 28 [.slice A n c] M (.bool (okI l)) M := by
  have hl := h.1
  first | (refine det_fn Tryz.func28 rfl Tryz.ntmps28 Tryz.results28 rfl rfl rfl (by simp) ?_) | (refine det_fnC Tryz.func28 rfl Tryz.ntmps28 Tryz.results28 rfl rfl (by simp) ?_)
  simp
  refine awLoop_T (fun m T M' => ∃ k : Nat, k + m = n ∧ Keeps M M' ∧ (∀ i, i < k → itemI (el l i) = true) ∧ look T 7 = some (iv k) ∧ look T 6 = some (iv n) ∧ look T 5 = some (.slice A n c) ∧ look T 0 = some (.slice A n c)) n ⟨0, by omega, Keeps.refl _, fun i hi => by omega, by simp, by simp, by simp, by simp⟩ ?_
  rintro m T M' ⟨k, hm, hK, hok, t7, t6, t5, t0⟩
  have hKl := hK.len
  by_cases hlt : k < n
  · have hlt' : (k : Int) < n := by omega
    obtain ⟨id, off, us, rfl, he, hrd, hc⟩ := (h.keeps hK).at_ hlt
    have hrd2 := hrd
    obtain ⟨A1, n1, c1', hu, hus, -, -, -, -, -, -, c8⟩ := item_cells hrd2 hc
    subst hus
    simp (disch := omega) [t7, t6, t5, t0, hlt, hlt', he, c8]
    refine awCall_det' (isItem_i (RecP.app itemP hrd _)) (by first | omega | (simp; omega)) ?_
    by_cases h1 : itemI (el l k) = true
    case neg =>
      have e : okI l = false := by
        unfold okI
        rw [Bool.and_eq_false_iff]
        right
        cases hs : scanI 3 l with
        | false => rfl
        | true => exact absurd (scanI_all _ _ _ (Nat.le_refl _) hs _ (el_mem (by omega))) h1
      simp (disch := omega) [h1, e]
      exact hK.app _
    simp (disch := omega) [h1, t7, t6, t5, t0, wrap_in]
    refine lpI (m - 1) (by omega) ⟨k + 1, by omega, hK.app _, fun i hi => ?_, by simp, by simp [t6], by simp [t5], by simp [t0]⟩
    by_cases hik : i = k
    · subst hik; exact h1
    · exact hok i (by omega)
  · obtain rfl : k = n := by omega
    have hall : ∀ x, x ∈ l → itemI x = true := fun x hx => by
      obtain ⟨i, hi, rfl⟩ := List.getElem_of_mem hx
      rw [el_eq hi]
      exact hok i (by omega)
    by_cases h80 : k ≤ 80
    · have h80' : (k : Int) ≤ 80 := by omega
      simp (disch := omega) [t7, t6, t5, t0, h80, h80']
      have hcall := nest_to (k + 1) M' A k c l lo hi 0 (h.keeps hK) hn (by omega) (by omega) hall
      refine awCall_det' hcall (by omega) ?_
      simp [okI, hl, h80, hK]
    · have h80' : ¬ (k : Int) ≤ 80 := by omega
      simp (disch := omega) [t7, t6, t5, t0, h80, h80', okI, hl, hK]
end Go.Proofs.YtodbjnngkonklaaGreat
