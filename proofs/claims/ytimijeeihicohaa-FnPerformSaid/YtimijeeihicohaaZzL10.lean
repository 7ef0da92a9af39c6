/- Parts of the proof, together: Nodes: the program's test. Patches: the program's test of their form. Patches: the order of the nodes, as the program finds it. Instruments: the program's test. Patches whose nodes wait for earlier nodes alone have an order, in plain words. Instruments: the reference's tests of nodes, tables, envelopes. Nodes and patches: the reference's tests. Patches: the reference's test of their form. Patches  No conditions. -/
import Derived.Test.YtimijeeihicohaaZzL9
import Derived.Laws.BitsLemmas
import Derived.Test.YtimijeeihicohaaZzL8
namespace Go.Proofs.Ytimijeeihicohaa
open Go.RowKit
set_option linter.unusedVariables false
set_option linter.unusedSimpArgs false
set_option maxRecDepth 100000
attribute [local simp] List.getElem?_cons_zero
attribute [local irreducible] awCond awCall awLoop awDraw ow retQ retC resQ Keeps
theorem hasA_i {M : Mem} (k : Kd) : Det Try.prog M.length 135 [.agg #[.string k.name, iv k.inp, iv k.lo, iv k.hi, .bool k.lin, .bool k.hasB]] M (.bool (hasAB k)) M := by
  first | (refine det_fn Try.func135 rfl Try.ntmps135 Try.results135 rfl rfl rfl (by simp) ?_) | (refine det_fnC Try.func135 rfl Try.ntmps135 Try.results135 rfl rfl (by simp) ?_)
  simp [hasAB, keeps_app]
theorem kinds_at {M : Mem} {id i : Nat} {t o : Bool} {e : TypeId} (h : M[id]? = some (.live ⟨cellsL kdR kindsL, o, t, e, 6⟩)) (hi : i < 17) : Cl M id (i * 6) (kdR.row (el kindsL i)) := fun j x hx => by
  simp only [cellAt, h]
  have hj : j < 6 := by have := (List.getElem?_eq_some_iff.1 hx).1; rwa [kdR.len] at this
  show (cellsL kdR kindsL)[i * 6 + j]? = some x
  rw [cellsL_get kdR (show i < kindsL.length from hi) hj]
  exact hx
theorem cells_hrI {M : Mem} {id off n : Nat} {r : Row} (h : M[id]? = some (.live r)) (hn : off + n ≤ r.cells.length) : cellsAt M id off n = some ((r.cells.drop off).take n) := by
  simp [cellsAt, h, hn]
set_option maxHeartbeats 4000000 in
theorem isNode_i {M : Mem} {lo hi : Nat} {us : List Value} {x : Node} (t : Int) (h : nodeP.rd lo hi M x us) : Det Try.prog M.length 124 [.agg us.toArray, iv t] M (.bool (nodeB x t)) M := by
  obtain ⟨u, rfl, hu⟩ := h
  obtain ⟨A, n, c, rfl, h1, h2, h3⟩ := hu
  have hl := h3.1
  replace h3 := h3.sl
  first | (refine det_fn Try.func124 rfl Try.ntmps124 Try.results124 rfl rfl rfl (by simp) ?_) | (refine det_fnC Try.func124 rfl Try.ntmps124 Try.results124 rfl rfl (by simp) ?_)
  simp
  have kind : ∀ {M : Mem} (z : Int), Det Try.prog M.length 133 [iv z] M (.bool (inB z 1 17)) M := fun {M} z => by
    first | (refine det_fn Try.func133 rfl Try.ntmps133 Try.results133 rfl rfl rfl (by simp) ?_) | (refine det_fnC Try.func133 rfl Try.ntmps133 Try.results133 rfl rfl (by simp) ?_)
    simp
    refine awCall_det' (within_a _ _ _) (by simp) ?_
    simp [Keeps.refl]
  refine awCall_det' (kind x.k) (by simp) ?_
  by_cases hk : inB x.k 1 17 = true
  case neg =>
    rw [Bool.not_eq_true] at hk
    simp [hk, keeps_app]
    unfold nodeB; rw [hk]; rfl
  have hkr := inB_iff.1 hk
  simp [hk]
  refine awDraw_D 7 [[],[],[1],[2,1],[0,3,2,1],[4,0,3,2,1],[],[6,5,4,0,3,2,1]] (by kernel_rfl) (by decide +kernel) ?_
  simp
  have hw : IntKind.i64.wrap (x.k - 1) = (((x.k - 1).toNat : Nat) : Int) := by rw [wrap_in (by omega) (by omega)]; omega
  obtain ⟨i, hi⟩ : ∃ i : Nat, i = (x.k - 1).toNat := ⟨_, rfl⟩
  rw [← hi] at hw
  have hi17 : i < 17 := by omega
  obtain ⟨M1, hM1⟩ : ∃ M1 : Mem, M1 = M ++ [Slot.live ⟨[iv x.k, iv x.a, iv x.b, .slice A n c], true, true, 138, 4⟩] ++ [.live ⟨cellsL kdR kindsL, true, true, 165, 6⟩] := ⟨_, rfl⟩
  have hd := kinds_i (M := M ++ [Slot.live ⟨[iv x.k, iv x.a, iv x.b, .slice A n c], true, true, 138, 4⟩])
  refine awCall_det' hd (by simp) ?_
  have r1 : M1[M.length + 1]? = some (.live ⟨cellsL kdR kindsL, true, true, 165, 6⟩) := by rw [hM1]; simp
  have hlen : (cellsL kdR kindsL).length = 102 := by rw [cellsL_len]; rfl
  have ht : List.take 6 (List.drop (i * 6) (cellsL kdR kindsL)) = (el kindsL i).row := by
    have hc := kinds_at r1 hi17
    have hload := cellsAt_of (n := 6) hc (kdR.len _) (by omega)
    rw [cells_hrI r1 (by rw [hlen]; omega)] at hload
    injection hload
  have hq : el kindsL i = kOf x := by unfold kOf; rw [hi]
  rw [hq] at ht
  clear hM1 r1 M1
  generalize cellsL kdR kindsL = kc at *
  have hi17' : (i : Int) < 17 := by omega
  have hi6 : i * 6 + 6 ≤ 102 := by omega
  have key : nodeB x t = (numB (kOf x) x && (x.from_.all (fun f => inB f 0 23) && endB (kOf x) x t)) := by unfold nodeB; rw [hk, Bool.true_and]
  rw [key]
  clear key hq
  generalize kOf x = q at *
  simp (disch := omega) [hw, hi17', hi6, ht, hlen, Kd.row]
  refine awCall_det' (hasA_i q) (by simp) ?_
  have bad : numB q x = false → (numB q x && (x.from_.all (fun f => inB f 0 23) && endB q x t)) = false := fun h => by rw [h]; rfl
  generalize hB : (numB q x && (x.from_.all (fun f => inB f 0 23) && endB q x t)) = B at bad ⊢
  by_cases ha : hasAB q = true
  case' neg =>
    rw [Bool.not_eq_true] at ha
    simp [ha]
    refine awCall_det' (hasA_i q) (by simp) ?_
    simp [ha]
    by_cases g2 : x.a = 0
    case neg =>
      simp [g2]
      exact ⟨bad (by unfold numB; simp [ha, g2]), keeps_app _⟩
    simp [g2]
  case' pos =>
    simp [ha]
    refine awCall_det' (within_a x.a q.lo q.hi) (by simp) ?_
    by_cases g1 : inB x.a q.lo q.hi = true
    case neg =>
      rw [Bool.not_eq_true] at g1
      simp [g1]
      exact ⟨bad (by unfold numB; simp [ha, g1]), keeps_app _⟩
    simp [g1]
    refine awCall_det' (hasA_i q) (by simp) ?_
    simp [ha]
  all_goals
    by_cases hb : q.hasB = true
    case' neg =>
      rw [Bool.not_eq_true] at hb
      simp [hb]
      by_cases g4 : x.b = 0
      case neg =>
        simp [g4]
        exact ⟨bad (by unfold numB; simp [hb, g4]), keeps_app _⟩
      simp [g4]
    case' pos =>
      simp [hb]
      refine awCall_det' (within_a x.b 1 16) (by simp) ?_
      by_cases g3 : inB x.b 1 16 = true
      case neg =>
        rw [Bool.not_eq_true] at g3
        simp [g3]
        exact ⟨bad (by unfold numB; simp [hb, g3]), keeps_app _⟩
      simp [g3]
  all_goals
    have hnum : numB q x = true := by unfold numB; simp [*]
    rw [hnum, Bool.true_and] at hB
    clear bad hnum
    obtain ⟨M0, hM0⟩ : ∃ M0 : Mem, M0 = M ++ [Slot.live ⟨[iv x.k, iv x.a, iv x.b, .slice A n c], true, true, 138, 4⟩, .live ⟨kc, true, true, 165, 6⟩, .live ⟨[.string q.name, iv q.inp, iv q.lo, iv q.hi, .bool q.lin, .bool q.hasB], true, true, 165, 6⟩] := ⟨_, rfl⟩
    have k0 : Keeps M M0 := by rw [hM0]; exact keeps_app _
    have b0 : cellAt M0 M.length 0 = some (iv x.k) := by rw [hM0]; simp
    have b1 : cellAt M0 M.length 1 = some (iv x.a) := by rw [hM0]; simp
    have b3 : cellAt M0 M.length 3 = some (.slice A n c) := by rw [hM0]; simp
    have q1 : cellAt M0 (M.length + 2) 1 = some (iv q.inp) := by rw [hM0]; simp
    have l0 := k0.len
    refine awLoop_T (fun m T M' => ∃ k : Nat, k + m = n ∧ M' = M0 ∧ look T 63 = some (iv k) ∧ look T 62 = some (iv n) ∧ look T 61 = some (.slice A n c) ∧ look T 5 = some (.pointer (some ⟨M.length + 2, 0, none⟩)) ∧ look T 2 = some (.pointer (some ⟨M.length, 0, none⟩)) ∧ look T 1 = some (iv t) ∧ ∀ i, i < k → inB (el x.from_ i) 0 23 = true) n ⟨0, by omega, by rw [hM0]; simp [*], by simp, by simp, by simp, by simp, by simp, by simp, fun i hi => by omega⟩ ?_
    clear hM0
    rintro m T M' ⟨k, hm, rfl, t63, t62, t61, t5, t2, t1, hkk⟩
    by_cases hlt : k < n
    · obtain ⟨id, off, rfl, he, hc⟩ := (h3.keeps k0).at_ hlt
      have c1 := int_cell hc
      simp only [Nat.mul_one] at c1
      simp (disch := omega) [t63, t62, t61, hlt, c1, he]
      refine awCall_det' (within_a (el x.from_ k) 0 23) (by omega) ?_
      by_cases hs : inB (el x.from_ k) 0 23 = true
      · simp (disch := omega) [hs, t63, t62, t61, wrap_in]
        refine lpI (m - 1) (by omega) ⟨k + 1, by omega, rfl, by simp, by simp [t62], by simp [t61], by simp [t5], by simp [t2], by simp [t1], fun i hi => ?_⟩
        by_cases e : i = k
        · rw [e]; exact hs
        · exact hkk i (by omega)
      · rw [Bool.not_eq_true] at hs
        simp [hs]
        exact ⟨by rw [← hB, all_no (p := fun f => inB f 0 23) (show k < x.from_.length by omega) hs]; rfl, k0⟩
    · obtain rfl : k = n := by omega
      have hall : x.from_.all (fun f => inB f 0 23) = true := all_yes fun i hi => hkk i (by omega)
      rw [hall, Bool.true_and] at hB
      have hsize : Det Try.prog M'.length 112 [.slice A k c] M' (iv k) M' := by
        first | (refine det_fn Try.func112 rfl Try.ntmps112 Try.results112 rfl rfl rfl (by simp) ?_) | (refine det_fnC Try.func112 rfl Try.ntmps112 Try.results112 rfl rfl (by simp) ?_)
        simp [Keeps.refl]
      simp (disch := omega) [t63, t62]
      refine awDraw_E 14 [[],[0],[1,0],[],[3],[2,1,0,4,3],[5,2,1,0,4,3],[6,5,2,1,0,4,3],[7,6,5,2,1,0,4,3],[8,7,6,5,2,1,0,4,3],[9,8,7,6,5,2,1,0,4,3],[10,9,8,7,6,5,2,1,0,4,3],[11,10,9,8,7,6,5,2,1,0,4,3],[10,9,8,7,6,5,2,1,0,4,3],[12,11,10,9,8,7,6,5,2,1,0,4,3,13],[10,9,8,7,6,5,2,1,0,4,3,14,12,11,13],[6,5,2,1,0,4,3,15,10,9,8,7,14,12,11,13],[16,6,5,2,1,0,4,3,15,10,9,8,7,14,12,11,13]] (by kernel_rfl) (by kernel_rfl) ?_
      simp (disch := omega) [t2, t5, t1, b0, b1, b3, q1]
      refine awCall_det' hsize (by omega) ?_
      by_cases e1 : (k : Int) = q.inp
      case neg =>
        simp (disch := omega) [t2, t5, t1, b0, b1, b3, q1, e1]
        exact ⟨by rw [← hB]; unfold endB; rw [hl]; simp [e1], k0⟩
      by_cases e2 : x.k = 13
      case neg =>
        simp (disch := omega) [t2, t5, t1, b0, b1, b3, q1, e1, e2]
        exact ⟨by rw [← hB]; unfold endB; rw [hl]; simp [e1, e2], k0⟩
      by_cases e3 : x.a < t
      · simp (disch := omega) [t2, t5, t1, b0, b1, b3, q1, e1, e2, e3]
        exact ⟨by rw [← hB]; unfold endB; rw [hl]; simp [e1, e2, e3], k0⟩
      · simp (disch := omega) [t2, t5, t1, b0, b1, b3, q1, e1, e2, e3]
        exact ⟨by rw [← hB]; unfold endB; rw [hl]; simp [e1, e2, e3], k0⟩
end Go.Proofs.Ytimijeeihicohaa

namespace Go.Proofs.Ytimijeeihicohaa
open Go.RowKit
set_option linter.unusedVariables false
set_option linter.unusedSimpArgs false
set_option maxRecDepth 100000
attribute [local simp] List.getElem?_cons_zero
attribute [local irreducible] awCond awCall awLoop awDraw ow retQ retC resQ Keeps
def nodeF (p : Patch) (x : Node) : Bool := nodeB x p.tabs.length && (idxB p.nodes.length x.from_ && !(decide (x.k = 1) && decide (p.inp ≤ x.a)))
def formB (p : Patch) : Bool := (inB p.inp 0 4 && tablesB p.tabs && decide (p.nodes.length ≤ 24) && decide (p.outs.length ≤ 4) && idxB p.nodes.length p.outs) && p.nodes.all (nodeF p)
set_option maxHeartbeats 2000000 in
theorem isWellFormed_i {M : Mem} {lo hi : Nat} {us : List Value} {x : Patch} (h : patchP.rd lo hi M x us) : Det Try.prog M.length 108 [.agg us.toArray] M (.bool (formB x)) M := by
  obtain ⟨u1, u2, u3, rfl, hu1, hu2, hu3⟩ := h
  obtain ⟨A1, n1, c1, e1, r1, r2, r3⟩ := id hu1
  obtain ⟨A2, n2, c2, e2, p1, p2, p3⟩ := id hu2
  obtain ⟨A3, n3, c3, e3, q1, q2, q3⟩ := id hu3
  subst e1; subst e2; subst e3
  have ht := r3.1
  have hn := p3.1
  have ho := q3.1
  have szN : ∀ {M : Mem} {A : Option Addr} {n c : Nat}, Det Try.prog M.length 121 [.slice A n c] M (iv n) M := by
    intro M A n c
    first | (refine det_fn Try.func121 rfl Try.ntmps121 Try.results121 rfl rfl rfl (by simp) ?_) | (refine det_fnC Try.func121 rfl Try.ntmps121 Try.results121 rfl rfl (by simp) ?_)
    simp [Keeps.refl]
  have szI : ∀ {M : Mem} {A : Option Addr} {n c : Nat}, Det Try.prog M.length 112 [.slice A n c] M (iv n) M := by
    intro M A n c
    first | (refine det_fn Try.func112 rfl Try.ntmps112 Try.results112 rfl rfl rfl (by simp) ?_) | (refine det_fnC Try.func112 rfl Try.ntmps112 Try.results112 rfl rfl (by simp) ?_)
    simp [Keeps.refl]
  have szT : ∀ {M : Mem} {A : Option Addr} {n c : Nat}, Det Try.prog M.length 125 [.slice A n c] M (iv n) M := by
    intro M A n c
    first | (refine det_fn Try.func125 rfl Try.ntmps125 Try.results125 rfl rfl rfl (by simp) ?_) | (refine det_fnC Try.func125 rfl Try.ntmps125 Try.results125 rfl rfl (by simp) ?_)
    simp [Keeps.refl]
  have no : (inB x.inp 0 4 && tablesB x.tabs && decide (x.nodes.length ≤ 24) && decide (x.outs.length ≤ 4) && idxB x.nodes.length x.outs) = false → formB x = false := fun h => by unfold formB; rw [h]; rfl
  rw [hn, ho] at no
  first | (refine det_fn Try.func108 rfl Try.ntmps108 Try.results108 rfl rfl rfl (by simp) ?_) | (refine det_fnC Try.func108 rfl Try.ntmps108 Try.results108 rfl rfl (by simp) ?_)
  simp
  refine awCall_det' szN (by simp) ?_
  simp
  refine awCall_det' (within_a x.inp 0 4) (by simp) ?_
  by_cases g1 : inB x.inp 0 4 = true
  case neg =>
    rw [Bool.not_eq_true] at g1
    simp [g1]
    exact ⟨no (by rw [g1]; rfl), keeps_app _⟩
  simp [g1]
  refine awCall_det' (areTables_i (hu1.app _)) (by simp) ?_
  by_cases g2 : tablesB x.tabs = true
  case neg =>
    rw [Bool.not_eq_true] at g2
    simp [g2]
    exact ⟨no (by rw [g2]; simp), keeps_app _⟩
  simp [g2]
  by_cases g3 : n2 ≤ 24
  case neg =>
    have g3' : (24 : Int) < n2 := by omega
    simp [g3']
    exact ⟨no (by simp [g3]), keeps_app _⟩
  have g3' : ¬ (24 : Int) < n2 := by omega
  simp [g3']
  refine awCall_det' szI (by simp) ?_
  by_cases g4 : n3 ≤ 4
  case neg =>
    have g4' : (4 : Int) < n3 := by omega
    simp [g4']
    exact ⟨no (by simp [g4]), keeps_app _⟩
  have g4' : ¬ (4 : Int) < n3 := by omega
  simp [g4']
  refine awCall_det' (areIndices_i n2 (by omega) (by omega) (hu3.app _)) (by simp) ?_
  by_cases g5 : idxB n2 x.outs = true
  case neg =>
    rw [Bool.not_eq_true] at g5
    simp [g5]
    exact ⟨no (by rw [g5]; simp), keeps_app _⟩
  simp [g5]
  have key : formB x = x.nodes.all (nodeF x) := by unfold formB; rw [g1, g2, hn, ho, g5]; simp [g3, g4]
  rw [key]
  clear key no
  obtain ⟨M0, hM0⟩ : ∃ M0 : Mem, M0 = M ++ [Slot.live ⟨[iv x.inp, .slice A1 n1 c1, .slice A2 n2 c2, .slice A3 n3 c3], true, true, 48, 4⟩] := ⟨_, rfl⟩
  have k0 : Keeps M M0 := by rw [hM0]; exact keeps_app _
  have b0 : cellAt M0 M.length 0 = some (iv x.inp) := by rw [hM0]; simp
  have b1 : cellAt M0 M.length 1 = some (.slice A1 n1 c1) := by rw [hM0]; simp
  have l0 : M0.length = M.length + 1 := by rw [hM0]; simp
  rw [← hM0]
  clear hM0
  refine awLoop_T (fun m T M' => ∃ k : Nat, k + m = n2 ∧ Keeps M0 M' ∧ look T 39 = some (iv k) ∧ look T 38 = some (iv n2) ∧ look T 37 = some (.slice A2 n2 c2) ∧ look T 3 = some (iv n2) ∧ look T 1 = some (.pointer (some ⟨M.length, 0, none⟩)) ∧ ∀ i, i < k → nodeF x (el x.nodes i) = true) n2 ⟨0, by omega, Keeps.refl _, by simp, by simp, by simp, by simp, by simp, fun i hi => by omega⟩ ?_
  rintro m T M1 ⟨k, hm, k1, t39, t38, t37, t3, t1, hkk⟩
  have l1 := k1.len
  have k01 := k0.trans k1
  by_cases hlt : k < n2
  case neg =>
    obtain rfl : k = n2 := by omega
    simp [t39, t38]
    exact ⟨fun y hy => List.all_eq_true.1 (all_yes (p := nodeF x) fun i hi => hkk i (by omega)) y hy, k01⟩
  obtain ⟨id, off, us, rfl, he, hrd, hc⟩ := (p3.keeps k01).at_ hlt
  have hrd2 := hrd
  obtain ⟨u, rfl, hu⟩ := hrd2
  have huV := hu
  obtain ⟨A4, n4, c4, rfl, -⟩ := hu
  have cl := cellsAt_of (n := 4) hc rfl (by omega)
  have bad : nodeF x (el x.nodes k) = false → x.nodes.all (nodeF x) = false := fun h => all_no (by omega) h
  have kb : nodeF x (el x.nodes k) = (nodeB (el x.nodes k) n1 && (idxB n2 (el x.nodes k).from_ && !(decide ((el x.nodes k).k = 1) && decide (x.inp ≤ (el x.nodes k).a)))) := by unfold nodeF; rw [ht, hn]
  have next : nodeF x (el x.nodes k) = true → ∀ i, i < k + 1 → nodeF x (el x.nodes i) = true := fun h i hi => by
    by_cases e : i = k
    · rw [e]; exact h
    · exact hkk i (by omega)
  generalize hG : x.nodes.all (nodeF x) = G at bad ⊢
  generalize hy : el x.nodes k = y at *
  simp (disch := omega) [t39, t38, t37, hlt, cl, he]
  refine awDraw_E 22 [[],[],[1],[2,1],[0,3,2,1],[4,0,3,2,1],[5,4,0,3,2,1],[6,5,4,0,3,2,1],[7,6,5,4,0,3,2,1],[6,5,4,0,3,2,1],[8,7,6,5,4,0,3,2,1,9],[10,8,7,6,5,4,0,3,2,1,9],[6,5,4,0,3,2,1,11,10,8,7,9],[12,6,5,4,0,3,2,1,11,10,8,7,9],[13,12,6,5,4,0,3,2,1,11,10,8,7,9],[14,13,12,6,5,4,0,3,2,1,11,10,8,7,9],[15,14,13,12,6,5,4,0,3,2,1,11,10,8,7,9],[16,15,14,13,12,6,5,4,0,3,2,1,11,10,8,7,9],[17,16,15,14,13,12,6,5,4,0,3,2,1,11,10,8,7,9],[18,17,16,15,14,13,12,6,5,4,0,3,2,1,11,10,8,7,9],[17,16,15,14,13,12,6,5,4,0,3,2,1,11,10,8,7,9],[20,17,16,15,14,13,12,6,5,4,0,3,2,1,11,10,8,7,9],[19,18,17,16,15,14,13,12,6,5,4,0,3,2,1,11,10,8,7,9,21,20],[17,16,15,14,13,12,6,5,4,0,3,2,1,11,10,8,7,9,22,19,18,21,20],[13,12,6,5,4,0,3,2,1,11,10,8,7,9,23,17,16,15,14,22,19,18,21,20]] (by kernel_rfl) (by kernel_rfl) ?_
  simp (disch := omega) [t1, t3, cellAt_app (cellAt_keeps k1 b1)]
  refine awCall_det' szT (by simp) ?_
  simp
  refine awCall_det' (isNode_i n1 (nodeP.app hrd _)) (by simp <;> omega) ?_
  by_cases f1 : nodeB y n1 = true
  case neg =>
    rw [Bool.not_eq_true] at f1
    simp [f1]
    exact ⟨bad (by rw [kb, f1]; rfl), k01.app _⟩
  simp (disch := omega) [f1, t3, t1]
  refine awCall_det' (areIndices_i n2 (by omega) (by omega) (huV.app _)) (by simp <;> omega) ?_
  by_cases f2 : idxB n2 y.from_ = true
  case neg =>
    rw [Bool.not_eq_true] at f2
    simp [f2]
    exact ⟨bad (by rw [kb, f1, f2]; rfl), k01.app _⟩
  by_cases f3 : y.k = 1
  case neg =>
    simp (disch := omega) [f2, f3, t1, t3, t39, t38, t37, wrap_in]
    exact lpI (m - 1) (by omega) ⟨k + 1, by omega, k1.app _, by simp, by simp [t38], by simp [t37], by simp [t3], by simp [t1], next (by rw [kb, f1, f2]; simp [f3])⟩
  by_cases f4 : x.inp ≤ y.a
  · simp (disch := omega) [f2, f3, f4, t1, t3, cellAt_app (cellAt_keeps k1 b0)]
    exact ⟨bad (by rw [kb]; simp [f3, f4]), k01.app _⟩
  · simp (disch := omega) [f2, f3, f4, t1, t3, cellAt_app (cellAt_keeps k1 b0), t39, t38, t37, wrap_in]
    exact lpI (m - 1) (by omega) ⟨k + 1, by omega, k1.app _, by simp, by simp [t38], by simp [t37], by simp [t3], by simp [t1], next (by rw [kb, f1, f2]; simp [f3, f4])⟩
end Go.Proofs.Ytimijeeihicohaa

namespace Go.Proofs.Ytimijeeihicohaa
open Go.RowKit
set_option linter.unusedVariables false
set_option linter.unusedSimpArgs false
set_option maxRecDepth 100000
attribute [local simp] List.getElem?_cons_zero
attribute [local irreducible] awCond awCall awLoop awDraw ow retQ retC resQ Keeps
def waits (x : Node) : List Int := if x.k = 6 then [] else x.from_
def rdyT (ns : List Node) (tk : List Bool) (i : Nat) : Bool := !(el tk i) && (waits (el ns i)).all fun f => el tk f.toNat
def nextT (ns : List Node) (tk : List Bool) : Option Nat := (List.range ns.length).find? (rdyT ns tk)
def ordT (ns : List Node) : Nat → List Bool → List Int → List Int
  | 0, _, out => out
  | m + 1, tk, out => match nextT ns tk with
    | none => out
    | some i => ordT ns m (tk.set i true) (out ++ [(i : Int)])
def ordL (ns : List Node) : List Int := ordT ns ns.length (List.replicate ns.length false) []
theorem nextT_none {ns : List Node} {tk : List Bool} (h : ∀ i, i < ns.length → rdyT ns tk i = false) : nextT ns tk = none := by
  unfold nextT
  rw [List.find?_eq_none]
  intro i hi
  rw [h i (List.mem_range.1 hi)]; simp
theorem nextT_some {ns : List Node} {tk : List Bool} {i : Nat} (hi : i < ns.length) (hr : rdyT ns tk i = true) (h : ∀ j, j < i → rdyT ns tk j = false) : nextT ns tk = some i := by
  unfold nextT
  rw [List.find?_eq_some_iff_getElem]
  refine ⟨hr, i, by simpa using hi, by simp, fun j hj => ?_⟩
  simp [h j hj]
theorem rdyT_free {ns : List Node} {tk : List Bool} {i : Nat} (h : rdyT ns tk i = true) : el tk i = false := by
  unfold rdyT at h
  simp only [Bool.and_eq_true, Bool.not_eq_true'] at h
  exact h.1
theorem count_pos {tk : List Bool} {i : Nat} (hi : i < tk.length) (h : el tk i = false) : 0 < tk.count false := by
  rw [List.count_pos_iff]
  rw [← h]; exact el_mem hi
theorem count_set_true {tk : List Bool} {i : Nat} (hi : i < tk.length) (h : el tk i = false) : (tk.set i true).count false + 1 = tk.count false := by
  have h1 := List.count_set (a := true) (b := false) (l := tk) (i := i) hi
  have h2 := count_pos hi h
  rw [h1, el_eq hi, h]
  simp
  omega
theorem splice_setI {α : Type} {k : Nat} [Inhabited α] (R : RecV α k) {l : List α} {i : Nat} {a : α} (hi : i < l.length) : splice (cellsL R l) (i * k) (R.row a) = cellsL R (l.set i a) := by
  have h1 : l = l.take i ++ (el l i :: l.drop (i + 1)) := by
    conv => lhs; rw [← List.take_append_drop i l, drop_el hi]
  have hl : (cellsL R (l.take i)).length = i * k := by rw [cellsL_len, List.length_take, Nat.min_eq_left (by omega)]
  have h2 : cellsL R l = cellsL R (l.take i) ++ (R.row (el l i) ++ cellsL R (l.drop (i + 1))) := by
    conv => lhs; rw [h1]
    rw [cellsL_append, cellsL_cons]
  rw [h2, ← hl, splice_app _ _ _ (by rw [List.length_append, R.len, R.len]; omega), R.len, List.drop_append_of_le_length (by rw [R.len]; omega), List.drop_of_length_le (by rw [R.len]; omega), List.nil_append]
  have h3 : l.set i a = l.take i ++ (a :: l.drop (i + 1)) := List.set_eq_take_append_cons_drop .. |>.trans (by rw [if_pos hi])
  rw [h3, cellsL_append, cellsL_cons]
theorem fill1I {z : Value} {kd : IntKind} {n : Int} : Instr.fill (fun i => some (i, 1)) (zrow [z] 1).toArray [(0, .int kd n)] = some #[.int kd n] := by
  have := fill_int (z := z) (kd := kd) (n := n)
  simpa using this
def boolR : RecV Bool 1 := ⟨fun b => [.bool b], fun _ => rfl⟩
theorem waitsFor_i {M : Mem} {lo hi : Nat} {us : List Value} {x : Node} (h : nodeP.rd lo hi M x us) : ∃ u N, Det Try.prog M.length 126 [.agg us.toArray] M u (M ++ N) ∧ SlV intP lo hi M u (waits x) := by
  obtain ⟨u, rfl, hu⟩ := h
  have hV := hu
  obtain ⟨A, n, c, rfl, h1, h2, h3⟩ := hu
  by_cases hk : x.k = 6
  · refine ⟨.slice none 0 0, [.live ⟨[iv x.k, iv x.a, iv x.b, .slice A n c], true, true, 138, 4⟩], Ctr.det ?_, by unfold waits; rw [if_pos hk]; exact .nil⟩
    first | (refine ctr_fn Try.func126 rfl Try.ntmps126 Try.results126 rfl rfl (by simp) ?_) | (refine ctr_fnC Try.func126 rfl Try.ntmps126 Try.results126 rfl (by simp) ?_)
    simp [hk]
  · refine ⟨.slice A n c, [.live ⟨[iv x.k, iv x.a, iv x.b, .slice A n c], true, true, 138, 4⟩], Ctr.det ?_, by unfold waits; rw [if_neg hk]; exact hV⟩
    first | (refine ctr_fn Try.func126 rfl Try.ntmps126 Try.results126 rfl rfl (by simp) ?_) | (refine ctr_fnC Try.func126 rfl Try.ntmps126 Try.results126 rfl (by simp) ?_)
    simp [hk]
theorem waits_idx {x : Node} {n : Int} (h : idxB n x.from_ = true) {i : Nat} (hi : i < (waits x).length) : ∃ f : Nat, el (waits x) i = f ∧ (f : Int) < n := by
  have hm : el (waits x) i ∈ x.from_ := by
    have := el_mem hi
    unfold waits at this ⊢
    split at this
    · cases this
    · rename_i hk
      simp only [hk, if_false] at this ⊢
      exact this
  have := List.all_eq_true.1 h _ hm
  rw [inB_iff] at this
  exact ⟨(el (waits x) i).toNat, by omega, by omega⟩
set_option maxHeartbeats 4000000 in
theorem order_i {M : Mem} {lo hi : Nat} {us : List Value} {x : Patch} (h : patchP.rd lo hi M x us) (hx : ∀ y, y ∈ x.nodes → idxB x.nodes.length y.from_ = true) (hn24 : x.nodes.length ≤ 24) :
    Ctr Try.prog M.length 109 [.agg us.toArray] M fun r M' => Acc intR 2 M.length M' r (ordL x.nodes) ∧ Keeps M M' ∧ ∃ a n c, r = .slice (some a) n c := by
  obtain ⟨u1, u2, u3, rfl, hu1, hu2, hu3⟩ := h
  obtain ⟨A1, n1, c1, rfl⟩ := hu1.isSl
  obtain ⟨A2, n2, c2, e2, p1, p2, p3⟩ := hu2
  obtain ⟨A3, n3, c3, rfl⟩ := hu3.isSl
  subst e2
  have hn := p3.1
  first | (refine ctr_fn Try.func109 rfl Try.ntmps109 Try.results109 rfl rfl (by simp) ?_) | (refine ctr_fnC Try.func109 rfl Try.ntmps109 Try.results109 rfl (by simp) ?_)
  simp
  refine ⟨by omega, ?_⟩
  obtain ⟨M0, hM0⟩ : ∃ M0 : Mem, M0 = M ++ [Slot.live ⟨[iv x.inp, .slice A1 n1 c1, .slice A2 n2 c2, .slice A3 n3 c3], true, true, 48, 4⟩, .live ⟨zrow [.bool false] n2, true, true, 4, 1⟩, .live ⟨[], true, true, 2, 1⟩] := ⟨_, rfl⟩
  have k0 : Keeps M M0 := by rw [hM0]; exact keeps_app _
  have b0 : cellAt M0 M.length 2 = some (.slice A2 n2 c2) := by rw [hM0]; simp
  have r0 : M0[M.length + 1]? = some (.live ⟨cellsL boolR (List.replicate n2 false), true, true, 4, 1⟩) := by
    rw [hM0, ← cellsL_zrow]; simp; rfl
  have i0 : M0[M.length + 2]? = some (.live ⟨cellsL intR [], true, true, 2, 1⟩) := by rw [hM0]; simp [cellsL]
  have hAc0 : Acc intR 2 (M.length + 2) M0 (.slice (some ⟨M.length + 2, 0, none⟩) 0 0) [] := ⟨_, 0, 0, rfl, rfl, .inr ⟨M.length + 2, true, rfl, Nat.le_refl _, i0⟩⟩
  refine awLoop_T (fun m T M' => ∃ (f : Bool) (c : Nat) (tk : List Bool) (out : List Int) (v : Value), m = (if f = true then c + 1 else 0) ∧ (f = true → tk.count false = c ∧ ordL x.nodes = ordT x.nodes c tk out) ∧ (f = false → ordL x.nodes = out) ∧ c + out.length ≤ n2 ∧ tk.length = n2 ∧ Keeps M M' ∧ cellAt M' M.length 2 = some (.slice A2 n2 c2) ∧ M'[M.length + 1]? = some (.live ⟨cellsL boolR tk, true, true, 4, 1⟩) ∧ Acc intR 2 (M.length + 2) M' v out ∧ M.length + 3 ≤ M'.length ∧ (∃ a n c, v = .slice (some a) n c) ∧ look T 5 = some (.bool f) ∧ look T 4 = some v ∧ look T 3 = some (.slice (some ⟨M.length + 1, 0, none⟩) n2 n2) ∧ look T 1 = some (.pointer (some ⟨M.length, 0, none⟩))) (n2 + 1)
    ⟨true, n2, List.replicate n2 false, [], _, by simp, fun _ => ⟨by simp, by unfold ordL; rw [hn]⟩, (fun h => by cases h), by simp, by simp, by rw [← hM0]; exact k0, by rw [← hM0]; exact b0, by rw [← hM0]; exact r0, by rw [← hM0]; exact hAc0, by simp, ⟨_, _, _, rfl⟩, by simp, by simp, by simp, by simp⟩ ?_
  clear hM0 k0 b0 r0 i0 hAc0
  rintro m T M1 ⟨f, c, tk, out, v, hm, hft, hff, hcl, htk, k1, b1, r1, hA1, l1, hvs, t5, t4, t3, t1⟩
  cases f
  · simp [t5, t4]
    rw [hff rfl]
    exact ⟨hA1.low (by omega), k1, hvs⟩
  obtain ⟨hcnt, hord⟩ := hft rfl
  simp only [if_pos] at hm
  subst hm
  simp (disch := omega) [t5, t4, t3, t1, b1]
  refine awLoop_T (fun m T M' => ∃ i : Nat, i + m = n2 ∧ (∀ j, j < i → rdyT x.nodes tk j = false) ∧ Keeps M M' ∧ cellAt M' M.length 2 = some (.slice A2 n2 c2) ∧ M'[M.length + 1]? = some (.live ⟨cellsL boolR tk, true, true, 4, 1⟩) ∧ Acc intR 2 (M.length + 2) M' v out ∧ M.length + 3 ≤ M'.length ∧ look T 20 = some (iv i) ∧ look T 19 = some (iv n2) ∧ look T 18 = some (.slice A2 n2 c2) ∧ look T 5 = some (.bool false) ∧ look T 4 = some v ∧ look T 3 = some (.slice (some ⟨M.length + 1, 0, none⟩) n2 n2) ∧ look T 1 = some (.pointer (some ⟨M.length, 0, none⟩))) n2
    ⟨0, by omega, fun j hj => by omega, k1, b1, r1, hA1, l1, by simp, by simp, by simp, by simp, by simp [t4], by simp [t3], by simp [t1]⟩ ?_
  clear b1 r1 hA1 l1 t5 t4 t3 t1 k1 T
  rintro m T M2 ⟨i, hi, hnr, k2, b2, r2, hA2, l2, t20, t19, t18, t5, t4, t3, t1⟩
  by_cases hlt : i < n2
  case neg =>
    simp (disch := omega) [t20, t19, hlt]
    refine lpI 0 (by omega) ⟨false, 0, tk, out, v, by simp, (fun h => by cases h), fun _ => ?_, by omega, htk, k2, b2, r2, hA2, l2, hvs, by simp [t5], by simp [t4], by simp [t3], by simp [t1]⟩
    have hnx : nextT x.nodes tk = none := nextT_none fun j hj => hnr j (by omega)
    rw [hord]
    cases c with
    | zero => rfl
    | succ c => show (match nextT x.nodes tk with | none => out | some i => _) = out; rw [hnx]
  obtain ⟨id, off, us, rfl, he, hrd, hc⟩ := (p3.keeps k2).at_ hlt
  have hrd2 := hrd
  obtain ⟨u, rfl, hu⟩ := hrd2
  obtain ⟨A4, n4, c4, rfl⟩ := hu.isSl
  have cl := cellsAt_of (n := 4) hc rfl (by omega)
  have hlen : (cellsL boolR tk).length = n2 := by rw [cellsL_len, htk, Nat.mul_one]
  have hcell : ∀ j, j < n2 → (cellsL boolR tk)[j]? = some (.bool (el tk j)) := fun j hj => by
    have := cellsL_get boolR (l := tk) (i := j) (j := 0) (by omega) (by omega)
    rw [Nat.mul_one, Nat.add_zero] at this
    rw [this]; rfl
  obtain ⟨M3, hM3⟩ : ∃ M3 : Mem, M3 = M2 ++ [Slot.live ⟨[iv (el x.nodes i).k, iv (el x.nodes i).a, iv (el x.nodes i).b, .slice A4 n4 c4], true, true, 138, 4⟩] := ⟨_, rfl⟩
  have k23 : Keeps M2 M3 := by rw [hM3]; exact keeps_app _
  have n3 : M3.length = M2.length + 1 := by rw [hM3]; simp
  have q3 : cellsAt M3 M2.length 0 4 = some [iv (el x.nodes i).k, iv (el x.nodes i).a, iv (el x.nodes i).b, .slice A4 n4 c4] := by rw [hM3]; simp
  have r3 := k23.get r2
  have e3 : rowEsz M3 (M.length + 1) = some 1 := by simp [rowEsz, r3]
  have c3 : ∀ j, j < n2 → cellAt M3 (M.length + 1) j = some (.bool (el tk j)) := fun j hj => by simp only [cellAt, r3]; exact hcell j hj
  obtain ⟨w, N, dw, hw⟩ := waitsFor_i (nodeP.keeps hrd k23)
  have c30 := c3 i hlt
  simp (disch := omega) [t20, t19, t18, t5, t4, t3, t1, hlt, cl, he]
  rw [← hM3]
  simp (disch := omega) [t20, t19, t18, t5, t4, t3, t1, hlt, e3, c30, q3]
  refine awCall_det' dw (by omega) ?_
  obtain ⟨Aw, nw, cw, rfl, hw1, hw2, hw3⟩ := hw
  have hwl := hw3.1
  simp
  have k34 : Keeps M3 (M3 ++ N) := keeps_app _
  replace hw3 := hw3.keeps k34
  have k4 := (k2.trans k23).trans k34
  have r4 := k34.get r3
  have b4 := cellAt_keeps (k23.trans k34) b2
  have hA4 := hA2.keeps (k23.trans k34)
  have l4 : M.length + 3 ≤ (M3 ++ N).length := by simp; omega
  generalize M3 ++ N = M4 at *
  clear c30 c3 e3 r3 q3 k23 k34 dw hM3 n3 cl hc he
  have e4 : rowEsz M4 (M.length + 1) = some 1 := by simp [rowEsz, r4]
  have c4' : ∀ j, j < n2 → cellAt M4 (M.length + 1) j = some (.bool (el tk j)) := fun j hj => by simp only [cellAt, r4]; exact hcell j hj
  have hyi : idxB n2 (el x.nodes i).from_ = true := by rw [← hn]; exact hx _ (el_mem (by omega))
  have hsl := hw3.sl
  have hrdy : rdyT x.nodes tk i = (!(el tk i) && (waits (el x.nodes i)).all fun f => el tk f.toNat) := rfl
  have hwi : ∀ k, k < nw → ∃ f : Nat, el (waits (el x.nodes i)) k = f ∧ f < n2 := fun k hk => by
    obtain ⟨f, e1, e2⟩ := waits_idx hyi (i := k) (by omega)
    exact ⟨f, e1, by omega⟩
  generalize waits (el x.nodes i) = W at *
  refine awLoop_T (fun m T M' => ∃ k : Nat, k + m = nw ∧ M' = M4 ∧ look T 8 = some (.bool (!(el tk i) && (W.take k).all fun f => el tk f.toNat)) ∧ look T 33 = some (iv k) ∧ look T 32 = some (iv nw) ∧ look T 31 = some (.slice Aw nw cw) ∧ look T 20 = some (iv i) ∧ look T 19 = some (iv n2) ∧ look T 18 = some (.slice (some ⟨id, off, none⟩) n2 c2) ∧ look T 6 = some (iv i) ∧ look T 5 = some (.bool false) ∧ look T 4 = some v ∧ look T 3 = some (.slice (some ⟨M.length + 1, 0, none⟩) n2 n2) ∧ look T 1 = some (.pointer (some ⟨M.length, 0, none⟩))) nw
    ⟨0, by omega, rfl, by simp, by simp, by simp, by simp, by simp [t20], by simp [t19], by simp [t18], by simp, by simp [t5], by simp [t4], by simp [t3], by simp [t1]⟩ ?_
  clear t20 t19 t18 t5 t4 t3 t1 T
  rintro m' T M5 ⟨k, hk, rfl, t8, t33, t32, t31, t20, t19, t18, t6, t5, t4, t3, t1⟩
  by_cases hkw : k < nw
  · obtain ⟨id', off', rfl, he', hc'⟩ := hsl.at_ hkw
    have c1' := int_cell hc'
    simp only [Nat.mul_one] at c1'
    obtain ⟨f, hf, hfn⟩ := hwi k hkw
    rw [hf] at c1'
    have htake : (W.take (k + 1)).all (fun f => el tk f.toNat) = ((W.take k).all (fun f => el tk f.toNat) && el tk f) := by
      rw [take_el (by omega), List.all_append, hf]; simp
    have cf := c4' f hfn
    generalize hg : (W.take k).all (fun f => el tk f.toNat) = g at *
    simp (disch := omega) [t33, t32, t31, hkw, c1', he', t8]
    cases hb : (!(el tk i) && g)
    · simp (disch := omega) [t8, hb, t3, t33, t32, t31, wrap_in]
      refine lpI (m' - 1) (by omega) ⟨k + 1, by omega, rfl, ?_, by simp, by simp [t32], by simp [t31], by simp [t20], by simp [t19], by simp [t18], by simp [t6], by simp [t5], by simp [t4], by simp [t3], by simp [t1]⟩
      rw [htake, ← Bool.and_assoc, hb]; simp
    · simp (disch := omega) [t8, hb, t3, t33, t32, t31, wrap_in, hfn, e4, cf]
      refine lpI (m' - 1) (by omega) ⟨k + 1, by omega, rfl, ?_, by simp, by simp [t32], by simp [t31], by simp [t20], by simp [t19], by simp [t18], by simp [t6], by simp [t5], by simp [t4], by simp [t3], by simp [t1]⟩
      rw [htake, ← Bool.and_assoc, hb]; simp
  · obtain rfl : k = nw := by omega
    rw [List.take_of_length_le (by omega), ← hrdy] at t8
    simp (disch := omega) [t33, t32]
    cases hb : rdyT x.nodes tk i
    · simp (disch := omega) [t8, hb, t20, wrap_in]
      refine lpI (m - 1) (by omega) ⟨i + 1, by omega, fun j hj => ?_, k4, b4, r4, hA4, l4, by simp, by simp [t19], by simp [t18], by simp [t5], by simp [t4], by simp [t3], by simp [t1]⟩
      by_cases e : j = i
      · rw [e]; exact hb
      · exact hnr j (by omega)
    · have hfree := rdyT_free hb
      have hnx : nextT x.nodes tk = some i := nextT_some (by omega) hb hnr
      have hcs := count_set_true (by omega) hfree
      obtain ⟨M6, hput, r6, u6, n6⟩ : ∃ M6 : Mem, putCells M.length M5 (M.length + 1) i [.bool true] = some M6 ∧ M6[M.length + 1]? = some (.live ⟨cellsL boolR (tk.set i true), true, true, 4, 1⟩) ∧ (∀ (q : Nat) s, q ≠ M.length + 1 → M5[q]? = some s → M6[q]? = some s) ∧ M6.length = M5.length := by
        have hp := put_at_row (b := M.length) (p := i) (vs := [.bool true]) r4 (by omega) (by simp; omega) (by simp)
        have hset : splice (cellsL boolR tk) i [.bool true] = cellsL boolR (tk.set i true) := by
          have := splice_setI boolR (l := tk) (i := i) (a := true) (by omega)
          rw [Nat.mul_one] at this
          exact this
        rw [hset] at hp
        exact ⟨_, hp, List.getElem?_set_self (by omega), fun q s hq hs => by rw [List.getElem?_set_ne (Ne.symm hq)]; exact hs, by simp⟩
      have k6 : Keeps M M6 := by
        unfold Keeps
        exact fun q s hs => u6 q s (by have := (List.getElem?_eq_some_iff.1 hs).1; omega) (k4.get hs)
      have b6 : cellAt M6 M.length 2 = some (.slice (some ⟨id, off, none⟩) n2 c2) := by
        unfold cellAt at b4 ⊢
        cases hm : M5[M.length]? with
        | none => rw [hm] at b4; cases b4
        | some s => rw [u6 _ _ (by omega) hm]; rw [hm] at b4; exact b4
      have hA6 : Acc intR 2 (M.length + 2) M6 v out := by
        obtain ⟨A, q, cc, e1, e2, e3⟩ := hA4
        refine ⟨A, q, cc, e1, e2, ?_⟩
        rcases e3 with e3 | ⟨ida, tt, e4, e5, e6⟩
        · exact .inl e3
        · exact .inr ⟨ida, tt, e4, e5, u6 _ _ (by omega) e6⟩
      simp (disch := omega) [t8, hb, t3, t6, hlt, e4, hput, t4, fill1I]
      refine (hA6.keeps (keeps_app _)).append (R := intR) (e := 2) (by_ := 8) (a := (i : Int)) (by omega) (by simp; omega) (by omega) (by simp) (by kernel_rfl) (by simp [srcOf, intR]) (by rfl) (by omega) (by unfold maxLen; omega) ?_
      intro v' M7 hA7 hS7
      try simp (disch := omega) [t20]
      have n7 := hS7.1
      simp only [List.length_append, List.length_cons, List.length_nil] at n7
      have r7 := hS7.2 (M.length + 1) _ (by omega) (by rw [List.getElem?_append_left (by omega)]; exact r6)
      have k7 : Keeps M M7 := hS7.keeps (k6.app _) (by omega)
      have b7 : cellAt M7 M.length 2 = some (.slice (some ⟨id, off, none⟩) n2 c2) := by
        unfold cellAt at b6 ⊢
        cases hm : M6[M.length]? with
        | none => rw [hm] at b6; cases b6
        | some s => rw [hS7.2 M.length s (by omega) (by rw [List.getElem?_append_left (by omega)]; exact hm)]; rw [hm] at b6; exact b6
      have hvs7 : ∃ a n c, v' = .slice (some a) n c := by
        obtain ⟨A, q, cc, e1, e2, e3⟩ := hA7
        rcases e3 with ⟨-, e3, -⟩ | ⟨ida, tt, e3, -⟩
        · simp at e2; omega
        · exact ⟨_, q, cc, by rw [e1, e3]⟩
      refine lpI c (by omega) ⟨true, c - 1, tk.set i true, out ++ [(i : Int)], v', by simp; omega, fun _ => ⟨by omega, ?_⟩, (fun h => by cases h), by simp; omega, by simp [htk], k7, b7, r7, hA7, by omega, hvs7, by simp, by simp, by simp [t3], by simp [t1]⟩
      rw [hord]
      cases c with
      | zero => omega
      | succ c => show (match nextT x.nodes tk with | none => out | some i => _) = _; rw [hnx]; rfl
end Go.Proofs.Ytimijeeihicohaa

namespace Go.Proofs.Ytimijeeihicohaa
open Go.RowKit
set_option linter.unusedVariables false
set_option linter.unusedSimpArgs false
set_option maxRecDepth 100000
attribute [local simp] List.getElem?_cons_zero
attribute [local irreducible] awCond awCall awLoop awDraw ow retQ retC resQ Keeps
def patB (p : Patch) : Bool := formB p && decide ((ordL p.nodes).length = p.nodes.length)
def instB (i : Inst) : Bool := patB i.pat && (decide (i.pat.inp = 3) && (decide (i.pat.outs.length = 1) && (envB i.env && (decide (i.steps.length = 12) && areSB i.steps))))
theorem formB_nodes {p : Patch} (h : formB p = true) : p.nodes.length ≤ 24 ∧ (∀ y, y ∈ p.nodes → idxB p.nodes.length y.from_ = true) ∧ (∀ y, y ∈ p.nodes → nodeF p y = true) := by
  unfold formB at h
  simp only [Bool.and_eq_true, decide_eq_true_eq, List.all_eq_true] at h
  refine ⟨h.1.1.1.2, fun y hy => ?_, h.2⟩
  have := h.2 y hy
  unfold nodeF at this
  simp only [Bool.and_eq_true] at this
  exact this.2.1
theorem order_b {M : Mem} {lo hi : Nat} {us : List Value} {x : Patch} (h : patchP.rd lo hi M x us) (hf : formB x = true) : Det Try.prog M.length 109 [.agg us.toArray] M (.slice (some ⟨M.length, 0, none⟩) (ordL x.nodes).length 0) (M ++ [.dead]) := by
  obtain ⟨h1, h2, -⟩ := formB_nodes hf
  refine ((order_i h h2 h1).mono ?_).blind
  rintro r M' ⟨hA, hk, a, n, c, rfl⟩
  obtain ⟨_, _, _, e, hl, -⟩ := hA.sl
  injection e with e1 e2 e3
  exact ⟨⟨a, c, by rw [← hl.trans e2.symm]⟩, hk⟩
theorem isPatch_i {M : Mem} {lo hi : Nat} {us : List Value} {x : Patch} (h : patchP.rd lo hi M x us) : Det Try.prog M.length 80 [.agg us.toArray] M (.bool (patB x)) M := by
  have hx := h
  obtain ⟨u1, u2, u3, rfl, hu1, hu2, hu3⟩ := h
  obtain ⟨A1, n1, c1, rfl⟩ := hu1.isSl
  obtain ⟨A2, n2, c2, e2, p1, p2, p3⟩ := hu2
  obtain ⟨A3, n3, c3, rfl⟩ := hu3.isSl
  subst e2
  have hn := p3.1
  first | (refine det_fn Try.func80 rfl Try.ntmps80 Try.results80 rfl rfl rfl (by simp) ?_) | (refine det_fnC Try.func80 rfl Try.ntmps80 Try.results80 rfl rfl (by simp) ?_)
  simp
  by_cases hf : formB x = true
  case neg =>
    rw [Bool.not_eq_true] at hf
    refine awDraw_E 9 [[],[0],[1,0],[2,1,0],[3,2,1,0],[4,3,2,1,0],[2,1,0],[6,2,1,0],[7,6,2,1,0],[5,4,3,2,1,0,8,7,6],[2,1,0,9,5,4,3,8,7,6],[10,2,1,0,9,5,4,3,8,7,6]] (by kernel_rfl) (by kernel_rfl) ?_
    simp
    refine awCall_det' (isWellFormed_i (patchP.app hx _)) (by simp) ?_
    simp [hf, patB, keeps_app]
  refine awDraw_D 9 [[],[0],[1,0],[2,1,0],[3,2,1,0],[4,3,2,1,0],[2,1,0],[6,2,1,0],[7,6,2,1,0],[5,4,3,2,1,0,8,7,6],[2,1,0,9,5,4,3,8,7,6],[10,2,1,0,9,5,4,3,8,7,6]] (by kernel_rfl) (by decide +kernel) ?_
  simp
  refine awCall_det' (isWellFormed_i (patchP.app hx _)) (by simp) ?_
  simp [hf]
  refine awCall_det' (order_b (patchP.app hx _) hf) (by simp) ?_
  simp
  by_cases hl : (ordL x.nodes).length = n2
  · simp [patB, hf, hn, hl, keeps_app]
  · have hl' : ¬ ((ordL x.nodes).length : Int) = n2 := by omega
    simp [patB, hf, hn, hl, hl', keeps_app]
theorem isInstrument_i {M : Mem} {lo hi : Nat} {us : List Value} {x : Inst} (h : instP.rd lo hi M x us) : Det Try.prog M.length 52 [.agg us.toArray] M (.bool (instB x)) M := by
  obtain ⟨ps, es, w, rfl, hp, he, hw⟩ := h
  have hp2 := hp
  obtain ⟨u1, u2, u3, rfl, hu1, hu2, hu3⟩ := hp2
  obtain ⟨A1, n1, c1, rfl⟩ := hu1.isSl
  obtain ⟨A2, n2, c2, rfl⟩ := hu2.isSl
  obtain ⟨A3, n3, c3, e3, q1, q2, q3⟩ := hu3
  subst e3
  obtain ⟨A4, n4, c4, rfl⟩ := env_isV he
  have hw2 := hw
  obtain ⟨A5, n5, c5, rfl, r1, r2, r3⟩ := hw2
  have ho := q3.1
  have hs := r3.1
  first | (refine det_fn Try.func52 rfl Try.ntmps52 Try.results52 rfl rfl rfl (by simp) ?_) | (refine det_fnC Try.func52 rfl Try.ntmps52 Try.results52 rfl rfl (by simp) ?_)
  simp
  refine awCall_det' (isPatch_i (patchP.app hp _)) (by simp) ?_
  by_cases g1 : patB x.pat = true
  case neg => simp [g1, instB, keeps_app]
  by_cases g2 : x.pat.inp = 3
  case neg => simp [g1, g2, instB, keeps_app]
  by_cases g3 : n3 = 1
  case neg =>
    have g3' : ¬ (n3 : Int) = 1 := by omega
    simp [g1, g2, g3, g3', ho, instB, keeps_app]
  subst g3
  simp [g1, g2]
  refine awCall_det' (isEnvelope_i (envP.app he _)) (by simp) ?_
  by_cases g4 : envB x.env = true
  case neg => simp [g1, g2, ho, g4, instB, keeps_app]
  by_cases g5 : n5 = 12
  case neg =>
    have g5' : ¬ (n5 : Int) = 12 := by omega
    simp [g1, g2, ho, g4, g5, g5', hs, instB, keeps_app]
  subst g5
  simp [g4]
  refine awCall_det' (areSamples_i (hw.app _)) (by simp) ?_
  simp [g1, g2, ho, g4, hs, instB, keeps_app]
end Go.Proofs.Ytimijeeihicohaa

namespace Go.Proofs.Ytimijeeihicohaa
open Go.RowKit
set_option linter.unusedVariables false
set_option linter.unusedSimpArgs false
theorem ordT_low {ns : List Node} (h : ∀ i, i < ns.length → ∀ f, f ∈ waits (el ns i) → 0 ≤ f ∧ f < i) : ∀ (m k : Nat) (tk : List Bool) (out : List Int), k + m = ns.length → tk.length = ns.length → (∀ i, i < ns.length → el tk i = decide (i < k)) → out.length = k → (ordT ns m tk out).length = ns.length
  | 0, k, tk, out, hk, _, _, ho => by rw [ordT, ho]; omega
  | m + 1, k, tk, out, hk, hl, ht, ho => by
    have hkn : k < ns.length := by omega
    have hr : rdyT ns tk k = true := by
      unfold rdyT
      rw [ht k hkn, decide_eq_false (by omega)]
      simp only [Bool.not_false, Bool.true_and, List.all_eq_true]
      intro f hf
      obtain ⟨h1, h2⟩ := h k hkn f hf
      rw [ht f.toNat (by omega)]
      exact decide_eq_true (by omega)
    have hn := nextT_some hkn hr fun j hj => by
      unfold rdyT
      rw [ht j (by omega), decide_eq_true hj]
      rfl
    rw [ordT, hn]
    refine ordT_low h m (k + 1) (tk.set k true) (out ++ [(k : Int)]) (by omega) (by simpa using hl) (fun i hi => ?_) (by simp; omega)
    by_cases e : k = i
    · subst e
      simp [el, hl, hkn]
    · have e1 : el (tk.set k true) i = el tk i := by simp [el, List.getElem?_set_ne e]
      rw [e1, ht i hi]
      by_cases h1 : i < k
      · rw [decide_eq_true h1, decide_eq_true (by omega)]
      · rw [decide_eq_false h1, decide_eq_false (by omega)]
theorem ordL_low {ns : List Node} (h : ∀ i, i < ns.length → ∀ f, f ∈ waits (el ns i) → 0 ≤ f ∧ f < i) : (ordL ns).length = ns.length :=
  ordT_low h ns.length 0 _ [] (by omega) (by simp) (fun i hi => by simp [el, hi]) rfl
/-- A patch that is well formed and whose nodes wait for earlier ones alone is valid. -/
theorem patB_low {p : Patch} (hf : formB p = true) (h : ∀ i, i < p.nodes.length → ∀ f, f ∈ waits (el p.nodes i) → 0 ≤ f ∧ f < i) : patB p = true := by
  unfold patB
  rw [hf, ordL_low h]
  simp
end Go.Proofs.Ytimijeeihicohaa

namespace Go.Proofs.Ytimijeeihicohaa
open Go.RowKit
set_option linter.unusedVariables false
set_option linter.unusedSimpArgs false
set_option maxRecDepth 100000
attribute [local simp] List.getElem?_cons_zero
attribute [local irreducible] awCond awCall awLoop awDraw ow retQ retC resQ Keeps
theorem l00Has_s {M : Mem} {lo hi : Nat} {u : Value} {l : List Int} (z : Int) (h : SlV intP lo hi M u l) : Det Try.prog M.length 139 [u, iv z] M (.bool (decide (z ∈ l))) M := by
  obtain ⟨A, n, c, rfl, h1, h2, h3⟩ := h
  have hl := h3.1
  replace h3 := h3.sl
  first | (refine det_fn Try.func139 rfl Try.ntmps139 Try.results139 rfl rfl rfl (by simp) ?_) | (refine det_fnC Try.func139 rfl Try.ntmps139 Try.results139 rfl rfl (by simp) ?_)
  simp
  refine awLoop_T (fun m T M' => ∃ k : Nat, k + m = n ∧ M' = M ∧ look T 5 = some (iv k) ∧ look T 0 = some (.slice A n c) ∧ look T 1 = some (iv z) ∧ ∀ i, i < k → el l i ≠ z) n ⟨0, by omega, rfl, by simp, by simp, by simp, fun i hi => by omega⟩ ?_
  rintro m T M' ⟨k, hm, rfl, t5, t0, t1, hk⟩
  by_cases hlt : k < n
  · obtain ⟨id, off, rfl, he, hc⟩ := h3.at_ hlt
    have c1 := int_cell hc
    simp only [Nat.mul_one] at c1
    by_cases hz : el l k = z
    · simp (disch := omega) [t5, t0, t1, hlt, c1, he, hz]
      refine ⟨?_, Keeps.refl _⟩
      rw [← hz]
      exact el_mem (by omega)
    · simp (disch := omega) [t5, t0, t1, hlt, c1, he, hz, wrap_in]
      refine lpI (m - 1) (by omega) ⟨k + 1, by omega, rfl, by simp, by simp [t0], by simp [t1], fun i hi => ?_⟩
      by_cases e : i = k
      · rw [e]; exact hz
      · exact hk i (by omega)
  · obtain rfl : k = n := by omega
    have hz : z ∉ l := fun hh => by
      obtain ⟨i, hi, e⟩ := List.getElem_of_mem hh
      rw [el_eq hi] at e
      exact hk i (by omega) e
    simp [t5, t0, Keeps.refl, hz]
theorem l03Ok_s {M : Mem} {lo hi : Nat} {u : Value} {l : List Int} (h : SlV intP lo hi M u l) (hb : l.length ≤ 4000) : Det Try.prog M.length 60 [u] M (.bool (areSB l)) M := by
  obtain ⟨A, n, c, rfl, h1, h2, h3⟩ := h
  have hl := h3.1
  replace h3 := h3.sl
  have e0 : ¬ (4000 : Int) < n := by omega
  first | (refine det_fn Try.func60 rfl Try.ntmps60 Try.results60 rfl rfl rfl (by simp) ?_) | (refine det_fnC Try.func60 rfl Try.ntmps60 Try.results60 rfl rfl (by simp) ?_)
  simp [e0]
  refine awLoop_T (fun m T M' => ∃ k : Nat, k + m = n ∧ M' = M ∧ look T 3 = some (iv k) ∧ look T 0 = some (.slice A n c) ∧ ∀ i, i < k → sampleB (el l i) = true) n ⟨0, by omega, rfl, by simp, by simp, fun i hi => by omega⟩ ?_
  rintro m T M' ⟨k, hm, rfl, t3, t0, hk⟩
  by_cases hlt : k < n
  · obtain ⟨id, off, rfl, he, hc⟩ := h3.at_ hlt
    have c1 := int_cell hc
    simp only [Nat.mul_one] at c1
    simp (disch := omega) [t3, t0, hlt, c1, he]
    refine awCall_det' (l01Sample_a (el l k)) (Nat.le_refl _) ?_
    by_cases hs : sampleB (el l k) = true
    · have hs' : inB (el l k) (-2147483648) 2147483647 = true := hs
      simp (disch := omega) [hs', t3, t0, wrap_in]
      refine lpI (m - 1) (by omega) ⟨k + 1, by omega, rfl, by simp, by simp [t0], fun i hi => ?_⟩
      by_cases e : i = k
      · rw [e]; exact hs
      · exact hk i (by omega)
    · rw [Bool.not_eq_true] at hs
      have hs' : inB (el l k) (-2147483648) 2147483647 = false := hs
      simp [hs']
      exact ⟨all_no (by omega) hs, Keeps.refl _⟩
  · obtain rfl : k = n := by omega
    simp [t3, t0, Keeps.refl]
    exact all_yes fun i hi => hk i (by omega)
theorem lit_slv {M : Mem} {l : List Int} {n : Nat} {cs : List Value} {e : TypeId} (hc : cs = cellsL intR l) (hn : l.length = n) (hb : n ≤ 1000) : SlV intP M.length (M ++ [Slot.live ⟨cs, true, true, e, 1⟩]).length (M ++ [Slot.live ⟨cs, true, true, e, 1⟩]) (.slice (some ⟨M.length, 0, none⟩) n n) l := by
  subst hc
  refine ⟨_, n, n, rfl, by omega, (fun h => by cases h), SlP.of_sl (Sl.new hn) fun a e _ => ?_⟩
  injection e with e
  subst e
  exact ⟨Nat.le_refl _, by simp⟩
end Go.Proofs.Ytimijeeihicohaa

namespace Go.Proofs.Ytimijeeihicohaa
open Go.RowKit
set_option linter.unusedVariables false
set_option linter.unusedSimpArgs false
set_option maxRecDepth 100000
attribute [local simp] List.getElem?_cons_zero
attribute [local irreducible] awCond awCall awLoop awDraw ow retQ retC resQ Keeps
theorem l00Max_v {M : Mem} (a b : Int) : Det Try.prog M.length 92 [iv a, iv b] M (iv (max a b)) M := by
  first | (refine det_fn Try.func92 rfl Try.ntmps92 Try.results92 rfl rfl rfl (by simp) ?_) | (refine det_fnC Try.func92 rfl Try.ntmps92 Try.results92 rfl rfl (by simp) ?_)
  simp
  by_cases h : b < a
  · simp [h, Keeps.refl]; omega
  · simp [h, Keeps.refl]; omega
theorem fill10I (a b c d e f g h i j : Int) : Instr.fill (fun i => some (i, 1)) (zrow [iv 0] 10).toArray [(0, iv a), (1, iv b), (2, iv c), (3, iv d), (4, iv e), (5, iv f), (6, iv g), (7, iv h), (8, iv i), (9, iv j)] = some #[iv a, iv b, iv c, iv d, iv e, iv f, iv g, iv h, iv i, iv j] := by
  have := fill_recs intR [a, b, c, d, e, f, g, h, i, j] (n := 10) (z := [iv 0]) (by omega) rfl rfl
  simp [Instr.fill, Value.cells, zrow]
theorem l06HasA_s {M : Mem} (z : Int) : Det Try.prog M.length 132 [iv z] M (.bool (decide (z ∈ hasAL))) M := by
  first | (refine det_fn Try.func132 rfl Try.ntmps132 Try.results132 rfl rfl rfl (by simp) ?_) | (refine det_fnC Try.func132 rfl Try.ntmps132 Try.results132 rfl rfl (by simp) ?_)
  simp [fill10I]
  have hd := l00Has_s z (lit_slv (M := M) (n := 10) (l := hasAL) (cs := [iv 1, iv 2, iv 5, iv 6, iv 10, iv 11, iv 12, iv 13, iv 14, iv 17]) (e := 2) rfl rfl (by omega))
  refine awCall_det' hd (by simp) ?_
  simp [keeps_app]
theorem fill18I : Instr.fill (fun i => some (i, 1)) (zrow [iv 0] 18).toArray [(0, iv (-1)), (1, iv 0), (2, iv 0), (3, iv 2), (4, iv 2), (5, iv 1), (6, iv 1), (7, iv 1), (8, iv 1), (9, iv 2), (10, iv 1), (11, iv 1), (12, iv 1), (13, iv 1), (14, iv 0), (15, iv 3), (16, iv 2), (17, iv 1)] = some #[iv (-1), iv 0, iv 0, iv 2, iv 2, iv 1, iv 1, iv 1, iv 1, iv 2, iv 1, iv 1, iv 1, iv 1, iv 0, iv 3, iv 2, iv 1] := by
  simp [Instr.fill, Value.cells, zrow]
theorem l06Arity_s {M : Mem} (z : Int) (hz : inB z 1 17 = true) : Det Try.prog M.length 101 [iv z] M (iv (el arityL z.toNat)) M := by
  have hz' := inB_iff.1 hz
  obtain ⟨k, rfl⟩ := Int.eq_ofNat_of_zero_le (show 0 ≤ z by omega)
  have hk : k < 18 := by omega
  have hk' : (k : Int) < 18 := by omega
  have hg : (cellsL intR arityL)[k]? = some (iv (el arityL k)) := by
    have := cellsL_get intR (l := arityL) (i := k) (j := 0) hk (by omega)
    rw [Nat.mul_one, Nat.add_zero] at this
    rw [this]; rfl
  replace hg : ([iv (-1), iv 0, iv 0, iv 2, iv 2, iv 1, iv 1, iv 1, iv 1, iv 2, iv 1, iv 1, iv 1, iv 1, iv 0, iv 3, iv 2, iv 1] : List Value)[k]? = some (iv (el arityL k)) := hg
  first | (refine det_fn Try.func101 rfl Try.ntmps101 Try.results101 rfl rfl rfl (by simp) ?_) | (refine det_fnC Try.func101 rfl Try.ntmps101 Try.results101 rfl rfl (by simp) ?_)
  simp only [Int.toNat_natCast]
  generalize el arityL k = y at hg ⊢
  simp (disch := omega) [fill18I, hk']
  obtain ⟨_, e⟩ := List.getElem?_eq_some_iff.1 hg
  exact ⟨e, keeps_app _⟩
end Go.Proofs.Ytimijeeihicohaa

namespace Go.Proofs.Ytimijeeihicohaa
open Go.RowKit
set_option linter.unusedVariables false
set_option linter.unusedSimpArgs false
set_option maxRecDepth 100000
attribute [local simp] List.getElem?_cons_zero
attribute [local irreducible] awCond awCall awLoop awDraw ow retQ retC resQ Keeps
/-- What is taken, as the reference keeps it. -/
structure TkOut (ns : List Node) (tk : List Bool) (out : List Int) : Prop where
  len : tk.length = ns.length
  iff : ∀ i : Nat, i < ns.length → (el tk i = true ↔ (i : Int) ∈ out)
theorem TkOut.nil (ns : List Node) : TkOut ns (List.replicate ns.length false) [] := ⟨by simp, fun i hi => by simp [el, hi]⟩
theorem TkOut.next {ns : List Node} {tk : List Bool} {out : List Int} (h : TkOut ns tk out) {i : Nat} (hi : i < ns.length) : TkOut ns (tk.set i true) (out ++ [(i : Int)]) := by
  refine ⟨by simp [h.len], fun j hj => ?_⟩
  by_cases e : j = i
  · subst e
    have : el (tk.set j true) j = true := by simp [el, h.len, hj]
    simp [this]
  · have : el (tk.set i true) j = el tk j := by simp [el, List.getElem?_set_ne (Ne.symm e)]
    rw [this, h.iff j hj]
    simp
    omega
theorem TkOut.rdy {ns : List Node} {tk : List Bool} {out : List Int} (h : TkOut ns tk out) {i : Nat} (hi : i < ns.length) (hw : ∀ k, k < (waits (el ns i)).length → ∃ f : Nat, el (waits (el ns i)) k = f ∧ f < ns.length) :
    rdyT ns tk i = (!decide ((i : Int) ∈ out) && (waits (el ns i)).all fun f => decide (f ∈ out)) := by
  unfold rdyT
  have e1 : el tk i = decide ((i : Int) ∈ out) := by
    have := h.iff i hi
    rw [Bool.eq_iff_iff, this]
    simp
  rw [e1]
  congr 1
  generalize waits (el ns i) = W at hw
  rw [Bool.eq_iff_iff, List.all_eq_true, List.all_eq_true]
  have key : ∀ y, y ∈ W → (el tk y.toNat = true ↔ decide (y ∈ out) = true) := by
    intro y hy
    obtain ⟨k, hk, rfl⟩ := List.getElem_of_mem hy
    obtain ⟨f, hf, hfl⟩ := hw k hk
    rw [el_eq hk, hf]
    have := h.iff f hfl
    simp [this]
  exact ⟨fun hh y hy => (key y hy).1 (hh y hy), fun hh y hy => (key y hy).2 (hh y hy)⟩
end Go.Proofs.Ytimijeeihicohaa

namespace Go.Proofs.Ytimijeeihicohaa
open Go.RowKit
set_option linter.unusedVariables false
set_option linter.unusedSimpArgs false
set_option maxRecDepth 100000
attribute [local simp] List.getElem?_cons_zero
attribute [local irreducible] awCond awCall awLoop awDraw ow retQ retC resQ Keeps
end Go.Proofs.Ytimijeeihicohaa

namespace Go.Proofs.Ytimijeeihicohaa
open Go.RowKit
set_option linter.unusedVariables false
set_option linter.unusedSimpArgs false
set_option maxRecDepth 100000
attribute [local simp] List.getElem?_cons_zero
attribute [local irreducible] awCond awCall awLoop awDraw ow retQ retC resQ Keeps
/-- The sample that differs from n by a multiple of 2^32. -/
def smp (n : Int) : Int := (n + 2147483648) % 4294967296 - 2147483648
theorem smp_bd (n : Int) : -2147483648 ≤ smp n ∧ smp n ≤ 2147483647 := by unfold smp; omega
theorem andS (n : Int) : intV .and .i64 n 4294967295 = some (.int .i64 (n % 4294967296)) := by
  have h1 : (BitVec.ofInt 64 (4294967295 : Int)).toNat = 2 ^ 32 - 1 := by decide
  have h2 : ((BitVec.ofInt 64 n).toNat : Int) = n % 18446744073709551616 := by
    rw [BitVec.toNat_ofInt]
    have := Int.emod_nonneg n (show (18446744073709551616 : Int) ≠ 0 by decide)
    show ((n % 18446744073709551616).toNat : Int) = _
    omega
  have key : IntKind.i64.wrap ((BitVec.ofInt 64 n &&& BitVec.ofInt 64 4294967295).toNat : Int) = n % 4294967296 := by
    rw [BitVec.toNat_and, h1, Nat.and_two_pow_sub_one_eq_mod, IntKind.wrap_i64]
    have h3 : (((BitVec.ofInt 64 n).toNat % 2 ^ 32 : Nat) : Int) = (n % 18446744073709551616) % 4294967296 := by
      rw [Int.natCast_emod, h2]
      rfl
    rw [h3]
    omega
  show some (Value.int .i64 (IntKind.i64.wrap ((BitVec.ofInt 64 n &&& BitVec.ofInt 64 4294967295).toNat : Int))) = _
  rw [key]
theorem Wrap_s {M : Mem} (n : Int) : Det Try.prog M.length 83 [iv n] M (iv (smp n)) M := by
  have e : IntKind.i64.wrap (IntKind.i32.wrap n) = smp n := by
    rw [IntKind.wrap_i32, IntKind.wrap_i64]; unfold smp; omega
  first | (refine det_fn Try.func83 rfl Try.ntmps83 Try.results83 rfl rfl rfl (by simp) ?_) | (refine det_fnC Try.func83 rfl Try.ntmps83 Try.results83 rfl rfl (by simp) ?_)
  simp [e, Keeps.refl]
theorem l01Wrap_t {M : Mem} (n : Int) : Det Try.prog M.length 104 [iv n] M (iv (smp n)) M := by
  have h1 : 0 ≤ n % 4294967296 ∧ n % 4294967296 < 4294967296 := by omega
  first | (refine det_fn Try.func104 rfl Try.ntmps104 Try.results104 rfl rfl rfl (by simp) ?_) | (refine det_fnC Try.func104 rfl Try.ntmps104 Try.results104 rfl rfl (by simp) ?_)
  simp [andS]
  by_cases hb : 2147483647 < n % 4294967296
  · simp (disch := omega) [hb, wrap_in, Keeps.refl]
    unfold smp; omega
  · simp (disch := omega) [hb, wrap_in, Keeps.refl]
    unfold smp; omega
def incr (st : List Int) (key : Int) : Int := smp (el st (key % 12).toNat * 2 ^ (key / 12).toNat)
theorem instB_steps {x : Inst} (h : instB x = true) : x.steps.length = 12 ∧ ∀ i, i < 12 → -2147483648 ≤ el x.steps i ∧ el x.steps i ≤ 2147483647 := by
  unfold instB at h
  simp only [Bool.and_eq_true, decide_eq_true_eq] at h
  obtain ⟨-, -, -, -, h1, h2⟩ := h
  refine ⟨h1, fun i hi => ?_⟩
  have := List.all_eq_true.1 h2 _ (el_mem (l := x.steps) (i := i) (by omega))
  exact inB_iff.1 this
theorem shift_bd {a : Int} {c : Nat} (h1 : -2147483648 ≤ a) (h2 : a ≤ 2147483647) (hc : c ≤ 10) : -9223372036854775808 ≤ a * 2 ^ c ∧ a * 2 ^ c ≤ 9223372036854775807 := by
  have h : c = 0 ∨ c = 1 ∨ c = 2 ∨ c = 3 ∨ c = 4 ∨ c = 5 ∨ c = 6 ∨ c = 7 ∨ c = 8 ∨ c = 9 ∨ c = 10 := by omega
  rcases h with h | h | h | h | h | h | h | h | h | h | h <;> subst h <;> simp <;> omega
theorem shlS {a : Int} {c : Nat} (h1 : -2147483648 ≤ a) (h2 : a ≤ 2147483647) (hc : c ≤ 10) : intV .shl .i64 a c = some (.int .i64 (a * 2 ^ c)) := by
  obtain ⟨g1, g2⟩ := shift_bd h1 h2 hc
  have e : intV .shl .i64 a (c : Int) = some (.int .i64 (IntKind.i64.wrap (a * 2 ^ (min ((c : Int)).toNat IntKind.i64.bits)))) := by
    show (if (c : Int) < 0 then none else _) = _
    simp [show ¬ ((c : Int) < 0) by omega]
  rw [e]
  have : min ((c : Int)).toNat IntKind.i64.bits = c := by
    have : IntKind.i64.bits = 64 := rfl
    rw [this]; omega
  rw [this, wrap_in g1 g2]
theorem increment_i {M : Mem} {lo hi : Nat} {us : List Value} {x : Inst} {key : Int} (h : instP.rd lo hi M x us) (hb : instB x = true) (hk : inB key 0 127 = true) : Det Try.prog M.length 54 [.agg us.toArray, iv key] M (iv (incr x.steps key)) M := by
  obtain ⟨ps, es, w, rfl, hp, he, hw⟩ := h
  obtain ⟨A1, n1, c1, A2, n2, c2, A3, n3, c3, rfl⟩ := patch_isV hp
  obtain ⟨A4, n4, c4, rfl⟩ := env_isV he
  obtain ⟨A5, n5, c5, rfl, r1, r2, r3⟩ := hw
  have hk' := inB_iff.1 hk
  obtain ⟨hl, hst⟩ := instB_steps hb
  have hn := r3.1
  obtain ⟨k, rfl⟩ := Int.eq_ofNat_of_zero_le hk'.1
  have e12 : ((k : Int).tmod 12) = ((k % 12 : Nat) : Int) := by rw [Int.tmod_eq_emod_of_nonneg (by omega)]; omega
  have d12 : ((k : Int).tdiv 12) = ((k / 12 : Nat) : Int) := by rw [Int.tdiv_eq_ediv_of_nonneg (by omega)]; omega
  have hlt : k % 12 < n5 := by omega
  obtain ⟨id, off, rfl, hez, hc⟩ := r3.sl.at_ hlt
  have c1' := int_cell hc
  simp only [Nat.mul_one] at c1'
  have hs := hst (k % 12) (by omega)
  have hlt' : ((k % 12 : Nat) : Int) < n5 := by omega
  have t12 : ((k : Int) % 12).toNat = k % 12 := by omega
  have u12 : IntKind.u64.wrap ((k : Int) / 12) = ((k / 12 : Nat) : Int) := by rw [IntKind.wrap_u64]; omega
  have s12 : intV .shl .i64 (el x.steps (k % 12)) ((k : Int) / 12) = some (.int .i64 (el x.steps (k % 12) * 2 ^ (k / 12))) := by
    have := shlS (c := k / 12) hs.1 hs.2 (by omega)
    rw [show (((k / 12 : Nat)) : Int) = (k : Int) / 12 by omega] at this
    exact this
  have l12 : (0 : Int) ≤ (k : Int) % 12 ∧ (k : Int) % 12 < (n5 : Int) := by omega
  first | (refine det_fn Try.func54 rfl Try.ntmps54 Try.results54 rfl rfl rfl (by simp) ?_) | (refine det_fnC Try.func54 rfl Try.ntmps54 Try.results54 rfl rfl (by simp) ?_)
  simp (disch := omega) [e12, d12, wrap_in, hlt', hez, c1', cellAt_app c1', rowEsz_keeps (keeps_app _) hez, t12, u12, s12, l12, binV_shift (op := .shl) rfl]
  refine awCall_det' (Wrap_s _) (by simp) ?_
  refine ⟨?_, keeps_app _⟩
  unfold incr
  rw [show ((k : Int) % 12).toNat = k % 12 by omega, show ((k : Int) / 12).toNat = k / 12 by omega]
end Go.Proofs.Ytimijeeihicohaa

namespace Go.Proofs.Ytimijeeihicohaa
open Go.RowKit
set_option linter.unusedVariables false
set_option linter.unusedSimpArgs false
set_option maxRecDepth 100000
attribute [local simp] List.getElem?_cons_zero
attribute [local irreducible] awCond awCall awLoop awDraw ow retQ retC resQ Keeps
def smB (x : Int) : Prop := -2147483648 ≤ x ∧ x ≤ 2147483647
theorem smB_smp (n : Int) : smB (smp n) := smp_bd n
theorem l01Draw_b {M : Mem} {b g k B : Nat} (h : Src g B M k) (hb : b ≤ g) (hB : B ≤ M.length) (hk : k ≤ 1048576) :
    Ctr Try.prog b 71 [.pointer (some ⟨g, 0, none⟩)] M fun r M' => ∃ (x : Int) (k' : Nat), r = iv x ∧ smB x ∧ k' ≤ k + 6 ∧ Src g B M' k' ∧ Grow g M M' := by
  have hg := h.lt
  first | (refine ctr_fn Try.func71 rfl Try.ntmps71 Try.results71 rfl rfl (by simp) ?_) | (refine ctr_fnC Try.func71 rfl Try.ntmps71 Try.results71 rfl (by simp) ?_)
  simp
  refine awCall_ctr (h.pick 8 hb (by omega) (by omega)) ?_
  rintro r M1 ⟨x, k1, rfl, x0, x1, hk1, h1, u1⟩
  have n1 := u1.1
  by_cases e0 : x = 0
  · subst e0
    simp [fill6]
    have hsl : Sl intR (M1 ++ [.live ⟨cellsL intR [-2147483648, 2147483647, -2147483647, 65536, -65536, 1073741824], true, true, 2, 1⟩]) (some ⟨M1.length, 0, none⟩) 6 [-2147483648, 2147483647, -2147483647, 65536, -65536, 1073741824] := Sl.new rfl
    refine awCall_ctr (among_s (c := 6) (h1.app _) hb (by omega) hsl (fun a e _ => by injection e with e; subst e; show M1.length ≠ g; omega) (by omega) (by omega)) ?_
    rintro r M2 ⟨z, k2, rfl, hz, hk2, h2, u2⟩
    simp
    refine ⟨?_, k2, by omega, h2, (u1.grow.trans (Grow.app _ _ _)).trans u2.grow⟩
    simp at hz
    unfold smB
    omega
  by_cases e1 : x = 1
  · subst e1
    simp
    refine awCall_ctr (nextS h1 hb (by omega)) ?_
    rintro r M2 ⟨y, rfl, y0, y1, h2, u2⟩
    try simp
    refine awLoop_T (fun m T M' => ∃ (j : Nat) (y : Int), j + m = 3 ∧ 0 ≤ y ∧ y < 256 ^ (j + 1) ∧ Src g B M' (k1 + 1 + j) ∧ Grow g M M' ∧ look T 4 = some (iv j) ∧ look T 3 = some (iv y) ∧ look T 0 = some (.pointer (some ⟨g, 0, none⟩))) 3 ⟨0, y, by omega, y0, by simp; omega, h2, u1.grow.trans u2.grow, by simp, by simp, by simp⟩ ?_
    rintro m T M3 ⟨j, z, hj, z0, z1, h3, g3, t4, t3, t0⟩
    by_cases hj3 : j < 3
    · have hz : z < 16777216 := by
        rcases j with _ | _ | _ | j
        · simp at z1; omega
        · simp at z1; omega
        · simp at z1; omega
        · omega
      have hj' : (j : Int) < 3 := by omega
      simp (disch := omega) [t4, t3, t0, hj', wrap_in]
      refine awCall_ctr (nextS h3 hb (by omega)) ?_
      rintro r M4 ⟨y', rfl, y0', y1', h4, u4⟩
      simp (disch := omega) [t4, t3, t0, hj', wrap_in]
      refine lpI (m - 1) (by omega) ?_
      refine ⟨j + 1, 256 * z + y', by omega, by omega, by rw [Int.pow_succ]; omega, h4, g3.trans u4.grow, by simp, by simp, by simp [t0]⟩
    · have hj' : ¬ (j : Int) < 3 := by omega
      simp (disch := omega) [t4, t3, t0, hj', wrap_in]
      refine awCall_det' (l01Wrap_t z) (by have := g3.1; have := h3.lt; omega) ?_
      simp
      exact ⟨smB_smp _, _, by omega, h3, g3⟩
  by_cases e2 : x = 2
  · subst e2
    simp
    exact ⟨⟨by omega, by omega⟩, k1, by omega, h1, u1.grow⟩
  simp [e0, e1, e2]
  refine awCall_ctr (h1.pick 41 hb (by omega) (by omega)) ?_
  rintro r M2 ⟨y, k2, rfl, y0, y1, hk2, h2, u2⟩
  simp (disch := omega) [wrap_in]
  exact ⟨⟨by omega, by omega⟩, k2, by omega, h2, u1.grow.trans u2.grow⟩
theorem l06DrawA_b {M : Mem} {b g k B : Nat} (z t : Int) (h : Src g B M k) (hb : b ≤ g) (hB : B ≤ M.length) (hk : k ≤ 1048576) (hz : 1 ≤ z ∧ z ≤ 17) (ht : z = 13 → 1 ≤ t ∧ t ≤ 4) :
    Ctr Try.prog b 118 [.pointer (some ⟨g, 0, none⟩), iv z, iv t] M fun r M' => ∃ (a : Int) (k' : Nat), r = iv a ∧ aB ⟨z, a, 0, []⟩ t = true ∧ (z = 1 → a ≤ 1) ∧ k' ≤ k + 6 ∧ Src g B M' k' ∧ Grow g M M' := by
  have hg := h.lt
  first | (refine ctr_fn Try.func118 rfl Try.ntmps118 Try.results118 rfl rfl (by simp) ?_) | (refine ctr_fnC Try.func118 rfl Try.ntmps118 Try.results118 rfl (by simp) ?_)
  simp
  by_cases e1 : z = 1
  · subst e1
    simp
    refine awCall_ctr (h.pick 2 hb (by omega) (by omega)) ?_
    rintro r M1 ⟨x, k1, rfl, x0, x1, hk1, h1, u1⟩
    simp
    exact ⟨by simp [aB, inB_iff]; omega, by omega, k1, by omega, h1, u1.grow⟩
  by_cases e6 : z = 6
  · subst e6
    simp
    refine awCall_ctr (h.pick 4 hb (by omega) (by omega)) ?_
    rintro r M1 ⟨x, k1, rfl, x0, x1, hk1, h1, u1⟩
    simp (disch := omega) [wrap_in]
    exact ⟨by simp [aB, inB_iff]; omega, k1, by omega, h1, u1.grow⟩
  by_cases e10 : z = 10
  · subst e10
    simp [fill5]
    refine awCall_ctr (among_new [1, 2, 0, 16, 31] rfl h hb (by omega) (by omega) (by omega) rfl hB) ?_
    rintro r M1 ⟨x, k1, rfl, hx, hk1, h1, u1⟩
    simp
    refine ⟨?_, k1, by omega, h1, u1⟩
    simp at hx
    simp [aB, inB_iff]; omega
  by_cases e11 : z = 11
  · subst e11
    simp [fill4]
    refine awCall_ctr (among_new [10, 0, 100, 2147483647] rfl h hb (by omega) (by omega) (by omega) rfl hB) ?_
    rintro r M1 ⟨x, k1, rfl, hx, hk1, h1, u1⟩
    simp
    refine ⟨?_, k1, by omega, h1, u1⟩
    simp at hx
    simp [aB, inB_iff]; omega
  by_cases e13 : z = 13
  · subst e13
    have ht' := ht rfl
    simp
    refine awCall_ctr (h.pick t hb (by omega) (by omega)) ?_
    rintro r M1 ⟨x, k1, rfl, x0, x1, hk1, h1, u1⟩
    simp
    exact ⟨by simp [aB, inB_iff]; omega, k1, by omega, h1, u1.grow⟩
  simp [e1, e6, e10, e11, e13]
  refine awCall_det' (l06HasA_s z) (by omega) ?_
  by_cases hA : z ∈ hasAL
  · simp [hA]
    refine awCall_ctr (l01Draw_b h hb hB hk) ?_
    rintro r M1 ⟨x, k1, rfl, hx, hk1, h1, u1⟩
    simp
    refine ⟨?_, fun e => absurd e e1, k1, by omega, h1, u1⟩
    unfold smB at hx
    simp [aB, e1, e6, e10, e11, e13, hA, sampleB, inB_iff]; omega
  · simp [hA]
    exact ⟨by simp [aB, e1, e6, e10, e11, e13, hA], k, by omega, h, .refl _ _⟩
end Go.Proofs.Ytimijeeihicohaa
