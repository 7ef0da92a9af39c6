/- Nodes: the program's test. No conditions. -/
import Derived.Test.YtffbocbjmhkikaaI4
namespace Go.Proofs.Ytffbocbjmhkikaa
open Go.RowKit
set_option linter.unusedVariables false
set_option linter.unusedSimpArgs false
set_option maxRecDepth 100000
attribute [local simp] List.getElem?_cons_zero
attribute [local irreducible] awCond awCall awLoop awDraw ow retQ retC resQ Keeps
theorem hasA_i {M : Mem} (k : Kd) : Det Try.prog M.length 185 [.agg #[.string k.name, iv k.inp, iv k.lo, iv k.hi, .bool k.lin, .bool k.hasB]] M (.bool (hasAB k)) M := by
  first | (refine det_fn Try.func185 rfl Try.ntmps185 Try.results185 rfl rfl rfl (by simp) ?_) | (refine det_fnC Try.func185 rfl Try.ntmps185 Try.results185 rfl rfl (by simp) ?_)
  simp [hasAB, keeps_app]
theorem kinds_at {M : Mem} {id i : Nat} {t o : Bool} {e : TypeId} (h : M[id]? = some (.live ⟨cellsL kdR kindsL, o, t, e, 6⟩)) (hi : i < 17) : Cl M id (i * 6) (kdR.row (el kindsL i)) := fun j x hx => by
  simp only [cellAt, h]
  have hj : j < 6 := by have := (List.getElem?_eq_some_iff.1 hx).1; rwa [kdR.len] at this
  show (cellsL kdR kindsL)[i * 6 + j]? = some x
  rw [cellsL_get kdR (show i < kindsL.length from hi) hj]
  exact hx
theorem cells_hrI {M : Mem} {id off n : Nat} {r : Row} (h : M[id]? = some (.live r)) (hn : off + n ≤ r.cells.length) : cellsAt M id off n = some ((r.cells.drop off).take n) := by
  simp [cellsAt, h, hn]
set_option maxHeartbeats 4000000 in
theorem isNode_i {M : Mem} {lo hi : Nat} {us : List Value} {x : Node} (t : Int) (h : nodeP.rd lo hi M x us) : Det Try.prog M.length 175 [.agg us.toArray, iv t] M (.bool (nodeB x t)) M := by
  obtain ⟨u, rfl, hu⟩ := h
  obtain ⟨A, n, c, rfl, h1, h2, h3⟩ := hu
  have hl := h3.1
  replace h3 := h3.sl
  first | (refine det_fn Try.func175 rfl Try.ntmps175 Try.results175 rfl rfl rfl (by simp) ?_) | (refine det_fnC Try.func175 rfl Try.ntmps175 Try.results175 rfl rfl (by simp) ?_)
  simp
  have kind : ∀ {M : Mem} (z : Int), Det Try.prog M.length 183 [iv z] M (.bool (inB z 1 17)) M := fun {M} z => by
    first | (refine det_fn Try.func183 rfl Try.ntmps183 Try.results183 rfl rfl rfl (by simp) ?_) | (refine det_fnC Try.func183 rfl Try.ntmps183 Try.results183 rfl rfl (by simp) ?_)
    simp
    refine awCall_det' (within_a _ _ _) (by simp) ?_
    simp [Keeps.refl]
  refine awCall_det' (kind x.k) (by simp) ?_
  by_cases hk : inB x.k 1 17 = true
  case neg =>
    rw [Bool.not_eq_true] at hk
    simp [hk, keeps_app]
    unfold nodeB; rw [hk]; rfl
  have hkr := inB_iff.1 hk
  simp [hk]
  refine awDraw_D 7 [[],[],[1],[2,1],[0,3,2,1],[4,0,3,2,1],[],[6,5,4,0,3,2,1]] (by kernel_rfl) (by decide +kernel) ?_
  simp
  have hw : IntKind.i64.wrap (x.k - 1) = (((x.k - 1).toNat : Nat) : Int) := by rw [wrap_in (by omega) (by omega)]; omega
  obtain ⟨i, hi⟩ : ∃ i : Nat, i = (x.k - 1).toNat := ⟨_, rfl⟩
  rw [← hi] at hw
  have hi17 : i < 17 := by omega
  obtain ⟨M1, hM1⟩ : ∃ M1 : Mem, M1 = M ++ [Slot.live ⟨[iv x.k, iv x.a, iv x.b, .slice A n c], true, true, 141, 4⟩] ++ [.live ⟨cellsL kdR kindsL, true, true, 201, 6⟩] := ⟨_, rfl⟩
  have hd := kinds_i (M := M ++ [Slot.live ⟨[iv x.k, iv x.a, iv x.b, .slice A n c], true, true, 141, 4⟩])
  refine awCall_det' hd (by simp) ?_
  have r1 : M1[M.length + 1]? = some (.live ⟨cellsL kdR kindsL, true, true, 201, 6⟩) := by rw [hM1]; simp
  have hlen : (cellsL kdR kindsL).length = 102 := by rw [cellsL_len]; rfl
  have ht : List.take 6 (List.drop (i * 6) (cellsL kdR kindsL)) = (el kindsL i).row := by
    have hc := kinds_at r1 hi17
    have hload := cellsAt_of (n := 6) hc (kdR.len _) (by omega)
    rw [cells_hrI r1 (by rw [hlen]; omega)] at hload
    injection hload
  have hq : el kindsL i = kOf x := by unfold kOf; rw [hi]
  rw [hq] at ht
  clear hM1 r1 M1
  generalize cellsL kdR kindsL = kc at *
  have hi17' : (i : Int) < 17 := by omega
  have hi6 : i * 6 + 6 ≤ 102 := by omega
  have key : nodeB x t = (numB (kOf x) x && (x.from_.all (fun f => inB f 0 23) && endB (kOf x) x t)) := by unfold nodeB; rw [hk, Bool.true_and]
  rw [key]
  clear key hq
  generalize kOf x = q at *
  simp (disch := omega) [hw, hi17', hi6, ht, hlen, Kd.row]
  refine awCall_det' (hasA_i q) (by simp) ?_
  have bad : numB q x = false → (numB q x && (x.from_.all (fun f => inB f 0 23) && endB q x t)) = false := fun h => by rw [h]; rfl
  generalize hB : (numB q x && (x.from_.all (fun f => inB f 0 23) && endB q x t)) = B at bad ⊢
  by_cases ha : hasAB q = true
  case' neg =>
    rw [Bool.not_eq_true] at ha
    simp [ha]
    refine awCall_det' (hasA_i q) (by simp) ?_
    simp [ha]
    by_cases g2 : x.a = 0
    case neg =>
      simp [g2]
      exact ⟨bad (by unfold numB; simp [ha, g2]), keeps_app _⟩
    simp [g2]
  case' pos =>
    simp [ha]
    refine awCall_det' (within_a x.a q.lo q.hi) (by simp) ?_
    by_cases g1 : inB x.a q.lo q.hi = true
    case neg =>
      rw [Bool.not_eq_true] at g1
      simp [g1]
      exact ⟨bad (by unfold numB; simp [ha, g1]), keeps_app _⟩
    simp [g1]
    refine awCall_det' (hasA_i q) (by simp) ?_
    simp [ha]
  all_goals
    by_cases hb : q.hasB = true
    case' neg =>
      rw [Bool.not_eq_true] at hb
      simp [hb]
      by_cases g4 : x.b = 0
      case neg =>
        simp [g4]
        exact ⟨bad (by unfold numB; simp [hb, g4]), keeps_app _⟩
      simp [g4]
    case' pos =>
      simp [hb]
      refine awCall_det' (within_a x.b 1 16) (by simp) ?_
      by_cases g3 : inB x.b 1 16 = true
      case neg =>
        rw [Bool.not_eq_true] at g3
        simp [g3]
        exact ⟨bad (by unfold numB; simp [hb, g3]), keeps_app _⟩
      simp [g3]
  all_goals
    have hnum : numB q x = true := by unfold numB; simp [*]
    rw [hnum, Bool.true_and] at hB
    clear bad hnum
    obtain ⟨M0, hM0⟩ : ∃ M0 : Mem, M0 = M ++ [Slot.live ⟨[iv x.k, iv x.a, iv x.b, .slice A n c], true, true, 141, 4⟩, .live ⟨kc, true, true, 201, 6⟩, .live ⟨[.string q.name, iv q.inp, iv q.lo, iv q.hi, .bool q.lin, .bool q.hasB], true, true, 201, 6⟩] := ⟨_, rfl⟩
    have k0 : Keeps M M0 := by rw [hM0]; exact keeps_app _
    have b0 : cellAt M0 M.length 0 = some (iv x.k) := by rw [hM0]; simp
    have b1 : cellAt M0 M.length 1 = some (iv x.a) := by rw [hM0]; simp
    have b3 : cellAt M0 M.length 3 = some (.slice A n c) := by rw [hM0]; simp
    have q1 : cellAt M0 (M.length + 2) 1 = some (iv q.inp) := by rw [hM0]; simp
    have l0 := k0.len
    refine awLoop_T (fun m T M' => ∃ k : Nat, k + m = n ∧ M' = M0 ∧ look T 63 = some (iv k) ∧ look T 62 = some (iv n) ∧ look T 61 = some (.slice A n c) ∧ look T 5 = some (.pointer (some ⟨M.length + 2, 0, none⟩)) ∧ look T 2 = some (.pointer (some ⟨M.length, 0, none⟩)) ∧ look T 1 = some (iv t) ∧ ∀ i, i < k → inB (el x.from_ i) 0 23 = true) n ⟨0, by omega, by rw [hM0]; simp [*], by simp, by simp, by simp, by simp, by simp, by simp, fun i hi => by omega⟩ ?_
    clear hM0
    rintro m T M' ⟨k, hm, rfl, t63, t62, t61, t5, t2, t1, hkk⟩
    by_cases hlt : k < n
    · obtain ⟨id, off, rfl, he, hc⟩ := (h3.keeps k0).at_ hlt
      have c1 := int_cell hc
      simp only [Nat.mul_one] at c1
      simp (disch := omega) [t63, t62, t61, hlt, c1, he]
      refine awCall_det' (within_a (el x.from_ k) 0 23) (by omega) ?_
      by_cases hs : inB (el x.from_ k) 0 23 = true
      · simp (disch := omega) [hs, t63, t62, t61, wrap_in]
        refine lpI (m - 1) (by omega) ⟨k + 1, by omega, rfl, by simp, by simp [t62], by simp [t61], by simp [t5], by simp [t2], by simp [t1], fun i hi => ?_⟩
        by_cases e : i = k
        · rw [e]; exact hs
        · exact hkk i (by omega)
      · rw [Bool.not_eq_true] at hs
        simp [hs]
        exact ⟨by rw [← hB, all_no (p := fun f => inB f 0 23) (show k < x.from_.length by omega) hs]; rfl, k0⟩
    · obtain rfl : k = n := by omega
      have hall : x.from_.all (fun f => inB f 0 23) = true := all_yes fun i hi => hkk i (by omega)
      rw [hall, Bool.true_and] at hB
      have hsize : Det Try.prog M'.length 153 [.slice A k c] M' (iv k) M' := by
        first | (refine det_fn Try.func153 rfl Try.ntmps153 Try.results153 rfl rfl rfl (by simp) ?_) | (refine det_fnC Try.func153 rfl Try.ntmps153 Try.results153 rfl rfl (by simp) ?_)
        simp [Keeps.refl]
      simp (disch := omega) [t63, t62]
      refine awDraw_E 14 [[],[0],[1,0],[],[3],[2,1,0,4,3],[5,2,1,0,4,3],[6,5,2,1,0,4,3],[7,6,5,2,1,0,4,3],[8,7,6,5,2,1,0,4,3],[9,8,7,6,5,2,1,0,4,3],[10,9,8,7,6,5,2,1,0,4,3],[11,10,9,8,7,6,5,2,1,0,4,3],[10,9,8,7,6,5,2,1,0,4,3],[12,11,10,9,8,7,6,5,2,1,0,4,3,13],[10,9,8,7,6,5,2,1,0,4,3,14,12,11,13],[6,5,2,1,0,4,3,15,10,9,8,7,14,12,11,13],[16,6,5,2,1,0,4,3,15,10,9,8,7,14,12,11,13]] (by kernel_rfl) (by kernel_rfl) ?_
      simp (disch := omega) [t2, t5, t1, b0, b1, b3, q1]
      refine awCall_det' hsize (by omega) ?_
      by_cases e1 : (k : Int) = q.inp
      case neg =>
        simp (disch := omega) [t2, t5, t1, b0, b1, b3, q1, e1]
        exact ⟨by rw [← hB]; unfold endB; rw [hl]; simp [e1], k0⟩
      by_cases e2 : x.k = 13
      case neg =>
        simp (disch := omega) [t2, t5, t1, b0, b1, b3, q1, e1, e2]
        exact ⟨by rw [← hB]; unfold endB; rw [hl]; simp [e1, e2], k0⟩
      by_cases e3 : x.a < t
      · simp (disch := omega) [t2, t5, t1, b0, b1, b3, q1, e1, e2, e3]
        exact ⟨by rw [← hB]; unfold endB; rw [hl]; simp [e1, e2, e3], k0⟩
      · simp (disch := omega) [t2, t5, t1, b0, b1, b3, q1, e1, e2, e3]
        exact ⟨by rw [← hB]; unfold endB; rw [hl]; simp [e1, e2, e3], k0⟩
end Go.Proofs.Ytffbocbjmhkikaa
