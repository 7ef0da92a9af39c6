/- Instruments: whether they are the same, the rest. No conditions. -/
import Derived.Test.YtffbocbjmhkikaaI1
namespace Go.Proofs.Ytffbocbjmhkikaa
open Go.RowKit
set_option linter.unusedVariables false
set_option linter.unusedSimpArgs false
set_option maxRecDepth 100000
attribute [local simp] List.getElem?_cons_zero
attribute [local irreducible] awCond awCall awLoop awDraw ow retQ retC resQ Keeps
set_option maxHeartbeats 1000000 in
theorem l07SameNode_s {M : Mem} {lo hi lo' hi' id off id' off' : Nat} {us vs : List Value} {x y : Node} (h : nodeP.rd lo hi M x us) (h' : nodeP.rd lo' hi' M y vs) (hc : Cl M id off us) (hc' : Cl M id' off' vs) :
    Det Try.prog M.length 97 [.pointer (some ⟨id, off, none⟩), .pointer (some ⟨id', off', none⟩)] M (.bool (decide (x = y))) M := by
  obtain ⟨u, rfl, hu⟩ := h
  obtain ⟨A1, n1, c1, rfl⟩ := hu.isSl
  obtain ⟨v, rfl, hv⟩ := h'
  obtain ⟨A2, n2, c2, rfl⟩ := hv.isSl
  obtain ⟨a0, a1, a2, a3, -⟩ : cellAt M id off = some (iv x.k) ∧ cellAt M id (off + 1) = some (iv x.a) ∧ cellAt M id (off + 2) = some (iv x.b) ∧ cellAt M id (off + 3) = some (.slice A1 n1 c1) ∧ True := ⟨hc 0 _ rfl, hc 1 _ rfl, hc 2 _ rfl, hc 3 _ rfl, trivial⟩
  obtain ⟨b0, b1, b2, b3, -⟩ : cellAt M id' off' = some (iv y.k) ∧ cellAt M id' (off' + 1) = some (iv y.a) ∧ cellAt M id' (off' + 2) = some (iv y.b) ∧ cellAt M id' (off' + 3) = some (.slice A2 n2 c2) ∧ True := ⟨hc' 0 _ rfl, hc' 1 _ rfl, hc' 2 _ rfl, hc' 3 _ rfl, trivial⟩
  first | (refine det_fn Try.func97 rfl Try.ntmps97 Try.results97 rfl rfl rfl (by simp) ?_) | (refine det_fnC Try.func97 rfl Try.ntmps97 Try.results97 rfl rfl (by simp) ?_)
  simp
  refine awDraw_E 40 [[],[0],[1,0],[2,1,0],[],[4],[5,4],[6,5,4],[3,2,1,0,7,6,5,4],[8,3,2,1,0,7,6,5,4],[9,8,3,2,1,0,7,6,5,4],[10,9,8,3,2,1,0,7,6,5,4],[11,10,9,8,3,2,1,0,7,6,5,4],[12,11,10,9,8,3,2,1,0,7,6,5,4],[9,8,3,2,1,0,7,6,5,4],[14,9,8,3,2,1,0,7,6,5,4],[15,14,9,8,3,2,1,0,7,6,5,4],[16,15,14,9,8,3,2,1,0,7,6,5,4],[13,12,11,10,9,8,3,2,1,0,7,6,5,4,17,16,15,14],[9,8,3,2,1,0,7,6,5,4,18,13,12,11,10,17,16,15,14],[19,9,8,3,2,1,0,7,6,5,4,18,13,12,11,10,17,16,15,14],[20,19,9,8,3,2,1,0,7,6,5,4,18,13,12,11,10,17,16,15,14],[21,20,19,9,8,3,2,1,0,7,6,5,4,18,13,12,11,10,17,16,15,14],[22,21,20,19,9,8,3,2,1,0,7,6,5,4,18,13,12,11,10,17,16,15,14],[23,22,21,20,19,9,8,3,2,1,0,7,6,5,4,18,13,12,11,10,17,16,15,14],[20,19,9,8,3,2,1,0,7,6,5,4,18,13,12,11,10,17,16,15,14],[25,20,19,9,8,3,2,1,0,7,6,5,4,18,13,12,11,10,17,16,15,14],[26,25,20,19,9,8,3,2,1,0,7,6,5,4,18,13,12,11,10,17,16,15,14],[27,26,25,20,19,9,8,3,2,1,0,7,6,5,4,18,13,12,11,10,17,16,15,14],[24,23,22,21,20,19,9,8,3,2,1,0,7,6,5,4,18,13,12,11,10,17,16,15,14,28,27,26,25],[20,19,9,8,3,2,1,0,7,6,5,4,18,13,12,11,10,17,16,15,14,29,24,23,22,21,28,27,26,25],[30,20,19,9,8,3,2,1,0,7,6,5,4,18,13,12,11,10,17,16,15,14,29,24,23,22,21,28,27,26,25],[31,30,20,19,9,8,3,2,1,0,7,6,5,4,18,13,12,11,10,17,16,15,14,29,24,23,22,21,28,27,26,25],[32,31,30,20,19,9,8,3,2,1,0,7,6,5,4,18,13,12,11,10,17,16,15,14,29,24,23,22,21,28,27,26,25],[33,32,31,30,20,19,9,8,3,2,1,0,7,6,5,4,18,13,12,11,10,17,16,15,14,29,24,23,22,21,28,27,26,25],[34,33,32,31,30,20,19,9,8,3,2,1,0,7,6,5,4,18,13,12,11,10,17,16,15,14,29,24,23,22,21,28,27,26,25],[31,30,20,19,9,8,3,2,1,0,7,6,5,4,18,13,12,11,10,17,16,15,14,29,24,23,22,21,28,27,26,25],[36,31,30,20,19,9,8,3,2,1,0,7,6,5,4,18,13,12,11,10,17,16,15,14,29,24,23,22,21,28,27,26,25],[37,36,31,30,20,19,9,8,3,2,1,0,7,6,5,4,18,13,12,11,10,17,16,15,14,29,24,23,22,21,28,27,26,25],[38,37,36,31,30,20,19,9,8,3,2,1,0,7,6,5,4,18,13,12,11,10,17,16,15,14,29,24,23,22,21,28,27,26,25],[35,34,33,32,31,30,20,19,9,8,3,2,1,0,7,6,5,4,18,13,12,11,10,17,16,15,14,29,24,23,22,21,28,27,26,25,39,38,37,36],[31,30,20,19,9,8,3,2,1,0,7,6,5,4,18,13,12,11,10,17,16,15,14,29,24,23,22,21,28,27,26,25,40,35,34,33,32,39,38,37,36],[41,31,30,20,19,9,8,3,2,1,0,7,6,5,4,18,13,12,11,10,17,16,15,14,29,24,23,22,21,28,27,26,25,40,35,34,33,32,39,38,37,36]] (by kernel_rfl) (by kernel_rfl) ?_
  by_cases h1 : x.k = y.k
  case neg => simp (disch := omega) [a0, b0, h1, node_eq, Keeps.refl]
  by_cases h2 : x.a = y.a
  case neg => simp (disch := omega) [a0, b0, a1, b1, h1, h2, node_eq, Keeps.refl]
  by_cases h3 : x.b = y.b
  case neg => simp (disch := omega) [a0, b0, a1, b1, a2, b2, h1, h2, h3, node_eq, Keeps.refl]
  simp (disch := omega) [a0, b0, a1, b1, a2, b2, a3, b3, h1, h2, h3]
  refine awCall_det' (l00Same_s hu hv) (Nat.le_refl _) ?_
  by_cases h4 : x.from_ = y.from_
  · simp [h1, h2, h3, h4, node_eq, Keeps.refl]
  · simp [h1, h2, h3, h4, node_eq, Keeps.refl]
set_option maxHeartbeats 1000000 in
theorem SamePatch_s {M : Mem} {lo hi lo' hi' : Nat} {us vs : List Value} {x y : Patch} (h : patchP.rd lo hi M x us) (h' : patchP.rd lo' hi' M y vs) : Det Try.prog M.length 48 [.agg us.toArray, .agg vs.toArray] M (.bool (decide (x = y))) M := by
  obtain ⟨u1, u2, u3, rfl, hu1, hu2, hu3⟩ := h
  obtain ⟨A1, n1, c1, e1, r1, r2, r3⟩ := hu1
  obtain ⟨A2, n2, c2, e2, p1, p2, p3⟩ := hu2
  obtain ⟨A3, n3, c3, rfl⟩ := hu3.isSl
  obtain ⟨v1, v2, v3, rfl, hv1, hv2, hv3⟩ := h'
  obtain ⟨B1, m1, d1, e1', s1, s2, s3⟩ := hv1
  obtain ⟨B2, m2, d2, e2', q1, q2, q3⟩ := hv2
  obtain ⟨B3, m3, d3, rfl⟩ := hv3.isSl
  subst e1; subst e1'; subst e2; subst e2'
  have hlx := p3.1
  have hly := q3.1
  have htx := r3.1
  have hty := s3.1
  first | (refine det_fn Try.func48 rfl Try.ntmps48 Try.results48 rfl rfl rfl (by simp) ?_) | (refine det_fnC Try.func48 rfl Try.ntmps48 Try.results48 rfl rfl (by simp) ?_)
  simp
  by_cases h1 : x.inp = y.inp
  case neg => simp [h1, patch_eq, keeps_app]
  by_cases htn : n1 = m1
  case neg =>
    have : x.tabs ≠ y.tabs := fun e => htn (by rw [← htx, ← hty, e])
    have e1 : ¬ (n1 : Int) = m1 := by omega
    simp [h1, e1, this, patch_eq, keeps_app]
  subst htn
  by_cases hnm : n2 = m2
  case neg =>
    have : x.nodes ≠ y.nodes := fun e => hnm (by rw [← hlx, ← hly, e])
    have e1 : ¬ (n2 : Int) = m2 := by omega
    simp [h1, e1, this, patch_eq, keeps_app]
  subst hnm
  simp [h1]
  refine awCall_det' (l00Same_s (hu3.app _) (hv3.app _)) (by simp) ?_
  by_cases h3 : x.outs = y.outs
  case neg => simp [h1, h3, patch_eq, keeps_app]
  simp [h1, h3]
  obtain ⟨M0, hM0⟩ : ∃ M0 : Mem, M0 = M ++ [Slot.live ⟨[iv y.inp, .slice A1 n1 c1, .slice A2 n2 c2, .slice A3 n3 c3], true, true, 36, 4⟩, .live ⟨[iv y.inp, .slice B1 n1 d1, .slice B2 n2 d2, .slice B3 m3 d3], true, true, 36, 4⟩] := ⟨_, rfl⟩
  have k0 : Keeps M M0 := by rw [hM0]; exact keeps_app _
  have b1 : cellAt M0 M.length 1 = some (.slice A1 n1 c1) := by rw [hM0]; simp
  have b1' : cellAt M0 (M.length + 1) 1 = some (.slice B1 n1 d1) := by rw [hM0]; simp
  have b2 : cellAt M0 M.length 2 = some (.slice A2 n2 c2) := by rw [hM0]; simp
  have b2' : cellAt M0 (M.length + 1) 2 = some (.slice B2 n2 d2) := by rw [hM0]; simp
  have l0 := k0.len
  refine awLoop_T (fun m T M' => ∃ k : Nat, k + m = n1 ∧ M' = M0 ∧ look T 5 = some (iv k) ∧ look T 2 = some (.pointer (some ⟨M.length, 0, none⟩)) ∧ look T 3 = some (.pointer (some ⟨M.length + 1, 0, none⟩)) ∧ x.tabs.take k = y.tabs.take k) n1 ⟨0, by omega, by rw [hM0], by simp, by simp, by simp, by simp⟩ ?_
  clear hM0
  rintro m T M1 ⟨k, hm, rfl, t5, t2, t3, hk⟩
  by_cases hlt : k < n1
  · obtain ⟨id, off, us, rfl, he, ⟨u, rfl, hu⟩, hc⟩ := (r3.keeps k0).at_ hlt
    obtain ⟨id', off', us', rfl, he', ⟨v, rfl, hv⟩, hc'⟩ := (s3.keeps k0).at_ hlt
    have c1 := (cl_cons.1 hc).1
    have c2 := (cl_cons.1 hc').1
    simp only [Nat.mul_one] at c1 c2
    simp (disch := omega) [t5, t2, t3, b1, hlt]
    refine awDraw_E 10 [[],[0],[],[1,0,2],[3,1,0,2],[],[5],[],[6,5,7],[8,6,5,7],[4,3,1,0,2,9,8,6,5,7],[10,4,3,1,0,2,9,8,6,5,7]] (by kernel_rfl) (by kernel_rfl) ?_
    simp (disch := omega) [t5, t2, t3, b1, b1', hlt, c1, c2, he, he']
    refine awCall_det' (l00Same_s hu hv) (by omega) ?_
    by_cases hxy : el x.tabs k = el y.tabs k
    · simp (disch := omega) [hxy, t5, t2, t3, wrap_in]
      exact lpI (m - 1) (by omega) ⟨k + 1, by omega, rfl, by simp, by simp [t2], by simp [t3], by rw [take_el (by omega), take_el (by omega), hk, hxy]⟩
    · have : x ≠ y := fun e => hxy (by rw [e])
      simp [hxy, this]
      exact k0
  · obtain rfl : k = n1 := by omega
    rw [List.take_of_length_le (by omega), List.take_of_length_le (by omega)] at hk
    simp [t5, t2, b1]
    refine awLoop_T (fun m T M' => ∃ k : Nat, k + m = n2 ∧ M' = M1 ∧ look T 6 = some (iv k) ∧ look T 2 = some (.pointer (some ⟨M.length, 0, none⟩)) ∧ look T 3 = some (.pointer (some ⟨M.length + 1, 0, none⟩)) ∧ x.nodes.take k = y.nodes.take k) n2 ⟨0, by omega, rfl, by simp, by simp [t2], by simp [t3], by simp⟩ ?_
    clear t5 t2 t3 hm T
    rintro m T M2 ⟨k', hm, rfl, t6, t2, t3, hk'⟩
    by_cases hlt : k' < n2
    · obtain ⟨id, off, us, rfl, he, hrd, hc⟩ := (p3.keeps k0).at_ hlt
      obtain ⟨id', off', us', rfl, he', hrd', hc'⟩ := (q3.keeps k0).at_ hlt
      simp (disch := omega) [t6, t2, t3, b2, hlt]
      refine awDraw_E 8 [[],[0],[],[1,0,2],[],[4],[],[5,4,6],[3,1,0,2,7,5,4,6],[8,3,1,0,2,7,5,4,6]] (by kernel_rfl) (by kernel_rfl) ?_
      simp (disch := omega) [t6, t2, t3, b2, b2', hlt, he, he']
      refine awCall_det' (l07SameNode_s hrd hrd' hc hc') (by omega) ?_
      by_cases hxy : el x.nodes k' = el y.nodes k'
      · simp (disch := omega) [hxy, t6, t2, t3, wrap_in]
        exact lpI (m - 1) (by omega) ⟨k' + 1, by omega, rfl, by simp, by simp [t2], by simp [t3], by rw [take_el (by omega), take_el (by omega), hk', hxy]⟩
      · have : x ≠ y := fun e => hxy (by rw [e])
        simp [hxy, this]
        exact k0
    · obtain rfl : k' = n2 := by omega
      rw [List.take_of_length_le (by omega), List.take_of_length_le (by omega)] at hk'
      simp [t6, t2, b2, patch_eq, h1, h3, hk, hk']
      exact k0
theorem SameEnvelope_i {M : Mem} {lo hi lo' hi' : Nat} {us vs : List Value} {x y : Envl} (h : envP.rd lo hi M x us) (h' : envP.rd lo' hi' M y vs) : Det Try.prog M.length 55 [.agg us.toArray, .agg vs.toArray] M (.bool (decide (x = y))) M := by
  obtain ⟨u, rfl, hu⟩ := h
  obtain ⟨v, rfl, hv⟩ := h'
  obtain ⟨A, n, c, rfl, p1, p2, p3⟩ := hu
  obtain ⟨B, m, d, rfl, q1, q2, q3⟩ := hv
  have hlx := p3.1
  have hly := q3.1
  replace p3 := p3.sl
  replace q3 := q3.sl
  first | (refine det_fn Try.func55 rfl Try.ntmps55 Try.results55 rfl rfl rfl (by simp) ?_) | (refine det_fnC Try.func55 rfl Try.ntmps55 Try.results55 rfl rfl (by simp) ?_)
  simp
  by_cases h1 : x.st = y.st
  case neg => simp [h1, env_eq, keeps_app]
  by_cases h2 : x.rel = y.rel
  case neg => simp [h1, h2, env_eq, keeps_app]
  by_cases hnm : n = m
  case neg =>
    have : x.segs ≠ y.segs := fun e => hnm (by rw [← hlx, ← hly, e])
    have e1 : ¬ (n : Int) = m := by omega
    simp [h1, h2, e1, this, env_eq, keeps_app]
  subst hnm
  simp [h1, h2]
  obtain ⟨M0, hM0⟩ : ∃ M0 : Mem, M0 = M ++ [Slot.live ⟨[iv y.st, .slice A n c, iv y.rel], true, true, 39, 3⟩, .live ⟨[iv y.st, .slice B n d, iv y.rel], true, true, 39, 3⟩] := ⟨_, rfl⟩
  have k0 : Keeps M M0 := by rw [hM0]; exact keeps_app _
  have b0 : cellAt M0 (M.length + 1) 1 = some (.slice B n d) := by rw [hM0]; simp
  have l0 := k0.len
  refine awLoop_T (fun m T M' => ∃ k : Nat, k + m = n ∧ Keeps M0 M' ∧ look T 31 = some (iv k) ∧ look T 30 = some (iv n) ∧ look T 29 = some (.slice A n c) ∧ look T 3 = some (.pointer (some ⟨M.length + 1, 0, none⟩)) ∧ x.segs.take k = y.segs.take k) n ⟨0, by omega, by rw [hM0]; exact Keeps.refl _, by simp, by simp, by simp, by simp, by simp⟩ ?_
  clear hM0
  rintro m T M1 ⟨k, hm, k1, t31, t30, t29, t3, hk⟩
  have k01 := k0.trans k1
  have l1 := k1.len
  by_cases hlt : k < n
  · obtain ⟨id, off, rfl, he, hc⟩ := (p3.keeps k01).at_ hlt
    obtain ⟨id', off', rfl, he', hc'⟩ := (q3.keeps k01).at_ hlt
    simp (disch := omega) [t31, t30, t29, t3, hlt, segment_load hc, he]
    refine awDraw_E 6 [[],[],[1],[],[2,1,3],[4,2,1,3],[0,5,4,2,1,3]] (by kernel_rfl) (by kernel_rfl) ?_
    simp (disch := omega) [t31, t30, t29, t3, hlt, cellAt_app (cellAt_keeps k1 b0), segment_load (hc'.app _), rowEsz_keeps (keeps_app _) he', segment_neq]
    by_cases hxy : el x.segs k = el y.segs k
    · simp (disch := omega) [hxy, t31, t30, t29, t3, wrap_in]
      exact lpI (m - 1) (by omega) ⟨k + 1, by omega, k1.app _, by simp, by simp [t30], by simp [t29], by simp [t3], by rw [take_el (by omega), take_el (by omega), hk, hxy]⟩
    · have : x ≠ y := fun e => hxy (by rw [e])
      simp [hxy, this]
      exact k01.app _
  · obtain rfl : k = n := by omega
    rw [List.take_of_length_le (by omega), List.take_of_length_le (by omega)] at hk
    simp [t31, t30, env_eq, h1, h2, hk]
    exact k01
theorem SameEnvelope_s {M : Mem} {lo hi lo' hi' : Nat} {us vs : List Value} {x y : Envl} (h : envP.rd lo hi M x us) (h' : envP.rd lo' hi' M y vs) : Det Try.prog M.length 49 [.agg us.toArray, .agg vs.toArray] M (.bool (decide (x = y))) M := by
  obtain ⟨u, rfl, hu⟩ := h
  obtain ⟨v, rfl, hv⟩ := h'
  obtain ⟨A, n, c, rfl, p1, p2, p3⟩ := hu
  obtain ⟨B, m, d, rfl, q1, q2, q3⟩ := hv
  have hlx := p3.1
  have hly := q3.1
  replace p3 := p3.sl
  replace q3 := q3.sl
  first | (refine det_fn Try.func49 rfl Try.ntmps49 Try.results49 rfl rfl rfl (by simp) ?_) | (refine det_fnC Try.func49 rfl Try.ntmps49 Try.results49 rfl rfl (by simp) ?_)
  simp
  by_cases h1 : x.st = y.st
  case neg => simp [h1, env_eq, keeps_app]
  by_cases h2 : x.rel = y.rel
  case neg => simp [h1, h2, env_eq, keeps_app]
  by_cases hnm : n = m
  case neg =>
    have : x.segs ≠ y.segs := fun e => hnm (by rw [← hlx, ← hly, e])
    have e1 : ¬ (n : Int) = m := by omega
    simp [h1, h2, e1, this, env_eq, keeps_app]
  subst hnm
  simp [h1, h2]
  obtain ⟨M0, hM0⟩ : ∃ M0 : Mem, M0 = M ++ [Slot.live ⟨[iv y.st, .slice A n c, iv y.rel], true, true, 39, 3⟩, .live ⟨[iv y.st, .slice B n d, iv y.rel], true, true, 39, 3⟩] := ⟨_, rfl⟩
  have k0 : Keeps M M0 := by rw [hM0]; exact keeps_app _
  have b0 : cellAt M0 M.length 1 = some (.slice A n c) := by rw [hM0]; simp
  have b1 : cellAt M0 (M.length + 1) 1 = some (.slice B n d) := by rw [hM0]; simp
  refine awLoop_T (fun m T M' => ∃ k : Nat, k + m = n ∧ M' = M0 ∧ look T 5 = some (iv k) ∧ look T 2 = some (.pointer (some ⟨M.length, 0, none⟩)) ∧ look T 3 = some (.pointer (some ⟨M.length + 1, 0, none⟩)) ∧ x.segs.take k = y.segs.take k) n ⟨0, by omega, by rw [hM0], by simp, by simp, by simp, by simp⟩ ?_
  clear hM0
  rintro m T M1 ⟨k, hm, rfl, t5, t2, t3, hk⟩
  by_cases hlt : k < n
  · obtain ⟨id, off, rfl, he, hc⟩ := (p3.keeps k0).at_ hlt
    obtain ⟨id', off', rfl, he', hc'⟩ := (q3.keeps k0).at_ hlt
    simp (disch := omega) [t5, t2, t3, b0, hlt]
    refine awDraw_E 10 [[],[0],[],[1,0,2],[3,1,0,2],[],[5],[],[6,5,7],[8,6,5,7],[4,3,1,0,2,9,8,6,5,7]] (by kernel_rfl) (by kernel_rfl) ?_
    simp (disch := omega) [t5, t2, t3, b0, b1, hlt, segment_load hc, segment_load hc', he, he', segment_neq]
    by_cases hxy : el x.segs k = el y.segs k
    · simp (disch := omega) [hxy, t5, t2, t3, wrap_in]
      exact lpI (m - 1) (by omega) ⟨k + 1, by omega, rfl, by simp, by simp [t2], by simp [t3], by rw [take_el (by omega), take_el (by omega), hk, hxy]⟩
    · have : x ≠ y := fun e => hxy (by rw [e])
      simp [hxy, this]
      exact k0
  · obtain rfl : k = n := by omega
    rw [List.take_of_length_le (by omega), List.take_of_length_le (by omega)] at hk
    simp [t5, t2, b0, env_eq, h1, h2, hk]
    exact k0
theorem SameInstrument_i {M : Mem} {lo hi lo' hi' : Nat} {us vs : List Value} {x y : Inst} (h : instP.rd lo hi M x us) (h' : instP.rd lo' hi' M y vs) : Det Try.prog M.length 13 [.agg us.toArray, .agg vs.toArray] M (.bool (decide (x = y))) M := by
  obtain ⟨ps, es, w, rfl, hp, he, hw⟩ := h
  obtain ⟨ps', es', w', rfl, hp', he', hw'⟩ := h'
  obtain ⟨A1, n1, c1, A2, n2, c2, A3, n3, c3, rfl⟩ := patch_isV hp
  obtain ⟨A4, n4, c4, rfl⟩ := env_isV he
  obtain ⟨A5, n5, c5, rfl⟩ := hw.isSl
  obtain ⟨B1, m1, g1, B2, m2, g2, B3, m3, g3, rfl⟩ := patch_isV hp'
  obtain ⟨B4, m4, g4, rfl⟩ := env_isV he'
  obtain ⟨B5, m5, g5, rfl⟩ := hw'.isSl
  first | (refine det_fn Try.func13 rfl Try.ntmps13 Try.results13 rfl rfl rfl (by simp) ?_) | (refine det_fnC Try.func13 rfl Try.ntmps13 Try.results13 rfl rfl (by simp) ?_)
  simp
  refine awCall_det' (SamePatch_i (patchP.app hp _) (patchP.app hp' _)) (by simp) ?_
  by_cases h1 : x.pat = y.pat
  case neg => simp [h1, inst_eq, keeps_app]
  simp [h1]
  refine awCall_det' (SameEnvelope_i (envP.app he _) (envP.app he' _)) (by simp) ?_
  by_cases h2 : x.env = y.env
  case neg => simp [h1, h2, inst_eq, keeps_app]
  simp [h1, h2]
  refine awCall_det' (same_i (hw.app _) (hw'.app _)) (by simp) ?_
  by_cases h3 : x.steps = y.steps
  · simp [h1, h2, h3, inst_eq, keeps_app]
  · simp [h1, h2, h3, inst_eq, keeps_app]
theorem SameInstrument_s {M : Mem} {lo hi lo' hi' : Nat} {us vs : List Value} {x y : Inst} (h : instP.rd lo hi M x us) (h' : instP.rd lo' hi' M y vs) : Det Try.prog M.length 11 [.agg us.toArray, .agg vs.toArray] M (.bool (decide (x = y))) M := by
  obtain ⟨ps, es, w, rfl, hp, he, hw⟩ := h
  obtain ⟨ps', es', w', rfl, hp', he', hw'⟩ := h'
  obtain ⟨A1, n1, c1, A2, n2, c2, A3, n3, c3, rfl⟩ := patch_isV hp
  obtain ⟨A4, n4, c4, rfl⟩ := env_isV he
  obtain ⟨A5, n5, c5, rfl⟩ := hw.isSl
  obtain ⟨B1, m1, g1, B2, m2, g2, B3, m3, g3, rfl⟩ := patch_isV hp'
  obtain ⟨B4, m4, g4, rfl⟩ := env_isV he'
  obtain ⟨B5, m5, g5, rfl⟩ := hw'.isSl
  first | (refine det_fn Try.func11 rfl Try.ntmps11 Try.results11 rfl rfl rfl (by simp) ?_) | (refine det_fnC Try.func11 rfl Try.ntmps11 Try.results11 rfl rfl (by simp) ?_)
  simp
  refine awCall_det' (SamePatch_s (patchP.app hp _) (patchP.app hp' _)) (by simp) ?_
  by_cases h1 : x.pat = y.pat
  case neg => simp [h1, inst_eq, keeps_app]
  simp [h1]
  refine awCall_det' (SameEnvelope_s (envP.app he _) (envP.app he' _)) (by simp) ?_
  by_cases h2 : x.env = y.env
  case neg => simp [h1, h2, inst_eq, keeps_app]
  simp [h1, h2]
  refine awCall_det' (l00Same_s (hw.app _) (hw'.app _)) (by simp) ?_
  by_cases h3 : x.steps = y.steps
  · simp [h1, h2, h3, inst_eq, keeps_app]
  · simp [h1, h2, h3, inst_eq, keeps_app]
theorem inst_one {lo hi : Nat} {M : Mem} {x : Inst} {vs : List Value} (h : instP.rd lo hi M x vs) : vs.all oneV = true := by
  obtain ⟨ps, es, w, rfl, hp, he, hw⟩ := h
  obtain ⟨A1, n1, c1, A2, n2, c2, A3, n3, c3, rfl⟩ := patch_isV hp
  obtain ⟨A4, n4, c4, rfl⟩ := env_isV he
  obtain ⟨A5, n5, c5, rfl⟩ := hw.isSl
  simp
theorem put_boxI {b : Nat} {M : Mem} {vs cs : List Value} {t : Bool} {e : TypeId} {z : Nat} (hb : b ≤ M.length) (hl : vs.length = cs.length) (h1 : vs.all oneV = true) :
    putCells b (M ++ [.live ⟨cs, true, t, e, z⟩]) M.length 0 vs = some (M ++ [.live ⟨vs, true, t, e, z⟩]) := by
  rw [put_whole getElem?_snoc_eq hb hl h1]
  simp
theorem cells_own {M : Mem} {vs : List Value} {t o : Bool} {e : TypeId} {z n : Nat} (h : vs.length = n) : cellsAt (M ++ [.live ⟨vs, o, t, e, z⟩]) M.length 0 n = some vs := by
  rw [cellsAt_new0, cellsAt_zero, if_pos (by show 0 + n ≤ vs.length; omega)]
  show some ((vs.drop 0).take n) = some vs
  rw [List.drop_zero, List.take_of_length_le (by omega)]
/-- A box in which an instrument is laid. -/
theorem inst_box {b lo hi : Nat} {M M' : Mem} {x : Inst} {vs cs : List Value} {t : Bool} {e : TypeId} {z : Nat} {K : Mem → Prop} (h : instP.rd lo hi M x vs) (hb : b ≤ M'.length) (hc : cs.length = 8) (hK : K (M' ++ [.live ⟨vs, true, t, e, z⟩])) :
    8 = (Value.agg vs.toArray).cells.size ∧ ow (putCells b (M' ++ [.live ⟨cs, true, t, e, z⟩]) M'.length 0 (Value.agg vs.toArray).cells.toList) K := by
  have hl := instP.len h
  have e1 : (Value.agg vs.toArray).cells.toList = vs := rfl
  refine ⟨by rw [← Array.length_toList, e1, hl], ?_⟩
  rw [e1, put_boxI hb (by omega) (inst_one h), ow_some]
  exact hK
end Go.Proofs.Ytffbocbjmhkikaa
