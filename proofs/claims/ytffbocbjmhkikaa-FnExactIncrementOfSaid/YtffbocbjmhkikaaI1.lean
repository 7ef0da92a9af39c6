/- Instruments, patches, envelopes: whether they are the same. No conditions. -/
import Derived.Test.YtffbocbjmhkikaaHP3
namespace Go.Proofs.Ytffbocbjmhkikaa
open Go.RowKit
set_option linter.unusedVariables false
set_option linter.unusedSimpArgs false
set_option maxRecDepth 100000
attribute [local simp] List.getElem?_cons_zero
attribute [local irreducible] awCond awCall awLoop awDraw ow retQ retC resQ Keeps
theorem same_i {M : Mem} {lo hi lo' hi' : Nat} {u v : Value} {x y : List Int} (h : SlV intP lo hi M u x) (h' : SlV intP lo' hi' M v y) : Det Try.prog M.length 56 [u, v] M (.bool (decide (x = y))) M := by
  obtain ⟨A, n, c, rfl, h1, h2, h3⟩ := h
  obtain ⟨B, m, d, rfl, g1, g2, g3⟩ := h'
  have hlx := h3.1
  have hly := g3.1
  replace h3 := h3.sl
  replace g3 := g3.sl
  first | (refine det_fn Try.func56 rfl Try.ntmps56 Try.results56 rfl rfl rfl (by simp) ?_) | (refine det_fnC Try.func56 rfl Try.ntmps56 Try.results56 rfl rfl (by simp) ?_)
  simp
  by_cases hnm : n = m
  case neg =>
    have : x ≠ y := fun e => hnm (by rw [← hlx, ← hly, e])
    have e1 : ¬ (n : Int) = m := by omega
    simp [e1, this, Keeps.refl]
  subst hnm
  simp
  refine awLoop_T (fun m T M' => ∃ k : Nat, k + m = n ∧ M' = M ∧ look T 14 = some (iv k) ∧ look T 13 = some (iv n) ∧ look T 12 = some (.slice A n c) ∧ look T 1 = some (.slice B n d) ∧ x.take k = y.take k) n ⟨0, by omega, rfl, by simp, by simp, by simp, by simp, by simp⟩ ?_
  rintro m T M' ⟨k, hm, rfl, t14, t13, t12, t1, hk⟩
  by_cases hlt : k < n
  · obtain ⟨id, off, rfl, he, hc⟩ := h3.at_ hlt
    obtain ⟨id', off', rfl, he', hc'⟩ := g3.at_ hlt
    have c1 := int_cell hc
    have c2 := int_cell hc'
    simp only [Nat.mul_one] at c1 c2
    simp (disch := omega) [t14, t13, t12, t1, hlt, wrap_in, c1, c2, he, he']
    by_cases hxy : el x k = el y k
    · simp (disch := omega) [hxy, t14, t13, t12, t1, wrap_in]
      exact lpI (m - 1) (by omega) ⟨k + 1, by omega, rfl, by simp, by simp [t13], by simp [t12], by simp [t1], by rw [take_el (by omega), take_el (by omega), hk, hxy]⟩
    · simp [hxy]
      exact ⟨fun e => hxy (by rw [e]), Keeps.refl _⟩
  · obtain rfl : k = n := by omega
    rw [List.take_of_length_le (by omega), List.take_of_length_le (by omega)] at hk
    simp [t14, t13, hk, Keeps.refl]
theorem l00Same_s {M : Mem} {lo hi lo' hi' : Nat} {u v : Value} {x y : List Int} (h : SlV intP lo hi M u x) (h' : SlV intP lo' hi' M v y) : Det Try.prog M.length 50 [u, v] M (.bool (decide (x = y))) M := by
  obtain ⟨A, n, c, rfl, h1, h2, h3⟩ := h
  obtain ⟨B, m, d, rfl, g1, g2, g3⟩ := h'
  have hlx := h3.1
  have hly := g3.1
  replace h3 := h3.sl
  replace g3 := g3.sl
  first | (refine det_fn Try.func50 rfl Try.ntmps50 Try.results50 rfl rfl rfl (by simp) ?_) | (refine det_fnC Try.func50 rfl Try.ntmps50 Try.results50 rfl rfl (by simp) ?_)
  simp
  by_cases hnm : n = m
  case neg =>
    have : x ≠ y := fun e => hnm (by rw [← hlx, ← hly, e])
    have e1 : ¬ (n : Int) = m := by omega
    simp [e1, this, Keeps.refl]
  subst hnm
  simp
  refine awLoop_T (fun m T M' => ∃ k : Nat, k + m = n ∧ M' = M ∧ look T 5 = some (iv k) ∧ look T 0 = some (.slice A n c) ∧ look T 1 = some (.slice B n d) ∧ x.take k = y.take k) n ⟨0, by omega, rfl, by simp, by simp, by simp, by simp⟩ ?_
  rintro m T M' ⟨k, hm, rfl, t5, t0, t1, hk⟩
  by_cases hlt : k < n
  · obtain ⟨id, off, rfl, he, hc⟩ := h3.at_ hlt
    obtain ⟨id', off', rfl, he', hc'⟩ := g3.at_ hlt
    have c1 := int_cell hc
    have c2 := int_cell hc'
    simp only [Nat.mul_one] at c1 c2
    simp (disch := omega) [t5, t0, hlt]
    refine awDraw_E 8 [[],[],[0,1],[2,0,1],[],[],[4,5],[6,4,5],[3,2,0,1,7,6,4,5]] (by kernel_rfl) (by kernel_rfl) ?_
    simp (disch := omega) [t5, t0, t1, hlt, wrap_in, c1, c2, he, he']
    by_cases hxy : el x k = el y k
    · simp (disch := omega) [hxy, t5, t0, t1, wrap_in]
      exact lpI (m - 1) (by omega) ⟨k + 1, by omega, rfl, by simp, by simp [t0], by simp [t1], by rw [take_el (by omega), take_el (by omega), hk, hxy]⟩
    · simp [hxy]
      exact ⟨fun e => hxy (by rw [e]), Keeps.refl _⟩
  · obtain rfl : k = n := by omega
    rw [List.take_of_length_le (by omega), List.take_of_length_le (by omega)] at hk
    simp [t5, t0, hk, Keeps.refl]
theorem sameAll_i {M : Mem} {lo hi lo' hi' : Nat} {u v : Value} {x y : List (List Int)} (h : SlV tabP lo hi M u x) (h' : SlV tabP lo' hi' M v y) : Det Try.prog M.length 100 [u, v] M (.bool (decide (x = y))) M := by
  obtain ⟨A, n, c, rfl, h1, h2, h3⟩ := h
  obtain ⟨B, m, d, rfl, g1, g2, g3⟩ := h'
  have hlx := h3.1
  have hly := g3.1
  first | (refine det_fn Try.func100 rfl Try.ntmps100 Try.results100 rfl rfl rfl (by simp) ?_) | (refine det_fnC Try.func100 rfl Try.ntmps100 Try.results100 rfl rfl (by simp) ?_)
  simp
  by_cases hnm : n = m
  case neg =>
    have : x ≠ y := fun e => hnm (by rw [← hlx, ← hly, e])
    have e1 : ¬ (n : Int) = m := by omega
    simp [e1, this, Keeps.refl]
  subst hnm
  simp
  refine awLoop_T (fun m T M' => ∃ k : Nat, k + m = n ∧ M' = M ∧ look T 14 = some (iv k) ∧ look T 13 = some (iv n) ∧ look T 12 = some (.slice A n c) ∧ look T 1 = some (.slice B n d) ∧ x.take k = y.take k) n ⟨0, by omega, rfl, by simp, by simp, by simp, by simp, by simp⟩ ?_
  rintro m T M' ⟨k, hm, rfl, t14, t13, t12, t1, hk⟩
  by_cases hlt : k < n
  · obtain ⟨id, off, us, rfl, he, ⟨u, rfl, hu⟩, hc⟩ := h3.at_ hlt
    obtain ⟨id', off', us', rfl, he', ⟨v, rfl, hv⟩, hc'⟩ := g3.at_ hlt
    have c1 := (cl_cons.1 hc).1
    have c2 := (cl_cons.1 hc').1
    simp only [Nat.mul_one] at c1 c2
    simp (disch := omega) [t14, t13, t12, t1, hlt, wrap_in, c1, c2, he, he']
    refine awCall_det' (same_i hu hv) (Nat.le_refl _) ?_
    by_cases hxy : el x k = el y k
    · simp (disch := omega) [hxy, t14, t13, t12, t1, wrap_in]
      exact lpI (m - 1) (by omega) ⟨k + 1, by omega, rfl, by simp, by simp [t13], by simp [t12], by simp [t1], by rw [take_el (by omega), take_el (by omega), hk, hxy]⟩
    · simp [hxy]
      exact ⟨fun e => hxy (by rw [e]), Keeps.refl _⟩
  · obtain rfl : k = n := by omega
    rw [List.take_of_length_le (by omega), List.take_of_length_le (by omega)] at hk
    simp [t14, t13, hk, Keeps.refl]
theorem sameNode_i {M : Mem} {lo hi lo' hi' : Nat} {us vs : List Value} {x y : Node} (h : nodeP.rd lo hi M x us) (h' : nodeP.rd lo' hi' M y vs) : Det Try.prog M.length 101 [.agg us.toArray, .agg vs.toArray] M (.bool (decide (x = y))) M := by
  obtain ⟨u, rfl, hu⟩ := h
  obtain ⟨A1, n1, c1, rfl⟩ := hu.isSl
  obtain ⟨v, rfl, hv⟩ := h'
  obtain ⟨A2, n2, c2, rfl⟩ := hv.isSl
  first | (refine det_fn Try.func101 rfl Try.ntmps101 Try.results101 rfl rfl rfl (by simp) ?_) | (refine det_fnC Try.func101 rfl Try.ntmps101 Try.results101 rfl rfl (by simp) ?_)
  simp
  by_cases h1 : x.k = y.k
  case neg => simp [h1, node_eq, keeps_app]
  by_cases h2 : x.a = y.a
  case neg => simp [h1, h2, node_eq, keeps_app]
  by_cases h3 : x.b = y.b
  case neg => simp [h1, h2, h3, node_eq, keeps_app]
  simp [h1, h2, h3]
  refine awCall_det' (same_i (hu.app _) (hv.app _)) (by simp) ?_
  by_cases h4 : x.from_ = y.from_
  · simp [h1, h2, h3, h4, node_eq, keeps_app]
  · simp [h1, h2, h3, h4, node_eq, keeps_app]
set_option maxHeartbeats 1000000 in
theorem SamePatch_i {M : Mem} {lo hi lo' hi' : Nat} {us vs : List Value} {x y : Patch} (h : patchP.rd lo hi M x us) (h' : patchP.rd lo' hi' M y vs) : Det Try.prog M.length 54 [.agg us.toArray, .agg vs.toArray] M (.bool (decide (x = y))) M := by
  obtain ⟨u1, u2, u3, rfl, hu1, hu2, hu3⟩ := h
  obtain ⟨A1, n1, c1, rfl⟩ := hu1.isSl
  obtain ⟨A2, n2, c2, e2, p1, p2, p3⟩ := id hu2
  obtain ⟨A3, n3, c3, rfl⟩ := hu3.isSl
  obtain ⟨v1, v2, v3, rfl, hv1, hv2, hv3⟩ := h'
  obtain ⟨B1, m1, d1, rfl⟩ := hv1.isSl
  obtain ⟨B2, m2, d2, e2', q1, q2, q3⟩ := id hv2
  obtain ⟨B3, m3, d3, rfl⟩ := hv3.isSl
  subst e2; subst e2'
  have hlx := p3.1
  have hly := q3.1
  first | (refine det_fn Try.func54 rfl Try.ntmps54 Try.results54 rfl rfl rfl (by simp) ?_) | (refine det_fnC Try.func54 rfl Try.ntmps54 Try.results54 rfl rfl (by simp) ?_)
  simp
  by_cases h1 : x.inp = y.inp
  case neg => simp [h1, patch_eq, keeps_app]
  simp [h1]
  refine awCall_det' (sameAll_i (hu1.app _) (hv1.app _)) (by simp) ?_
  by_cases h2 : x.tabs = y.tabs
  case neg => simp [h1, h2, patch_eq, keeps_app]
  simp [h1, h2]
  refine awCall_det' (same_i (hu3.app _) (hv3.app _)) (by simp) ?_
  by_cases h3 : x.outs = y.outs
  case neg => simp [h1, h2, h3, patch_eq, keeps_app]
  simp [h1, h2, h3]
  by_cases hnm : n2 = m2
  case neg =>
    have : x.nodes ≠ y.nodes := fun e => hnm (by rw [← hlx, ← hly, e])
    have e1 : ¬ (n2 : Int) = m2 := by omega
    simp [e1, this, patch_eq, keeps_app]
  subst hnm
  simp
  obtain ⟨M0, hM0⟩ : ∃ M0 : Mem, M0 = M ++ [Slot.live ⟨[iv y.inp, .slice A1 n1 c1, .slice A2 n2 c2, .slice A3 n3 c3], true, true, 36, 4⟩, .live ⟨[iv y.inp, .slice B1 m1 d1, .slice B2 n2 d2, .slice B3 m3 d3], true, true, 36, 4⟩] := ⟨_, rfl⟩
  have k0 : Keeps M M0 := by rw [hM0]; exact keeps_app _
  have b0 : cellAt M0 (M.length + 1) 2 = some (.slice B2 n2 d2) := by rw [hM0]; simp
  have l0 := k0.len
  refine awLoop_T (fun m T M' => ∃ k : Nat, k + m = n2 ∧ Keeps M0 M' ∧ look T 40 = some (iv k) ∧ look T 39 = some (iv n2) ∧ look T 38 = some (.slice A2 n2 c2) ∧ look T 3 = some (.pointer (some ⟨M.length + 1, 0, none⟩)) ∧ x.nodes.take k = y.nodes.take k) n2 ⟨0, by omega, by rw [hM0]; exact Keeps.refl _, by simp, by simp, by simp, by simp, by simp⟩ ?_
  clear hM0
  rintro m T M1 ⟨k, hm, k1, t40, t39, t38, t3, hk⟩
  have l1 := k1.len
  have k01 := k0.trans k1
  by_cases hlt : k < n2
  · obtain ⟨id, off, us, rfl, he, hrd, hc⟩ := (p3.keeps k01).at_ hlt
    obtain ⟨id', off', us', rfl, he', hrd', hc'⟩ := (q3.keeps k01).at_ hlt
    have hrd2 := hrd
    have hrd2' := hrd'
    obtain ⟨u, rfl, hu⟩ := hrd2
    obtain ⟨v, rfl, hv⟩ := hrd2'
    obtain ⟨C1, r1, s1, rfl⟩ := hu.isSl
    obtain ⟨C2, r2, s2, rfl⟩ := hv.isSl
    have c1 := cellsAt_of (n := 4) hc rfl (by omega)
    have c2 := cellsAt_of (n := 4) hc' rfl (by omega)
    simp (disch := omega) [t40, t39, t38, t3, hlt, c1, he]
    refine awDraw_E 6 [[],[],[1],[],[2,1,3],[4,2,1,3],[0,5,4,2,1,3],[6,0,5,4,2,1,3]] (by kernel_rfl) (by kernel_rfl) ?_
    simp (disch := omega) [t40, t39, t38, t3, hlt, cellAt_app (cellAt_keeps k1 b0), cellsAt_app c2, rowEsz_keeps (keeps_app _) he']
    refine awCall_det' (sameNode_i (nodeP.app hrd _) (nodeP.app hrd' _)) (by simp <;> omega) ?_
    by_cases hxy : el x.nodes k = el y.nodes k
    · simp (disch := omega) [hxy, t40, t39, t38, t3, wrap_in]
      exact lpI (m - 1) (by omega) ⟨k + 1, by omega, k1.app _, by simp, by simp [t39], by simp [t38], by simp [t3], by rw [take_el (by omega), take_el (by omega), hk, hxy]⟩
    · have : x ≠ y := fun e => hxy (by rw [e])
      simp [hxy, this]
      exact k01.app _
  · obtain rfl : k = n2 := by omega
    rw [List.take_of_length_le (by omega), List.take_of_length_le (by omega)] at hk
    simp [t40, t39, patch_eq, h1, h2, h3, hk]
    exact k01
end Go.Proofs.Ytffbocbjmhkikaa
