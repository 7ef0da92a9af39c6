/- For every input: the program's StreamOfScore returns what the reference's returns, leaves its arguments alone, and hands back memory of its own. No conditions. -/
import Derived.Test.YtjgfpkamoalgiaaZzS12
namespace Go.Proofs.Ytjgfpkamoalgiaa
open Go.ChangeShapes Go.WideShapes Go.ChangeAt Go.RowKit
open Go.RowKit
set_option linter.unusedVariables false
set_option linter.unusedSimpArgs false
set_option maxRecDepth 100000
attribute [local simp] List.getElem?_cons_zero
attribute [local irreducible] awCond awCall awLoop awDraw ow retQ retC resQ Keeps

set_option maxHeartbeats 4000000 in
theorem lawStreamOfScore_a {M : Mem} {vaS : Value} {xaS : List Note} (aDivision : Int) (raS : RdL noteR 0 M.length M vaS xaS) (waS : ∀ a ∈ xaS, ∃ ys : List Int, a = noteI.of ys ∧ ys.length = 7 ∧ ∀ z ∈ ys, (Lit.int .i64 z).wf = true) (waDivision : (Lit.int .i64 aDivision).wf = true) : Det Try.prog M.length 3 [.agg #[vaS], iv aDivision] M (.bool true) M := by
  have K0 := Keeps.refl M
  by_cases gaS : (1048576 : Int) < xaS.length
  · first | (refine det_fn Try.func3 rfl Try.ntmps3 Try.results3 rfl rfl rfl (by simp) ?_) | (refine det_fnC Try.func3 rfl Try.ntmps3 Try.results3 rfl rfl (by simp) ?_)
    simp
    have kb := keeps_app (M := M) [.live ⟨[vaS], true, true, 24, 1⟩]
    have nb := kb.len
    obtain ⟨M0, hM0⟩ : ∃ M0 : Mem, M0 = M ++ [.live ⟨[vaS], true, true, 24, 1⟩] := ⟨_, rfl⟩
    have qb : M0.length = M.length + 1 := by rw [hM0]; simp
    have baS : cellsAt M0 M.length 0 1 = some [vaS] := by rw [hM0]; simp
    rw [← hM0] at kb nb
    rw [← hM0]
    clear hM0
    replace raS := raS.keeps kb
    replace K0 := kb
    refine awCall_det' (sz_Score_over raS (z := 1048576) (by omega) (by omega) (by omega)) (by omega) ?_
    simp [K0]
  have eaS : xaS.length ≤ 1048576 := by omega
  first | (refine det_fn Try.func3 rfl Try.ntmps3 Try.results3 rfl rfl rfl (by simp) ?_) | (refine det_fnC Try.func3 rfl Try.ntmps3 Try.results3 rfl rfl (by simp) ?_)
  simp
  have kb := keeps_app (M := M) [.live ⟨[vaS], true, true, 24, 1⟩]
  have nb := kb.len
  obtain ⟨M0, hM0⟩ : ∃ M0 : Mem, M0 = M ++ [.live ⟨[vaS], true, true, 24, 1⟩] := ⟨_, rfl⟩
  have qb : M0.length = M.length + 1 := by rw [hM0]; simp
  have baS : cellsAt M0 M.length 0 1 = some [vaS] := by rw [hM0]; simp
  rw [← hM0] at kb nb
  rw [← hM0]
  clear hM0
  replace raS := raS.keeps kb
  replace K0 := kb
  refine awCall_det' (sz_Score raS (z := 1048576) (by omega) (by omega) (by omega)) (by omega) ?_
  try simp (disch := omega) [wrap_in, dec_neg, str_same, baS, cellsAt_app baS]
  first | (refine awDraw_D 3 [[],[],[1],[0,2,1],[3,0,2,1]] (by kernel_rfl) (by decide +kernel) ?_; try simp (disch := omega) [wrap_in, dec_neg, str_same, baS, cellsAt_app baS]) | skip
  obtain ⟨u_t1, N1, d1, r_t1⟩ := to_Score_d raS eaS
  have o1 := r_t1.one
  first | (refine awCall_det' (d := true) d1 (by omega) ?_; simp (disch := omega) [wrap_in, dec_neg, str_same, baS, cellsAt_app baS, o1]; obtain ⟨M1, hM1, k1⟩ : ∃ M' : Mem, M' = M0 ++ N1 ∧ Keeps M0 M' := ⟨_, rfl, keeps_app _⟩; rw [← hM1] at r_t1; rw [← hM1]) | (refine awCall_det' (d := false) d1 (by omega) ?_; obtain ⟨M1, hM1, k1⟩ : ∃ M' : Mem, M' = M0 ++ N1 ∧ Keeps M0 M' := ⟨_, rfl, keeps_app _⟩; rw [← hM1] at r_t1; rw [← hM1]; skip)
  have n1 := k1.len
  have q1 : M1.length = M0.length + N1.length := by rw [hM1, List.length_append]
  replace raS := raS.keeps k1
  have K1 := K0.trans k1
  replace baS := cellsAt_keeps k1 baS
  clear k1 d1
  try simp (disch := omega) [wrap_in, dec_neg, str_same, baS, cellsAt_app baS, o1]
  first | (refine awDraw_D 3 [[],[],[1],[0,2,1],[3,0,2,1]] (by kernel_rfl) (by decide +kernel) ?_; try simp (disch := omega) [wrap_in, dec_neg, str_same, baS, cellsAt_app baS, o1]) | skip
  refine awCall_ctr ((StreamOfScore_sl r_t1.rd aDivision eaS).weaken (by omega)) ?_
  rintro _ M2 ⟨v_w0, rfl, r_w0, k2⟩
  have n2 := k2.len
  replace raS := raS.keeps k2
  replace r_t1 := r_t1.keeps k2
  have K2 := K1.trans k2
  replace baS := cellsAt_keeps k2 baS
  clear k2
  try simp (disch := omega) [wrap_in, dec_neg, str_same, baS, cellsAt_app baS, o1]
  first | (refine awDraw_D 3 [[],[],[1],[0,2,1],[3,0,2,1]] (by kernel_rfl) (by decide +kernel) ?_; try simp (disch := omega) [wrap_in, dec_neg, str_same, baS, cellsAt_app baS, o1]) | skip
  obtain ⟨u_t3, N3, d3, r_t3⟩ := to_Score_d raS eaS
  have o3 := r_t3.one
  first | (refine awCall_det' (d := true) d3 (by omega) ?_; refine ⟨N3, by rw [hM2, List.append_assoc], ?_⟩; have e3 : M0 ++ (N2 ++ N3) = M2 ++ N3 := (by rw [hM2, List.append_assoc]); obtain ⟨M3, hM3, k3⟩ : ∃ M' : Mem, M' = M2 ++ N3 ∧ Keeps M2 M' := ⟨_, rfl, keeps_app _⟩; rw [← hM3] at r_t3; rw [e3, ← hM3]) | (refine awCall_det' (d := true) d3 (by omega) ?_; simp (disch := omega) [wrap_in, dec_neg, str_same, baS, cellsAt_app baS, o1, o3]; obtain ⟨M3, hM3, k3⟩ : ∃ M' : Mem, M' = M2 ++ N3 ∧ Keeps M2 M' := ⟨_, rfl, keeps_app _⟩; rw [← hM3] at r_t3; rw [← hM3]) | (refine awCall_det' (d := false) d3 (by omega) ?_; obtain ⟨M3, hM3, k3⟩ : ∃ M' : Mem, M' = M2 ++ N3 ∧ Keeps M2 M' := ⟨_, rfl, keeps_app _⟩; rw [← hM3] at r_t3; rw [← hM3]; skip)
  have n3 := k3.len
  have q3 : M3.length = M2.length + N3.length := by rw [hM3, List.length_append]
  replace raS := raS.keeps k3
  replace r_t1 := r_t1.keeps k3
  replace r_w0 := r_w0.keeps k3
  have K3 := K2.trans k3
  replace baS := cellsAt_keeps k3 baS
  clear k3 d3
  try simp (disch := omega) [wrap_in, dec_neg, str_same, baS, cellsAt_app baS, o1, o3]
  first | (refine awDraw_D 3 [[],[],[1],[0,2,1],[3,0,2,1]] (by kernel_rfl) (by decide +kernel) ?_; try simp (disch := omega) [wrap_in, dec_neg, str_same, baS, cellsAt_app baS, o1, o3]) | skip
  obtain ⟨M4, hM4⟩ : ∃ M' : Mem, M' = M3 ++ [.live ⟨[u_t3], true, true, 31, 1⟩] := ⟨_, rfl⟩
  have bx0 : cellsAt M4 M3.length 0 1 = some [u_t3] := by rw [hM4]; simp
  have k4 : Keeps M3 M4 := by rw [hM4]; exact keeps_app _
  have n4 : M4.length = M3.length + 1 := by rw [hM4]; simp
  rw [← hM4]
  replace raS := raS.keeps k4
  replace r_t1 := r_t1.keeps k4
  replace r_w0 := r_w0.keeps k4
  replace r_t3 := r_t3.keeps k4
  have K4 := K3.trans k4
  replace baS := cellsAt_keeps k4 baS
  clear k4 hM4
  try simp (disch := omega) [wrap_in, dec_neg, str_same, baS, cellsAt_app baS, bx0, cellsAt_app bx0, o1, o3]
  first | (refine awDraw_D 3 [[],[],[1],[0,2,1],[3,0,2,1]] (by kernel_rfl) (by decide +kernel) ?_; try simp (disch := omega) [wrap_in, dec_neg, str_same, baS, cellsAt_app baS, bx0, cellsAt_app bx0, o1, o3]) | skip
  refine awCall_ctr ((StreamOfScore_il r_t3.rd aDivision eaS).weaken (by omega)) ?_
  rintro _ M5 ⟨v_g0, rfl, r_g0, k5⟩
  have n5 := k5.len
  replace raS := raS.keeps k5
  replace r_t1 := r_t1.keeps k5
  replace r_w0 := r_w0.keeps k5
  replace r_t3 := r_t3.keeps k5
  have K5 := K4.trans k5
  replace baS := cellsAt_keeps k5 baS
  replace bx0 := cellsAt_keeps k5 bx0
  clear k5
  try simp (disch := omega) [wrap_in, dec_neg, str_same, baS, cellsAt_app baS, bx0, cellsAt_app bx0, o1, o3]
  first | (refine awDraw_D 3 [[],[],[1],[0,2,1],[3,0,2,1]] (by kernel_rfl) (by decide +kernel) ?_; try simp (disch := omega) [wrap_in, dec_neg, str_same, baS, cellsAt_app baS, bx0, cellsAt_app bx0, o1, o3]) | skip
  refine awCall_det' (eq_StreamEventS r_g0 r_w0.rd) (by omega) ?_
  try simp (disch := omega) [wrap_in, dec_neg, str_same, baS, cellsAt_app baS, bx0, cellsAt_app bx0, o1, o3]
  first | (refine awDraw_D 3 [[],[],[1],[0,2,1],[3,0,2,1]] (by kernel_rfl) (by decide +kernel) ?_; try simp (disch := omega) [wrap_in, dec_neg, str_same, baS, cellsAt_app baS, bx0, cellsAt_app bx0, o1, o3]) | skip
  obtain ⟨u_t6, N6, d6, r_t6⟩ := to_Score_d raS eaS
  have o6 := r_t6.one
  first | (refine awCall_det' (d := true) d6 (by omega) ?_; refine ⟨N6, by rw [hM5, List.append_assoc], ?_⟩; have e6 : M2 ++ (N5 ++ N6) = M5 ++ N6 := (by rw [hM5, List.append_assoc]); obtain ⟨M6, hM6, k6⟩ : ∃ M' : Mem, M' = M5 ++ N6 ∧ Keeps M5 M' := ⟨_, rfl, keeps_app _⟩; rw [← hM6] at r_t6; rw [e6, ← hM6]) | (refine awCall_det' (d := true) d6 (by omega) ?_; simp (disch := omega) [wrap_in, dec_neg, str_same, baS, cellsAt_app baS, bx0, cellsAt_app bx0, o1, o3, o6]; obtain ⟨M6, hM6, k6⟩ : ∃ M' : Mem, M' = M5 ++ N6 ∧ Keeps M5 M' := ⟨_, rfl, keeps_app _⟩; rw [← hM6] at r_t6; rw [← hM6]) | (refine awCall_det' (d := false) d6 (by omega) ?_; obtain ⟨M6, hM6, k6⟩ : ∃ M' : Mem, M' = M5 ++ N6 ∧ Keeps M5 M' := ⟨_, rfl, keeps_app _⟩; rw [← hM6] at r_t6; rw [← hM6]; skip)
  have n6 := k6.len
  have q6 : M6.length = M5.length + N6.length := by rw [hM6, List.length_append]
  replace raS := raS.keeps k6
  replace r_t1 := r_t1.keeps k6
  replace r_w0 := r_w0.keeps k6
  replace r_t3 := r_t3.keeps k6
  replace r_g0 := r_g0.keeps k6
  have K6 := K5.trans k6
  replace baS := cellsAt_keeps k6 baS
  replace bx0 := cellsAt_keeps k6 bx0
  clear k6 d6
  try simp (disch := omega) [wrap_in, dec_neg, str_same, baS, cellsAt_app baS, bx0, cellsAt_app bx0, o1, o3, o6]
  first | (refine awDraw_D 3 [[],[],[1],[0,2,1],[3,0,2,1]] (by kernel_rfl) (by decide +kernel) ?_; try simp (disch := omega) [wrap_in, dec_neg, str_same, baS, cellsAt_app baS, bx0, cellsAt_app bx0, o1, o3, o6]) | skip
  refine awCall_det' (eq_Score r_t3 r_t6.rd) (by omega) ?_
  try simp (disch := omega) [wrap_in, dec_neg, str_same, baS, cellsAt_app baS, bx0, cellsAt_app bx0, o1, o3, o6]
  first | (refine awDraw_D 3 [[],[],[1],[0,2,1],[3,0,2,1]] (by kernel_rfl) (by decide +kernel) ?_; try simp (disch := omega) [wrap_in, dec_neg, str_same, baS, cellsAt_app baS, bx0, cellsAt_app bx0, o1, o3, o6]) | skip
  refine awCall_ctr ((mark_Score (b := M.length) r_t3 (by omega) (by omega) (by omega)).weaken (Nat.le_refl _)) ?_
  rintro _ M7 ⟨rfl, m_x0, k7⟩
  have n7 := k7.1
  replace raS := raS.turn k7 (by omega)
  replace r_t1 := r_t1.turn k7 (by omega)
  replace r_w0 := r_w0.turn k7 (by omega)
  replace r_g0 := r_g0.turn k7 (by omega)
  replace r_t6 := r_t6.turn k7 (by omega)
  replace baS := cellsAt_turn2 k7 (by omega) baS
  replace bx0 := cellsAt_turn2 k7 (by omega) bx0
  have K7 := k7.keeps K6 (by omega)
  clear k7
  try simp (disch := omega) [wrap_in, dec_neg, str_same, baS, cellsAt_app baS, bx0, cellsAt_app bx0, o1, o3, o6]
  first | (refine awDraw_D 3 [[],[],[1],[0,2,1],[3,0,2,1]] (by kernel_rfl) (by decide +kernel) ?_; try simp (disch := omega) [wrap_in, dec_neg, str_same, baS, cellsAt_app baS, bx0, cellsAt_app bx0, o1, o3, o6]) | skip
  refine awCall_det' (eq_StreamEventS r_g0 r_w0.rd) (by omega) ?_
  try simp (disch := omega) [wrap_in, dec_neg, str_same, baS, cellsAt_app baS, bx0, cellsAt_app bx0, o1, o3, o6]
  first | (refine awDraw_D 3 [[],[],[1],[0,2,1],[3,0,2,1]] (by kernel_rfl) (by decide +kernel) ?_; try simp (disch := omega) [wrap_in, dec_neg, str_same, baS, cellsAt_app baS, bx0, cellsAt_app bx0, o1, o3, o6]) | skip
  refine awCall_ctr ((mark_StreamEventS (b := M.length) r_g0 (by omega) (by omega) (by omega)).weaken (Nat.le_refl _)) ?_
  rintro _ M8 ⟨rfl, m_g0, k8⟩
  have n8 := k8.1
  replace raS := raS.turn k8 (by omega)
  replace r_t1 := r_t1.turn k8 (by omega)
  replace r_w0 := r_w0.turn k8 (by omega)
  replace m_x0 := m_x0.turn k8 (by omega)
  replace r_t6 := r_t6.turn k8 (by omega)
  replace baS := cellsAt_turn2 k8 (by omega) baS
  replace bx0 := cellsAt_turn2 k8 (by omega) bx0
  have K8 := k8.keeps K7 (by omega)
  clear k8
  try simp (disch := omega) [wrap_in, dec_neg, str_same, baS, cellsAt_app baS, bx0, cellsAt_app bx0, o1, o3, o6]
  first | (refine awDraw_D 3 [[],[],[1],[0,2,1],[3,0,2,1]] (by kernel_rfl) (by decide +kernel) ?_; try simp (disch := omega) [wrap_in, dec_neg, str_same, baS, cellsAt_app baS, bx0, cellsAt_app bx0, o1, o3, o6]) | skip
  refine awCall_det' (held_StreamEventS m_g0 (by omega) (by omega)) (by omega) ?_
  try simp (disch := omega) [wrap_in, dec_neg, str_same, baS, cellsAt_app baS, bx0, cellsAt_app bx0, o1, o3, o6]
  first | (refine awDraw_D 3 [[],[],[1],[0,2,1],[3,0,2,1]] (by kernel_rfl) (by decide +kernel) ?_; try simp (disch := omega) [wrap_in, dec_neg, str_same, baS, cellsAt_app baS, bx0, cellsAt_app bx0, o1, o3, o6]) | skip
  obtain ⟨u_t9, N9, d9, r_t9⟩ := to_Score_d raS eaS
  have o9 := r_t9.one
  first | (refine awCall_det' (d := true) d9 (by omega) ?_; refine ⟨N9, by rw [hM8, List.append_assoc], ?_⟩; have e9 : M5 ++ (N8 ++ N9) = M8 ++ N9 := (by rw [hM8, List.append_assoc]); obtain ⟨M9, hM9, k9⟩ : ∃ M' : Mem, M' = M8 ++ N9 ∧ Keeps M8 M' := ⟨_, rfl, keeps_app _⟩; rw [← hM9] at r_t9; rw [e9, ← hM9]) | (refine awCall_det' (d := true) d9 (by omega) ?_; simp (disch := omega) [wrap_in, dec_neg, str_same, baS, cellsAt_app baS, bx0, cellsAt_app bx0, o1, o3, o6, o9]; obtain ⟨M9, hM9, k9⟩ : ∃ M' : Mem, M' = M8 ++ N9 ∧ Keeps M8 M' := ⟨_, rfl, keeps_app _⟩; rw [← hM9] at r_t9; rw [← hM9]) | (refine awCall_det' (d := false) d9 (by omega) ?_; obtain ⟨M9, hM9, k9⟩ : ∃ M' : Mem, M' = M8 ++ N9 ∧ Keeps M8 M' := ⟨_, rfl, keeps_app _⟩; rw [← hM9] at r_t9; rw [← hM9]; skip)
  have n9 := k9.len
  have q9 : M9.length = M8.length + N9.length := by rw [hM9, List.length_append]
  replace raS := raS.keeps k9
  replace r_t1 := r_t1.keeps k9
  replace r_w0 := r_w0.keeps k9
  replace m_x0 := m_x0.keeps k9
  replace m_g0 := m_g0.keeps k9
  replace r_t6 := r_t6.keeps k9
  have K9 := K8.trans k9
  replace baS := cellsAt_keeps k9 baS
  replace bx0 := cellsAt_keeps k9 bx0
  clear k9 d9
  try simp (disch := omega) [wrap_in, dec_neg, str_same, baS, cellsAt_app baS, bx0, cellsAt_app bx0, o1, o3, o6, o9]
  first | (refine awDraw_D 3 [[],[],[1],[0,2,1],[3,0,2,1]] (by kernel_rfl) (by decide +kernel) ?_; try simp (disch := omega) [wrap_in, dec_neg, str_same, baS, cellsAt_app baS, bx0, cellsAt_app bx0, o1, o3, o6, o9]) | skip
  refine awCall_ctr ((StreamOfScore_il r_t9.rd aDivision eaS).weaken (by omega)) ?_
  rintro _ M10 ⟨v_h0, rfl, r_h0, k10⟩
  have n10 := k10.len
  replace raS := raS.keeps k10
  replace r_t1 := r_t1.keeps k10
  replace r_w0 := r_w0.keeps k10
  replace m_x0 := m_x0.keeps k10
  replace m_g0 := m_g0.keeps k10
  replace r_t6 := r_t6.keeps k10
  replace r_t9 := r_t9.keeps k10
  have K10 := K9.trans k10
  replace baS := cellsAt_keeps k10 baS
  replace bx0 := cellsAt_keeps k10 bx0
  clear k10
  try simp (disch := omega) [wrap_in, dec_neg, str_same, baS, cellsAt_app baS, bx0, cellsAt_app bx0, o1, o3, o6, o9]
  first | (refine awDraw_D 3 [[],[],[1],[0,2,1],[3,0,2,1]] (by kernel_rfl) (by decide +kernel) ?_; try simp (disch := omega) [wrap_in, dec_neg, str_same, baS, cellsAt_app baS, bx0, cellsAt_app bx0, o1, o3, o6, o9]) | skip
  refine awCall_det' (eq_StreamEventS r_h0 r_w0.rd) (by omega) ?_
  try simp (disch := omega) [wrap_in, dec_neg, str_same, baS, cellsAt_app baS, bx0, cellsAt_app bx0, o1, o3, o6, o9]
  first | (refine awDraw_D 3 [[],[],[1],[0,2,1],[3,0,2,1]] (by kernel_rfl) (by decide +kernel) ?_; try simp (disch := omega) [wrap_in, dec_neg, str_same, baS, cellsAt_app baS, bx0, cellsAt_app bx0, o1, o3, o6, o9]) | skip
  refine awCall_det' (held_StreamEventS m_g0 (by omega) (by omega)) (by omega) ?_
  try simp (disch := omega) [wrap_in, dec_neg, str_same, baS, cellsAt_app baS, bx0, cellsAt_app bx0, o1, o3, o6, o9]
  first | (refine awDraw_D 3 [[],[],[1],[0,2,1],[3,0,2,1]] (by kernel_rfl) (by decide +kernel) ?_; try simp (disch := omega) [wrap_in, dec_neg, str_same, baS, cellsAt_app baS, bx0, cellsAt_app bx0, o1, o3, o6, o9]) | skip
  try simp [K10]
set_option maxRecDepth 100000 in
theorem FnExactStreamOfScore_lifted (os : Os) (started : os.Started) (H : Type) (enc : TypeId × Value → H) :
    ReturnsInHanded {} Try.checked os 3 .any (Rows.fnExactStreamOfScoreSpec.pre6 enc Try.prog Try.f3 Rows.fnExactStreamOfScoreRow.domain false) (Rows.fnExactStreamOfScoreSpec.post enc Try.prog Try.f3 false true false false) := by
  refine returnsInHanded_of_change (C := Try.checked) own_knob started (by kernel_rfl) Try.func3
    (ChangeSpec.witness6 (enc := enc) (C := Try.checked) false ⟨#[], #[.agg #[.slice none 0 0], .int .i64 0], []⟩ 8 (by kernel_rfl) (by kernel_rfl) (by kernel_rfl) (by kernel_rfl)) ?_
  intro W base args ds gs before hval0 hW hcnd _
  have hval : ∀ (j : Nat) t v, Try.f3.params[j]? = some t → args[j]? = some v → Value.okWide Try.prog W .any base t v := hval0
  have hW' := hW
  have hlt := hW.lt
  obtain ⟨p, q, hA0, hV, rfl, hfz, hnd⟩ := hW
  have hA : DataW.TrodAll enc Try.prog W 0 (fun _ => true) true Try.f3.params.toList args.toList ds p := hA0
  rw [Try.params3] at hA hval
  obtain ⟨v0, v1, d0, d1, p0, p1, rfl, rfl, rfl, h0, h1⟩ := trodAll_two hA
  have ar0 := Arg.wrap noteI Try.underlying24 ⟨rfl, rfl⟩ (by kernel_rfl) (by kernel_rfl) Try.underlying22 (by kernel_rfl) (show Try.prog.cellsOf 77 = 7 from by kernel_rfl) (by omega) hlt (hval 0 _ v0 rfl rfl) h0 (fun x hx => by simp [hx])
  obtain ⟨a1, rfl, rfl, rfl, wa1⟩ := open_int Try.underlying2 (hval 1 2 v1 rfl rfl) h1
  have R := AR.nil W
  obtain ⟨L0, μ0, _, R0, u0, rfl, B0, n0, c0, l0, rfl, hn0, hs0, hw0⟩ := R.next ar0
  have K0 := RdL.of_sl hn0 hs0 c0
  obtain ⟨L1, μ1, u1, R1, rfl⟩ := R0.next (Arg.plain (c := iv a1) rfl)
  replace K0 := K0.up L1
  refine (law_end R1 (lawStreamOfScore_a a1 K0 hw0 wa1) ).mono fun e W' ⟨he, hb⟩ => ?_
  subst he
  exact ⟨_, rfl, law_post rfl rfl (by kernel_rfl) rfl hW' hb⟩
theorem FnExactStreamOfScore_holds : Rows.FnExactStreamOfScoreSaid :=
  OpenClaim.holds_of_wide 3 Try.f3 rfl rfl rfl rfl rfl rfl rfl ⟨rfl, rfl, rfl, rfl, rfl⟩ rfl rfl rfl rfl rfl (by kernel_rfl) Try.func3 (by kernel_rfl)
    (of_decide_eq_true (by kernel_rfl)) (by unfold Func.isWrapper; first | (rw [if_pos (by decide +kernel)]; kernel_rfl) | (rw [if_neg (by decide +kernel)]; exact ⟨rfl, rfl⟩))
    (fun os started H enc _ => FnExactStreamOfScore_lifted os started H enc)
#print axioms FnExactStreamOfScore_holds
end Go.Proofs.Ytjgfpkamoalgiaa
