/- For every input: the program's SplitClip returns what the reference's returns, leaves its arguments alone, and hands back memory of its own. No conditions. -/
import Derived.Test.YtimijeeihicohaaZzSc10
namespace Go.Proofs.Ytimijeeihicohaa
open Go.ChangeShapes Go.WideShapes Go.ChangeAt Go.RowKit
open Go.RowKit
set_option linter.unusedVariables false
set_option linter.unusedSimpArgs false
set_option maxRecDepth 100000
attribute [local simp] List.getElem?_cons_zero
attribute [local irreducible] awCond awCall awLoop awDraw ow retQ retC resQ Keeps

set_option maxHeartbeats 4000000 in
theorem lawSplitClip_a {M : Mem} {vaT : Value} {xaT : List Clip} (aK : Int) (aAt : Int) (raT : RdL clipR 0 M.length M vaT xaT) (waT : ∀ a ∈ xaT, ∃ ys : List Int, a = clipI.of ys ∧ ys.length = 5 ∧ ∀ z ∈ ys, (Lit.int .i64 z).wf = true) (waK : (Lit.int .i64 aK).wf = true) (waAt : (Lit.int .i64 aAt).wf = true) : Det Try.prog M.length 4 [.agg #[vaT], iv aK, iv aAt] M (.bool true) M := by
  have K0 := Keeps.refl M
  by_cases gaT : (1048576 : Int) < xaT.length
  · first | (refine det_fn Try.func4 rfl Try.ntmps4 Try.results4 rfl rfl rfl (by simp) ?_) | (refine det_fnC Try.func4 rfl Try.ntmps4 Try.results4 rfl rfl (by simp) ?_)
    simp
    have kb := keeps_app (M := M) [.live ⟨[vaT], true, true, 24, 1⟩]
    have nb := kb.len
    obtain ⟨M0, hM0⟩ : ∃ M0 : Mem, M0 = M ++ [.live ⟨[vaT], true, true, 24, 1⟩] := ⟨_, rfl⟩
    have qb : M0.length = M.length + 1 := by rw [hM0]; simp
    have baT : cellsAt M0 M.length 0 1 = some [vaT] := by rw [hM0]; simp
    rw [← hM0] at kb nb
    rw [← hM0]
    clear hM0
    replace raT := raT.keeps kb
    replace K0 := kb
    refine awCall_det' (sz_Track_over raT (z := 1048576) (by omega) (by omega) (by omega)) (by omega) ?_
    simp [K0]
  have eaT : xaT.length ≤ 1048576 := by omega
  first | (refine det_fn Try.func4 rfl Try.ntmps4 Try.results4 rfl rfl rfl (by simp) ?_) | (refine det_fnC Try.func4 rfl Try.ntmps4 Try.results4 rfl rfl (by simp) ?_)
  simp
  have kb := keeps_app (M := M) [.live ⟨[vaT], true, true, 24, 1⟩]
  have nb := kb.len
  obtain ⟨M0, hM0⟩ : ∃ M0 : Mem, M0 = M ++ [.live ⟨[vaT], true, true, 24, 1⟩] := ⟨_, rfl⟩
  have qb : M0.length = M.length + 1 := by rw [hM0]; simp
  have baT : cellsAt M0 M.length 0 1 = some [vaT] := by rw [hM0]; simp
  rw [← hM0] at kb nb
  rw [← hM0]
  clear hM0
  replace raT := raT.keeps kb
  replace K0 := kb
  refine awCall_det' (sz_Track raT (z := 1048576) (by omega) (by omega) (by omega)) (by omega) ?_
  try simp (disch := omega) [wrap_in, dec_neg, str_same, baT, cellsAt_app baT]
  first | (refine awDraw_D 3 [[],[],[1],[0,2,1],[3,0,2,1]] (by kernel_rfl) (by decide +kernel) ?_; try simp (disch := omega) [wrap_in, dec_neg, str_same, baT, cellsAt_app baT]) | skip
  obtain ⟨u_t1, N1, d1, r_t1, s_t1⟩ := to_Track_e raT eaT
  have o1 := r_t1.one
  first | (refine awCall_det' (d := true) d1 (by omega) ?_; simp (disch := omega) [wrap_in, dec_neg, str_same, baT, cellsAt_app baT, o1]; obtain ⟨M1, hM1, k1⟩ : ∃ M' : Mem, M' = M0 ++ N1 ∧ Keeps M0 M' := ⟨_, rfl, keeps_app _⟩; rw [← hM1] at r_t1 s_t1; rw [← hM1]) | (refine awCall_det' (d := false) d1 (by omega) ?_; obtain ⟨M1, hM1, k1⟩ : ∃ M' : Mem, M' = M0 ++ N1 ∧ Keeps M0 M' := ⟨_, rfl, keeps_app _⟩; rw [← hM1] at r_t1 s_t1; rw [← hM1]; skip)
  have n1 := k1.len
  have q1 : M1.length = M0.length + N1.length := by rw [hM1, List.length_append]
  replace raT := raT.keeps k1
  have K1 := K0.trans k1
  replace baT := cellsAt_keeps k1 baT
  clear k1 d1
  try simp (disch := omega) [wrap_in, dec_neg, str_same, baT, cellsAt_app baT, o1]
  first | (refine awDraw_D 3 [[],[],[1],[0,2,1],[3,0,2,1]] (by kernel_rfl) (by decide +kernel) ?_; try simp (disch := omega) [wrap_in, dec_neg, str_same, baT, cellsAt_app baT, o1]) | skip
  refine awCall_ctr ((SplitClip_sl s_t1 aK aAt eaT waAt).weaken (by omega)) ?_
  rintro _ M2 ⟨v_w0, rfl, r_w0, k2⟩
  have n2 := k2.len
  replace raT := raT.keeps k2
  replace r_t1 := r_t1.keeps k2
  have K2 := K1.trans k2
  replace baT := cellsAt_keeps k2 baT
  clear k2
  have o2_w0 := r_w0.one
  try simp (disch := omega) [wrap_in, dec_neg, str_same, baT, cellsAt_app baT, o1, o2_w0]
  first | (refine awDraw_D 3 [[],[],[1],[0,2,1],[3,0,2,1]] (by kernel_rfl) (by decide +kernel) ?_; try simp (disch := omega) [wrap_in, dec_neg, str_same, baT, cellsAt_app baT, o1, o2_w0]) | skip
  obtain ⟨M3, hM3⟩ : ∃ M' : Mem, M' = M2 ++ [.live ⟨[v_w0], true, true, 30, 1⟩] := ⟨_, rfl⟩
  have bw0 : cellsAt M3 M2.length 0 1 = some [v_w0] := by rw [hM3]; simp
  have k3 : Keeps M2 M3 := by rw [hM3]; exact keeps_app _
  have n3 : M3.length = M2.length + 1 := by rw [hM3]; simp
  rw [← hM3]
  replace raT := raT.keeps k3
  replace r_t1 := r_t1.keeps k3
  replace r_w0 := r_w0.keeps k3
  have K3 := K2.trans k3
  replace baT := cellsAt_keeps k3 baT
  clear k3 hM3
  try simp (disch := omega) [wrap_in, dec_neg, str_same, baT, cellsAt_app baT, bw0, cellsAt_app bw0, o1, o2_w0]
  first | (refine awDraw_D 3 [[],[],[1],[0,2,1],[3,0,2,1]] (by kernel_rfl) (by decide +kernel) ?_; try simp (disch := omega) [wrap_in, dec_neg, str_same, baT, cellsAt_app baT, bw0, cellsAt_app bw0, o1, o2_w0]) | skip
  obtain ⟨u_t4, N4, d4, r_t4, s_t4⟩ := to_Track_e raT eaT
  have o4 := r_t4.one
  first | (refine awCall_det' (d := true) d4 (by omega) ?_; refine ⟨N4, by rw [hM3, List.append_assoc], ?_⟩; have e4 : M0 ++ (N3 ++ N4) = M3 ++ N4 := (by rw [hM3, List.append_assoc]); obtain ⟨M4, hM4, k4⟩ : ∃ M' : Mem, M' = M3 ++ N4 ∧ Keeps M3 M' := ⟨_, rfl, keeps_app _⟩; rw [← hM4] at r_t4 s_t4; rw [e4, ← hM4]) | (refine awCall_det' (d := true) d4 (by omega) ?_; simp (disch := omega) [wrap_in, dec_neg, str_same, baT, cellsAt_app baT, bw0, cellsAt_app bw0, o1, o2_w0, o4]; obtain ⟨M4, hM4, k4⟩ : ∃ M' : Mem, M' = M3 ++ N4 ∧ Keeps M3 M' := ⟨_, rfl, keeps_app _⟩; rw [← hM4] at r_t4 s_t4; rw [← hM4]) | (refine awCall_det' (d := false) d4 (by omega) ?_; obtain ⟨M4, hM4, k4⟩ : ∃ M' : Mem, M' = M3 ++ N4 ∧ Keeps M3 M' := ⟨_, rfl, keeps_app _⟩; rw [← hM4] at r_t4 s_t4; rw [← hM4]; skip)
  have n4 := k4.len
  have q4 : M4.length = M3.length + N4.length := by rw [hM4, List.length_append]
  replace raT := raT.keeps k4
  replace r_t1 := r_t1.keeps k4
  replace r_w0 := r_w0.keeps k4
  have K4 := K3.trans k4
  replace baT := cellsAt_keeps k4 baT
  replace bw0 := cellsAt_keeps k4 bw0
  clear k4 d4
  try simp (disch := omega) [wrap_in, dec_neg, str_same, baT, cellsAt_app baT, bw0, cellsAt_app bw0, o1, o2_w0, o4]
  first | (refine awDraw_D 3 [[],[],[1],[0,2,1],[3,0,2,1]] (by kernel_rfl) (by decide +kernel) ?_; try simp (disch := omega) [wrap_in, dec_neg, str_same, baT, cellsAt_app baT, bw0, cellsAt_app bw0, o1, o2_w0, o4]) | skip
  obtain ⟨M5, hM5⟩ : ∃ M' : Mem, M' = M4 ++ [.live ⟨[u_t4], true, true, 30, 1⟩] := ⟨_, rfl⟩
  have bx0 : cellsAt M5 M4.length 0 1 = some [u_t4] := by rw [hM5]; simp
  have k5 : Keeps M4 M5 := by rw [hM5]; exact keeps_app _
  have n5 : M5.length = M4.length + 1 := by rw [hM5]; simp
  rw [← hM5]
  replace raT := raT.keeps k5
  replace r_t1 := r_t1.keeps k5
  replace r_w0 := r_w0.keeps k5
  replace r_t4 := r_t4.keeps k5
  replace s_t4 := s_t4.keeps k5
  have K5 := K4.trans k5
  replace baT := cellsAt_keeps k5 baT
  replace bw0 := cellsAt_keeps k5 bw0
  clear k5 hM5
  try simp (disch := omega) [wrap_in, dec_neg, str_same, baT, cellsAt_app baT, bw0, cellsAt_app bw0, bx0, cellsAt_app bx0, o1, o2_w0, o4]
  first | (refine awDraw_D 3 [[],[],[1],[0,2,1],[3,0,2,1]] (by kernel_rfl) (by decide +kernel) ?_; try simp (disch := omega) [wrap_in, dec_neg, str_same, baT, cellsAt_app baT, bw0, cellsAt_app bw0, bx0, cellsAt_app bx0, o1, o2_w0, o4]) | skip
  refine awCall_ctr ((SplitClip_il s_t4 aK aAt eaT waAt).weaken (by omega)) ?_
  rintro _ M6 ⟨v_g0, rfl, r_g0, k6⟩
  have n6 := k6.len
  replace raT := raT.keeps k6
  replace r_t1 := r_t1.keeps k6
  replace r_w0 := r_w0.keeps k6
  replace r_t4 := r_t4.keeps k6
  have K6 := K5.trans k6
  replace baT := cellsAt_keeps k6 baT
  replace bw0 := cellsAt_keeps k6 bw0
  replace bx0 := cellsAt_keeps k6 bx0
  clear k6
  have o6_g0 := r_g0.one
  try simp (disch := omega) [wrap_in, dec_neg, str_same, baT, cellsAt_app baT, bw0, cellsAt_app bw0, bx0, cellsAt_app bx0, o1, o2_w0, o4, o6_g0]
  first | (refine awDraw_D 3 [[],[],[1],[0,2,1],[3,0,2,1]] (by kernel_rfl) (by decide +kernel) ?_; try simp (disch := omega) [wrap_in, dec_neg, str_same, baT, cellsAt_app baT, bw0, cellsAt_app bw0, bx0, cellsAt_app bx0, o1, o2_w0, o4, o6_g0]) | skip
  obtain ⟨M7, hM7⟩ : ∃ M' : Mem, M' = M6 ++ [.live ⟨[v_g0], true, true, 30, 1⟩] := ⟨_, rfl⟩
  have bg0 : cellsAt M7 M6.length 0 1 = some [v_g0] := by rw [hM7]; simp
  have k7 : Keeps M6 M7 := by rw [hM7]; exact keeps_app _
  have n7 : M7.length = M6.length + 1 := by rw [hM7]; simp
  rw [← hM7]
  replace raT := raT.keeps k7
  replace r_t1 := r_t1.keeps k7
  replace r_w0 := r_w0.keeps k7
  replace r_t4 := r_t4.keeps k7
  replace r_g0 := r_g0.keeps k7
  have K7 := K6.trans k7
  replace baT := cellsAt_keeps k7 baT
  replace bw0 := cellsAt_keeps k7 bw0
  replace bx0 := cellsAt_keeps k7 bx0
  clear k7 hM7
  try simp (disch := omega) [wrap_in, dec_neg, str_same, baT, cellsAt_app baT, bw0, cellsAt_app bw0, bx0, cellsAt_app bx0, bg0, cellsAt_app bg0, o1, o2_w0, o4, o6_g0]
  first | (refine awDraw_D 3 [[],[],[1],[0,2,1],[3,0,2,1]] (by kernel_rfl) (by decide +kernel) ?_; try simp (disch := omega) [wrap_in, dec_neg, str_same, baT, cellsAt_app baT, bw0, cellsAt_app bw0, bx0, cellsAt_app bx0, bg0, cellsAt_app bg0, o1, o2_w0, o4, o6_g0]) | skip
  refine awCall_det' (eq_Track r_g0 r_w0.rd) (by omega) ?_
  try simp (disch := omega) [wrap_in, dec_neg, str_same, baT, cellsAt_app baT, bw0, cellsAt_app bw0, bx0, cellsAt_app bx0, bg0, cellsAt_app bg0, o1, o2_w0, o4, o6_g0]
  first | (refine awDraw_D 3 [[],[],[1],[0,2,1],[3,0,2,1]] (by kernel_rfl) (by decide +kernel) ?_; try simp (disch := omega) [wrap_in, dec_neg, str_same, baT, cellsAt_app baT, bw0, cellsAt_app bw0, bx0, cellsAt_app bx0, bg0, cellsAt_app bg0, o1, o2_w0, o4, o6_g0]) | skip
  obtain ⟨u_t8, N8, d8, r_t8⟩ := to_Track_d raT eaT
  have o8 := r_t8.one
  first | (refine awCall_det' (d := true) d8 (by omega) ?_; refine ⟨N8, by rw [hM7, List.append_assoc], ?_⟩; have e8 : M3 ++ (N7 ++ N8) = M7 ++ N8 := (by rw [hM7, List.append_assoc]); obtain ⟨M8, hM8, k8⟩ : ∃ M' : Mem, M' = M7 ++ N8 ∧ Keeps M7 M' := ⟨_, rfl, keeps_app _⟩; rw [← hM8] at r_t8; rw [e8, ← hM8]) | (refine awCall_det' (d := true) d8 (by omega) ?_; simp (disch := omega) [wrap_in, dec_neg, str_same, baT, cellsAt_app baT, bw0, cellsAt_app bw0, bx0, cellsAt_app bx0, bg0, cellsAt_app bg0, o1, o2_w0, o4, o6_g0, o8]; obtain ⟨M8, hM8, k8⟩ : ∃ M' : Mem, M' = M7 ++ N8 ∧ Keeps M7 M' := ⟨_, rfl, keeps_app _⟩; rw [← hM8] at r_t8; rw [← hM8]) | (refine awCall_det' (d := false) d8 (by omega) ?_; obtain ⟨M8, hM8, k8⟩ : ∃ M' : Mem, M' = M7 ++ N8 ∧ Keeps M7 M' := ⟨_, rfl, keeps_app _⟩; rw [← hM8] at r_t8; rw [← hM8]; skip)
  have n8 := k8.len
  have q8 : M8.length = M7.length + N8.length := by rw [hM8, List.length_append]
  replace raT := raT.keeps k8
  replace r_t1 := r_t1.keeps k8
  replace r_w0 := r_w0.keeps k8
  replace r_t4 := r_t4.keeps k8
  replace r_g0 := r_g0.keeps k8
  have K8 := K7.trans k8
  replace baT := cellsAt_keeps k8 baT
  replace bw0 := cellsAt_keeps k8 bw0
  replace bx0 := cellsAt_keeps k8 bx0
  replace bg0 := cellsAt_keeps k8 bg0
  clear k8 d8
  try simp (disch := omega) [wrap_in, dec_neg, str_same, baT, cellsAt_app baT, bw0, cellsAt_app bw0, bx0, cellsAt_app bx0, bg0, cellsAt_app bg0, o1, o2_w0, o4, o6_g0, o8]
  first | (refine awDraw_D 3 [[],[],[1],[0,2,1],[3,0,2,1]] (by kernel_rfl) (by decide +kernel) ?_; try simp (disch := omega) [wrap_in, dec_neg, str_same, baT, cellsAt_app baT, bw0, cellsAt_app bw0, bx0, cellsAt_app bx0, bg0, cellsAt_app bg0, o1, o2_w0, o4, o6_g0, o8]) | skip
  refine awCall_det' (eq_Track r_t4 r_t8.rd) (by omega) ?_
  try simp (disch := omega) [wrap_in, dec_neg, str_same, baT, cellsAt_app baT, bw0, cellsAt_app bw0, bx0, cellsAt_app bx0, bg0, cellsAt_app bg0, o1, o2_w0, o4, o6_g0, o8]
  first | (refine awDraw_D 3 [[],[],[1],[0,2,1],[3,0,2,1]] (by kernel_rfl) (by decide +kernel) ?_; try simp (disch := omega) [wrap_in, dec_neg, str_same, baT, cellsAt_app baT, bw0, cellsAt_app bw0, bx0, cellsAt_app bx0, bg0, cellsAt_app bg0, o1, o2_w0, o4, o6_g0, o8]) | skip
  refine awCall_ctr ((mark_Track (b := M.length) r_t4 (by omega) (by omega) (by omega)).weaken (Nat.le_refl _)) ?_
  rintro _ M9 ⟨rfl, m_x0, k9⟩
  have n9 := k9.1
  replace raT := raT.turn k9 (by omega)
  replace r_t1 := r_t1.turn k9 (by omega)
  replace r_w0 := r_w0.turn k9 (by omega)
  replace r_g0 := r_g0.turn k9 (by omega)
  replace r_t8 := r_t8.turn k9 (by omega)
  replace baT := cellsAt_turn2 k9 (by omega) baT
  replace bw0 := cellsAt_turn2 k9 (by omega) bw0
  replace bx0 := cellsAt_turn2 k9 (by omega) bx0
  replace bg0 := cellsAt_turn2 k9 (by omega) bg0
  have K9 := k9.keeps K8 (by omega)
  clear k9
  try simp (disch := omega) [wrap_in, dec_neg, str_same, baT, cellsAt_app baT, bw0, cellsAt_app bw0, bx0, cellsAt_app bx0, bg0, cellsAt_app bg0, o1, o2_w0, o4, o6_g0, o8]
  first | (refine awDraw_D 3 [[],[],[1],[0,2,1],[3,0,2,1]] (by kernel_rfl) (by decide +kernel) ?_; try simp (disch := omega) [wrap_in, dec_neg, str_same, baT, cellsAt_app baT, bw0, cellsAt_app bw0, bx0, cellsAt_app bx0, bg0, cellsAt_app bg0, o1, o2_w0, o4, o6_g0, o8]) | skip
  refine awCall_det' (eq_Track r_g0 r_w0.rd) (by omega) ?_
  try simp (disch := omega) [wrap_in, dec_neg, str_same, baT, cellsAt_app baT, bw0, cellsAt_app bw0, bx0, cellsAt_app bx0, bg0, cellsAt_app bg0, o1, o2_w0, o4, o6_g0, o8]
  first | (refine awDraw_D 3 [[],[],[1],[0,2,1],[3,0,2,1]] (by kernel_rfl) (by decide +kernel) ?_; try simp (disch := omega) [wrap_in, dec_neg, str_same, baT, cellsAt_app baT, bw0, cellsAt_app bw0, bx0, cellsAt_app bx0, bg0, cellsAt_app bg0, o1, o2_w0, o4, o6_g0, o8]) | skip
  refine awCall_ctr ((mark_Track (b := M.length) r_g0 (by omega) (by omega) (by omega)).weaken (Nat.le_refl _)) ?_
  rintro _ M10 ⟨rfl, m_g0, k10⟩
  have n10 := k10.1
  replace raT := raT.turn k10 (by omega)
  replace r_t1 := r_t1.turn k10 (by omega)
  replace r_w0 := r_w0.turn k10 (by omega)
  replace m_x0 := m_x0.turn k10 (by omega)
  replace r_t8 := r_t8.turn k10 (by omega)
  replace baT := cellsAt_turn2 k10 (by omega) baT
  replace bw0 := cellsAt_turn2 k10 (by omega) bw0
  replace bx0 := cellsAt_turn2 k10 (by omega) bx0
  replace bg0 := cellsAt_turn2 k10 (by omega) bg0
  have K10 := k10.keeps K9 (by omega)
  clear k10
  try simp (disch := omega) [wrap_in, dec_neg, str_same, baT, cellsAt_app baT, bw0, cellsAt_app bw0, bx0, cellsAt_app bx0, bg0, cellsAt_app bg0, o1, o2_w0, o4, o6_g0, o8]
  first | (refine awDraw_D 3 [[],[],[1],[0,2,1],[3,0,2,1]] (by kernel_rfl) (by decide +kernel) ?_; try simp (disch := omega) [wrap_in, dec_neg, str_same, baT, cellsAt_app baT, bw0, cellsAt_app bw0, bx0, cellsAt_app bx0, bg0, cellsAt_app bg0, o1, o2_w0, o4, o6_g0, o8]) | skip
  refine awCall_det' (held_Track m_g0 (by omega) (by omega)) (by omega) ?_
  try simp (disch := omega) [wrap_in, dec_neg, str_same, baT, cellsAt_app baT, bw0, cellsAt_app bw0, bx0, cellsAt_app bx0, bg0, cellsAt_app bg0, o1, o2_w0, o4, o6_g0, o8]
  first | (refine awDraw_D 3 [[],[],[1],[0,2,1],[3,0,2,1]] (by kernel_rfl) (by decide +kernel) ?_; try simp (disch := omega) [wrap_in, dec_neg, str_same, baT, cellsAt_app baT, bw0, cellsAt_app bw0, bx0, cellsAt_app bx0, bg0, cellsAt_app bg0, o1, o2_w0, o4, o6_g0, o8]) | skip
  obtain ⟨u_t11, N11, d11, r_t11, s_t11⟩ := to_Track_e raT eaT
  have o11 := r_t11.one
  first | (refine awCall_det' (d := true) d11 (by omega) ?_; refine ⟨N11, by rw [hM10, List.append_assoc], ?_⟩; have e11 : M7 ++ (N10 ++ N11) = M10 ++ N11 := (by rw [hM10, List.append_assoc]); obtain ⟨M11, hM11, k11⟩ : ∃ M' : Mem, M' = M10 ++ N11 ∧ Keeps M10 M' := ⟨_, rfl, keeps_app _⟩; rw [← hM11] at r_t11 s_t11; rw [e11, ← hM11]) | (refine awCall_det' (d := true) d11 (by omega) ?_; simp (disch := omega) [wrap_in, dec_neg, str_same, baT, cellsAt_app baT, bw0, cellsAt_app bw0, bx0, cellsAt_app bx0, bg0, cellsAt_app bg0, o1, o2_w0, o4, o6_g0, o8, o11]; obtain ⟨M11, hM11, k11⟩ : ∃ M' : Mem, M' = M10 ++ N11 ∧ Keeps M10 M' := ⟨_, rfl, keeps_app _⟩; rw [← hM11] at r_t11 s_t11; rw [← hM11]) | (refine awCall_det' (d := false) d11 (by omega) ?_; obtain ⟨M11, hM11, k11⟩ : ∃ M' : Mem, M' = M10 ++ N11 ∧ Keeps M10 M' := ⟨_, rfl, keeps_app _⟩; rw [← hM11] at r_t11 s_t11; rw [← hM11]; skip)
  have n11 := k11.len
  have q11 : M11.length = M10.length + N11.length := by rw [hM11, List.length_append]
  replace raT := raT.keeps k11
  replace r_t1 := r_t1.keeps k11
  replace r_w0 := r_w0.keeps k11
  replace m_x0 := m_x0.keeps k11
  replace m_g0 := m_g0.keeps k11
  replace r_t8 := r_t8.keeps k11
  have K11 := K10.trans k11
  replace baT := cellsAt_keeps k11 baT
  replace bw0 := cellsAt_keeps k11 bw0
  replace bx0 := cellsAt_keeps k11 bx0
  replace bg0 := cellsAt_keeps k11 bg0
  clear k11 d11
  try simp (disch := omega) [wrap_in, dec_neg, str_same, baT, cellsAt_app baT, bw0, cellsAt_app bw0, bx0, cellsAt_app bx0, bg0, cellsAt_app bg0, o1, o2_w0, o4, o6_g0, o8, o11]
  first | (refine awDraw_D 3 [[],[],[1],[0,2,1],[3,0,2,1]] (by kernel_rfl) (by decide +kernel) ?_; try simp (disch := omega) [wrap_in, dec_neg, str_same, baT, cellsAt_app baT, bw0, cellsAt_app bw0, bx0, cellsAt_app bx0, bg0, cellsAt_app bg0, o1, o2_w0, o4, o6_g0, o8, o11]) | skip
  refine awCall_ctr ((SplitClip_il s_t11 aK aAt eaT waAt).weaken (by omega)) ?_
  rintro _ M12 ⟨v_h0, rfl, r_h0, k12⟩
  have n12 := k12.len
  replace raT := raT.keeps k12
  replace r_t1 := r_t1.keeps k12
  replace r_w0 := r_w0.keeps k12
  replace m_x0 := m_x0.keeps k12
  replace m_g0 := m_g0.keeps k12
  replace r_t8 := r_t8.keeps k12
  replace r_t11 := r_t11.keeps k12
  have K12 := K11.trans k12
  replace baT := cellsAt_keeps k12 baT
  replace bw0 := cellsAt_keeps k12 bw0
  replace bx0 := cellsAt_keeps k12 bx0
  replace bg0 := cellsAt_keeps k12 bg0
  clear k12
  have o12_h0 := r_h0.one
  try simp (disch := omega) [wrap_in, dec_neg, str_same, baT, cellsAt_app baT, bw0, cellsAt_app bw0, bx0, cellsAt_app bx0, bg0, cellsAt_app bg0, o1, o2_w0, o4, o6_g0, o8, o11, o12_h0]
  first | (refine awDraw_D 3 [[],[],[1],[0,2,1],[3,0,2,1]] (by kernel_rfl) (by decide +kernel) ?_; try simp (disch := omega) [wrap_in, dec_neg, str_same, baT, cellsAt_app baT, bw0, cellsAt_app bw0, bx0, cellsAt_app bx0, bg0, cellsAt_app bg0, o1, o2_w0, o4, o6_g0, o8, o11, o12_h0]) | skip
  obtain ⟨M13, hM13⟩ : ∃ M' : Mem, M' = M12 ++ [.live ⟨[v_h0], true, true, 30, 1⟩] := ⟨_, rfl⟩
  have bh0 : cellsAt M13 M12.length 0 1 = some [v_h0] := by rw [hM13]; simp
  have k13 : Keeps M12 M13 := by rw [hM13]; exact keeps_app _
  have n13 : M13.length = M12.length + 1 := by rw [hM13]; simp
  rw [← hM13]
  replace raT := raT.keeps k13
  replace r_t1 := r_t1.keeps k13
  replace r_w0 := r_w0.keeps k13
  replace m_x0 := m_x0.keeps k13
  replace m_g0 := m_g0.keeps k13
  replace r_t8 := r_t8.keeps k13
  replace r_t11 := r_t11.keeps k13
  replace r_h0 := r_h0.keeps k13
  have K13 := K12.trans k13
  replace baT := cellsAt_keeps k13 baT
  replace bw0 := cellsAt_keeps k13 bw0
  replace bx0 := cellsAt_keeps k13 bx0
  replace bg0 := cellsAt_keeps k13 bg0
  clear k13 hM13
  try simp (disch := omega) [wrap_in, dec_neg, str_same, baT, cellsAt_app baT, bw0, cellsAt_app bw0, bx0, cellsAt_app bx0, bg0, cellsAt_app bg0, bh0, cellsAt_app bh0, o1, o2_w0, o4, o6_g0, o8, o11, o12_h0]
  first | (refine awDraw_D 3 [[],[],[1],[0,2,1],[3,0,2,1]] (by kernel_rfl) (by decide +kernel) ?_; try simp (disch := omega) [wrap_in, dec_neg, str_same, baT, cellsAt_app baT, bw0, cellsAt_app bw0, bx0, cellsAt_app bx0, bg0, cellsAt_app bg0, bh0, cellsAt_app bh0, o1, o2_w0, o4, o6_g0, o8, o11, o12_h0]) | skip
  refine awCall_det' (eq_Track r_h0 r_w0.rd) (by omega) ?_
  try simp (disch := omega) [wrap_in, dec_neg, str_same, baT, cellsAt_app baT, bw0, cellsAt_app bw0, bx0, cellsAt_app bx0, bg0, cellsAt_app bg0, bh0, cellsAt_app bh0, o1, o2_w0, o4, o6_g0, o8, o11, o12_h0]
  first | (refine awDraw_D 3 [[],[],[1],[0,2,1],[3,0,2,1]] (by kernel_rfl) (by decide +kernel) ?_; try simp (disch := omega) [wrap_in, dec_neg, str_same, baT, cellsAt_app baT, bw0, cellsAt_app bw0, bx0, cellsAt_app bx0, bg0, cellsAt_app bg0, bh0, cellsAt_app bh0, o1, o2_w0, o4, o6_g0, o8, o11, o12_h0]) | skip
  refine awCall_det' (held_Track m_g0 (by omega) (by omega)) (by omega) ?_
  try simp (disch := omega) [wrap_in, dec_neg, str_same, baT, cellsAt_app baT, bw0, cellsAt_app bw0, bx0, cellsAt_app bx0, bg0, cellsAt_app bg0, bh0, cellsAt_app bh0, o1, o2_w0, o4, o6_g0, o8, o11, o12_h0]
  first | (refine awDraw_D 3 [[],[],[1],[0,2,1],[3,0,2,1]] (by kernel_rfl) (by decide +kernel) ?_; try simp (disch := omega) [wrap_in, dec_neg, str_same, baT, cellsAt_app baT, bw0, cellsAt_app bw0, bx0, cellsAt_app bx0, bg0, cellsAt_app bg0, bh0, cellsAt_app bh0, o1, o2_w0, o4, o6_g0, o8, o11, o12_h0]) | skip
  try simp [K13]
set_option maxRecDepth 100000 in
theorem FnExactSplitClip_lifted (os : Os) (started : os.Started) (H : Type) (enc : TypeId × Value → H) :
    ReturnsInHanded {} Try.checked os 4 .any (Rows.fnExactSplitClipSpec.pre6 enc Try.prog Try.f4 Rows.fnExactSplitClipRow.domain false) (Rows.fnExactSplitClipSpec.post enc Try.prog Try.f4 false true false false) := by
  refine returnsInHanded_of_change (C := Try.checked) own_knob started (by kernel_rfl) Try.func4
    (ChangeSpec.witness6 (enc := enc) (C := Try.checked) false ⟨#[], #[.agg #[.slice none 0 0], .int .i64 0, .int .i64 0], []⟩ 8 (by kernel_rfl) (by kernel_rfl) (by kernel_rfl) (by kernel_rfl)) ?_
  intro W base args ds gs before hval0 hW hcnd _
  have hval : ∀ (j : Nat) t v, Try.f4.params[j]? = some t → args[j]? = some v → Value.okWide Try.prog W .any base t v := hval0
  have hW' := hW
  have hlt := hW.lt
  obtain ⟨p, q, hA0, hV, rfl, hfz, hnd⟩ := hW
  have hA : DataW.TrodAll enc Try.prog W 0 (fun _ => true) true Try.f4.params.toList args.toList ds p := hA0
  rw [Try.params4] at hA hval
  obtain ⟨v0, v1, v2, d0, d1, d2, p0, p1, p2, rfl, rfl, rfl, h0, h1, h2⟩ := trodAll_three hA
  have ar0 := Arg.wrap clipI Try.underlying24 ⟨rfl, rfl⟩ (by kernel_rfl) (by kernel_rfl) Try.underlying22 (by kernel_rfl) (show Try.prog.cellsOf 26 = 5 from by kernel_rfl) (by omega) hlt (hval 0 _ v0 rfl rfl) h0 (fun x hx => by simp [hx])
  obtain ⟨a1, rfl, rfl, rfl, wa1⟩ := open_int Try.underlying2 (hval 1 2 v1 rfl rfl) h1
  obtain ⟨a2, rfl, rfl, rfl, wa2⟩ := open_int Try.underlying2 (hval 2 2 v2 rfl rfl) h2
  have R := AR.nil W
  obtain ⟨L0, μ0, _, R0, u0, rfl, B0, n0, c0, l0, rfl, hn0, hs0, hw0⟩ := R.next ar0
  have K0 := RdL.of_sl hn0 hs0 c0
  obtain ⟨L1, μ1, u1, R1, rfl⟩ := R0.next (Arg.plain (c := iv a1) rfl)
  replace K0 := K0.up L1
  obtain ⟨L2, μ2, u2, R2, rfl⟩ := R1.next (Arg.plain (c := iv a2) rfl)
  replace K0 := K0.up L2
  refine (law_end R2 (lawSplitClip_a a1 a2 K0 hw0 wa1 wa2) ).mono fun e W' ⟨he, hb⟩ => ?_
  subst he
  exact ⟨_, rfl, law_post rfl rfl (by kernel_rfl) rfl hW' hb⟩
theorem FnExactSplitClip_holds : Rows.FnExactSplitClipSaid :=
  OpenClaim.holds_of_wide 4 Try.f4 rfl rfl rfl rfl rfl rfl rfl ⟨rfl, rfl, rfl, rfl, rfl⟩ rfl rfl rfl rfl rfl (by kernel_rfl) Try.func4 (by kernel_rfl)
    (of_decide_eq_true (by kernel_rfl)) (by unfold Func.isWrapper; first | (rw [if_pos (by decide +kernel)]; kernel_rfl) | (rw [if_neg (by decide +kernel)]; exact ⟨rfl, rfl⟩))
    (fun os started H enc _ => FnExactSplitClip_lifted os started H enc)
#print axioms FnExactSplitClip_holds
end Go.Proofs.Ytimijeeihicohaa
