/- For every input: the program's GatesOfScore returns what the reference's returns, leaves its arguments alone, and hands back memory of its own. No conditions. -/
import Derived.Test.YtgaiejaegimilaaQ14
namespace Go.Proofs.Ytgaiejaegimilaa
open Go.ChangeShapes Go.WideShapes Go.ChangeAt Go.RowKit
open Go.RowKit
set_option linter.unusedVariables false
set_option linter.unusedSimpArgs false
set_option maxRecDepth 100000
attribute [local simp] List.getElem?_cons_zero
attribute [local irreducible] awCond awCall awLoop awDraw ow retQ retC resQ Keeps

set_option maxHeartbeats 4000000 in
theorem lawGatesOfScore_a {M : Mem} {vaS : Value} {xaS : List Note} {vaT : Value} {xaT : List Tempo} (raS : RdL noteR 0 M.length M vaS xaS) (waS : ∀ a ∈ xaS, ∃ ys : List Int, a = noteI.of ys ∧ ys.length = 7 ∧ ∀ z ∈ ys, (Lit.int .i64 z).wf = true) (raT : RdL tempoR 0 M.length M vaT xaT) (waT : ∀ a ∈ xaT, ∃ ys : List Int, a = tempoI.of ys ∧ ys.length = 3 ∧ ∀ z ∈ ys, (Lit.int .i64 z).wf = true) : Det Try.prog M.length 4 [.agg #[vaS], .agg #[vaT]] M (.bool true) M := by
  have K0 := Keeps.refl M
  by_cases gaS : (1048576 : Int) < xaS.length
  · first | (refine det_fn Try.func4 rfl Try.ntmps4 Try.results4 rfl rfl rfl (by simp) ?_) | (refine det_fnC Try.func4 rfl Try.ntmps4 Try.results4 rfl rfl (by simp) ?_)
    simp
    have kb := keeps_app (M := M) [.live ⟨[vaS], true, true, 24, 1⟩, .live ⟨[vaT], true, true, 36, 1⟩]
    have nb := kb.len
    obtain ⟨M0, hM0⟩ : ∃ M0 : Mem, M0 = M ++ [.live ⟨[vaS], true, true, 24, 1⟩, .live ⟨[vaT], true, true, 36, 1⟩] := ⟨_, rfl⟩
    have qb : M0.length = M.length + 2 := by rw [hM0]; simp
    have baS : cellsAt M0 M.length 0 1 = some [vaS] := by rw [hM0]; simp
    have baT : cellsAt M0 (M.length + 1) 0 1 = some [vaT] := by rw [hM0]; simp
    rw [← hM0] at kb nb
    rw [← hM0]
    clear hM0
    replace raS := raS.keeps kb
    replace raT := raT.keeps kb
    replace K0 := kb
    refine awCall_det' (sz_Score_over raS (z := 1048576) (by omega) (by omega) (by omega)) (by omega) ?_
    simp [K0]
  have eaS : xaS.length ≤ 1048576 := by omega
  by_cases gaT : (1048576 - xaS.length : Int) < xaT.length
  · first | (refine det_fn Try.func4 rfl Try.ntmps4 Try.results4 rfl rfl rfl (by simp) ?_) | (refine det_fnC Try.func4 rfl Try.ntmps4 Try.results4 rfl rfl (by simp) ?_)
    simp
    have kb := keeps_app (M := M) [.live ⟨[vaS], true, true, 24, 1⟩, .live ⟨[vaT], true, true, 36, 1⟩]
    have nb := kb.len
    obtain ⟨M0, hM0⟩ : ∃ M0 : Mem, M0 = M ++ [.live ⟨[vaS], true, true, 24, 1⟩, .live ⟨[vaT], true, true, 36, 1⟩] := ⟨_, rfl⟩
    have qb : M0.length = M.length + 2 := by rw [hM0]; simp
    have baS : cellsAt M0 M.length 0 1 = some [vaS] := by rw [hM0]; simp
    have baT : cellsAt M0 (M.length + 1) 0 1 = some [vaT] := by rw [hM0]; simp
    rw [← hM0] at kb nb
    rw [← hM0]
    clear hM0
    replace raS := raS.keeps kb
    replace raT := raT.keeps kb
    replace K0 := kb
    refine awCall_det' (sz_Score raS (z := 1048576) (by omega) (by omega) (by omega)) (by omega) ?_
    try simp (disch := omega) [wrap_in, dec_neg, str_same, baS, cellsAt_app baS, baT, cellsAt_app baT]
    first | (refine awDraw_M 3 [[],[0],[],[2,1,0],[1,0,3,2],[4,1,0,3,2],[5,4,1,0,3,2],[5,4,1,0,3,2],[6,5,4,1,0,3,2],[7,5,4,1,0,3,2,8,6]] [6,7] (by kernel_rfl) (by decide +kernel) (by decide +kernel) ?_; try simp (disch := omega) [wrap_in, dec_neg, str_same, baS, cellsAt_app baS, baT, cellsAt_app baT]) | (refine awDraw_D 3 [[],[],[1],[0,2,1],[3,0,2,1]] (by kernel_rfl) (by decide +kernel) ?_; try simp (disch := omega) [wrap_in, dec_neg, str_same, baS, cellsAt_app baS, baT, cellsAt_app baT]) | (refine awDraw_D 3 [[],[],[1],[0,2,1],[3,0,2,1]] (by kernel_rfl) (by decide +kernel) ?_; try simp (disch := omega) [wrap_in, dec_neg, str_same, baS, cellsAt_app baS, baT, cellsAt_app baT]) | (refine awDraw_M 3 [[],[0],[],[2,1,0],[1,0,3,2],[4,1,0,3,2],[5,4,1,0,3,2],[5,4,1,0,3,2],[6,5,4,1,0,3,2],[7,5,4,1,0,3,2,8,6]] [6,7] (by kernel_rfl) (by decide +kernel) (by decide +kernel) ?_; try simp (disch := omega) [wrap_in, dec_neg, str_same, baS, cellsAt_app baS, baT, cellsAt_app baT]) | skip
    refine awCall_det' (sz_TempoMap_over raT (z := 1048576 - xaS.length) (by omega) (by omega) (by omega)) (by omega) ?_
    simp [K0]
  have eaT : xaT.length ≤ 1048576 := by omega
  first | (refine det_fn Try.func4 rfl Try.ntmps4 Try.results4 rfl rfl rfl (by simp) ?_) | (refine det_fnC Try.func4 rfl Try.ntmps4 Try.results4 rfl rfl (by simp) ?_)
  simp
  have kb := keeps_app (M := M) [.live ⟨[vaS], true, true, 24, 1⟩, .live ⟨[vaT], true, true, 36, 1⟩]
  have nb := kb.len
  obtain ⟨M0, hM0⟩ : ∃ M0 : Mem, M0 = M ++ [.live ⟨[vaS], true, true, 24, 1⟩, .live ⟨[vaT], true, true, 36, 1⟩] := ⟨_, rfl⟩
  have qb : M0.length = M.length + 2 := by rw [hM0]; simp
  have baS : cellsAt M0 M.length 0 1 = some [vaS] := by rw [hM0]; simp
  have baT : cellsAt M0 (M.length + 1) 0 1 = some [vaT] := by rw [hM0]; simp
  rw [← hM0] at kb nb
  rw [← hM0]
  clear hM0
  replace raS := raS.keeps kb
  replace raT := raT.keeps kb
  replace K0 := kb
  refine awCall_det' (sz_Score raS (z := 1048576) (by omega) (by omega) (by omega)) (by omega) ?_
  try simp (disch := omega) [wrap_in, dec_neg, str_same, baS, cellsAt_app baS, baT, cellsAt_app baT]
  first | (refine awDraw_M 3 [[],[0],[],[2,1,0],[1,0,3,2],[4,1,0,3,2],[5,4,1,0,3,2],[5,4,1,0,3,2],[6,5,4,1,0,3,2],[7,5,4,1,0,3,2,8,6]] [6,7] (by kernel_rfl) (by decide +kernel) (by decide +kernel) ?_; try simp (disch := omega) [wrap_in, dec_neg, str_same, baS, cellsAt_app baS, baT, cellsAt_app baT]) | (refine awDraw_D 3 [[],[],[1],[0,2,1],[3,0,2,1]] (by kernel_rfl) (by decide +kernel) ?_; try simp (disch := omega) [wrap_in, dec_neg, str_same, baS, cellsAt_app baS, baT, cellsAt_app baT]) | (refine awDraw_D 3 [[],[],[1],[0,2,1],[3,0,2,1]] (by kernel_rfl) (by decide +kernel) ?_; try simp (disch := omega) [wrap_in, dec_neg, str_same, baS, cellsAt_app baS, baT, cellsAt_app baT]) | (refine awDraw_M 3 [[],[0],[],[2,1,0],[1,0,3,2],[4,1,0,3,2],[5,4,1,0,3,2],[5,4,1,0,3,2],[6,5,4,1,0,3,2],[7,5,4,1,0,3,2,8,6]] [6,7] (by kernel_rfl) (by decide +kernel) (by decide +kernel) ?_; try simp (disch := omega) [wrap_in, dec_neg, str_same, baS, cellsAt_app baS, baT, cellsAt_app baT]) | skip
  refine awCall_det' (sz_TempoMap raT (z := 1048576 - xaS.length) (by omega) (by omega) (by omega)) (by omega) ?_
  try simp (disch := omega) [wrap_in, dec_neg, str_same, baS, cellsAt_app baS, baT, cellsAt_app baT]
  first | (refine awDraw_M 3 [[],[0],[],[2,1,0],[1,0,3,2],[4,1,0,3,2],[5,4,1,0,3,2],[5,4,1,0,3,2],[6,5,4,1,0,3,2],[7,5,4,1,0,3,2,8,6]] [6,7] (by kernel_rfl) (by decide +kernel) (by decide +kernel) ?_; try simp (disch := omega) [wrap_in, dec_neg, str_same, baS, cellsAt_app baS, baT, cellsAt_app baT]) | (refine awDraw_D 3 [[],[],[1],[0,2,1],[3,0,2,1]] (by kernel_rfl) (by decide +kernel) ?_; try simp (disch := omega) [wrap_in, dec_neg, str_same, baS, cellsAt_app baS, baT, cellsAt_app baT]) | (refine awDraw_D 3 [[],[],[1],[0,2,1],[3,0,2,1]] (by kernel_rfl) (by decide +kernel) ?_; try simp (disch := omega) [wrap_in, dec_neg, str_same, baS, cellsAt_app baS, baT, cellsAt_app baT]) | (refine awDraw_M 3 [[],[0],[],[2,1,0],[1,0,3,2],[4,1,0,3,2],[5,4,1,0,3,2],[5,4,1,0,3,2],[6,5,4,1,0,3,2],[7,5,4,1,0,3,2,8,6]] [6,7] (by kernel_rfl) (by decide +kernel) (by decide +kernel) ?_; try simp (disch := omega) [wrap_in, dec_neg, str_same, baS, cellsAt_app baS, baT, cellsAt_app baT]) | skip
  obtain ⟨u_t1, N1, d1, r_t1⟩ := to_Score_d raS eaS
  have o1 := r_t1.one
  first | (refine awCall_det' (d := true) d1 (by omega) ?_; simp (disch := omega) [wrap_in, dec_neg, str_same, baS, cellsAt_app baS, baT, cellsAt_app baT, o1]; obtain ⟨M1, hM1, k1⟩ : ∃ M' : Mem, M' = M0 ++ N1 ∧ Keeps M0 M' := ⟨_, rfl, keeps_app _⟩; rw [← hM1] at r_t1; rw [← hM1]) | (refine awCall_det' (d := false) d1 (by omega) ?_; obtain ⟨M1, hM1, k1⟩ : ∃ M' : Mem, M' = M0 ++ N1 ∧ Keeps M0 M' := ⟨_, rfl, keeps_app _⟩; rw [← hM1] at r_t1; rw [← hM1]; skip)
  have n1 := k1.len
  have q1 : M1.length = M0.length + N1.length := by rw [hM1, List.length_append]
  replace raS := raS.keeps k1
  replace raT := raT.keeps k1
  have K1 := K0.trans k1
  replace baS := cellsAt_keeps k1 baS
  replace baT := cellsAt_keeps k1 baT
  clear k1 d1
  try simp (disch := omega) [wrap_in, dec_neg, str_same, baS, cellsAt_app baS, baT, cellsAt_app baT, o1]
  first | (refine awDraw_M 3 [[],[0],[],[2,1,0],[1,0,3,2],[4,1,0,3,2],[5,4,1,0,3,2],[5,4,1,0,3,2],[6,5,4,1,0,3,2],[7,5,4,1,0,3,2,8,6]] [6,7] (by kernel_rfl) (by decide +kernel) (by decide +kernel) ?_; try simp (disch := omega) [wrap_in, dec_neg, str_same, baS, cellsAt_app baS, baT, cellsAt_app baT, o1]) | (refine awDraw_D 3 [[],[],[1],[0,2,1],[3,0,2,1]] (by kernel_rfl) (by decide +kernel) ?_; try simp (disch := omega) [wrap_in, dec_neg, str_same, baS, cellsAt_app baS, baT, cellsAt_app baT, o1]) | (refine awDraw_D 3 [[],[],[1],[0,2,1],[3,0,2,1]] (by kernel_rfl) (by decide +kernel) ?_; try simp (disch := omega) [wrap_in, dec_neg, str_same, baS, cellsAt_app baS, baT, cellsAt_app baT, o1]) | (refine awDraw_M 3 [[],[0],[],[2,1,0],[1,0,3,2],[4,1,0,3,2],[5,4,1,0,3,2],[5,4,1,0,3,2],[6,5,4,1,0,3,2],[7,5,4,1,0,3,2,8,6]] [6,7] (by kernel_rfl) (by decide +kernel) (by decide +kernel) ?_; try simp (disch := omega) [wrap_in, dec_neg, str_same, baS, cellsAt_app baS, baT, cellsAt_app baT, o1]) | skip
  obtain ⟨u_t2, N2, d2, r_t2⟩ := to_TempoMap_d raT eaT
  have o2 := r_t2.one
  first | (refine awCall_det' (d := true) d2 (by omega) ?_; refine ⟨N2, by rw [hM1, List.append_assoc], ?_⟩; have e2 : M0 ++ (N1 ++ N2) = M1 ++ N2 := (by rw [hM1, List.append_assoc]); obtain ⟨M2, hM2, k2⟩ : ∃ M' : Mem, M' = M1 ++ N2 ∧ Keeps M1 M' := ⟨_, rfl, keeps_app _⟩; rw [← hM2] at r_t2; rw [e2, ← hM2]) | (refine awCall_det' (d := true) d2 (by omega) ?_; simp (disch := omega) [wrap_in, dec_neg, str_same, baS, cellsAt_app baS, baT, cellsAt_app baT, o1, o2]; obtain ⟨M2, hM2, k2⟩ : ∃ M' : Mem, M' = M1 ++ N2 ∧ Keeps M1 M' := ⟨_, rfl, keeps_app _⟩; rw [← hM2] at r_t2; rw [← hM2]) | (refine awCall_det' (d := false) d2 (by omega) ?_; obtain ⟨M2, hM2, k2⟩ : ∃ M' : Mem, M' = M1 ++ N2 ∧ Keeps M1 M' := ⟨_, rfl, keeps_app _⟩; rw [← hM2] at r_t2; rw [← hM2]; skip)
  have n2 := k2.len
  have q2 : M2.length = M1.length + N2.length := by rw [hM2, List.length_append]
  replace raS := raS.keeps k2
  replace raT := raT.keeps k2
  replace r_t1 := r_t1.keeps k2
  have K2 := K1.trans k2
  replace baS := cellsAt_keeps k2 baS
  replace baT := cellsAt_keeps k2 baT
  clear k2 d2
  try simp (disch := omega) [wrap_in, dec_neg, str_same, baS, cellsAt_app baS, baT, cellsAt_app baT, o1, o2]
  first | (refine awDraw_M 3 [[],[0],[],[2,1,0],[1,0,3,2],[4,1,0,3,2],[5,4,1,0,3,2],[5,4,1,0,3,2],[6,5,4,1,0,3,2],[7,5,4,1,0,3,2,8,6]] [6,7] (by kernel_rfl) (by decide +kernel) (by decide +kernel) ?_; try simp (disch := omega) [wrap_in, dec_neg, str_same, baS, cellsAt_app baS, baT, cellsAt_app baT, o1, o2]) | (refine awDraw_D 3 [[],[],[1],[0,2,1],[3,0,2,1]] (by kernel_rfl) (by decide +kernel) ?_; try simp (disch := omega) [wrap_in, dec_neg, str_same, baS, cellsAt_app baS, baT, cellsAt_app baT, o1, o2]) | (refine awDraw_D 3 [[],[],[1],[0,2,1],[3,0,2,1]] (by kernel_rfl) (by decide +kernel) ?_; try simp (disch := omega) [wrap_in, dec_neg, str_same, baS, cellsAt_app baS, baT, cellsAt_app baT, o1, o2]) | (refine awDraw_M 3 [[],[0],[],[2,1,0],[1,0,3,2],[4,1,0,3,2],[5,4,1,0,3,2],[5,4,1,0,3,2],[6,5,4,1,0,3,2],[7,5,4,1,0,3,2,8,6]] [6,7] (by kernel_rfl) (by decide +kernel) (by decide +kernel) ?_; try simp (disch := omega) [wrap_in, dec_neg, str_same, baS, cellsAt_app baS, baT, cellsAt_app baT, o1, o2]) | skip
  refine awCall_ctr ((GatesOfScore_sl r_t1.rd r_t2.rd eaS eaT).weaken (by omega)) ?_
  rintro _ M3 ⟨v_w0, rfl, r_w0, k3⟩
  have n3 := k3.len
  replace raS := raS.keeps k3
  replace raT := raT.keeps k3
  replace r_t1 := r_t1.keeps k3
  replace r_t2 := r_t2.keeps k3
  have K3 := K2.trans k3
  replace baS := cellsAt_keeps k3 baS
  replace baT := cellsAt_keeps k3 baT
  clear k3
  try simp (disch := omega) [wrap_in, dec_neg, str_same, baS, cellsAt_app baS, baT, cellsAt_app baT, o1, o2]
  first | (refine awDraw_M 3 [[],[0],[],[2,1,0],[1,0,3,2],[4,1,0,3,2],[5,4,1,0,3,2],[5,4,1,0,3,2],[6,5,4,1,0,3,2],[7,5,4,1,0,3,2,8,6]] [6,7] (by kernel_rfl) (by decide +kernel) (by decide +kernel) ?_; try simp (disch := omega) [wrap_in, dec_neg, str_same, baS, cellsAt_app baS, baT, cellsAt_app baT, o1, o2]) | (refine awDraw_D 3 [[],[],[1],[0,2,1],[3,0,2,1]] (by kernel_rfl) (by decide +kernel) ?_; try simp (disch := omega) [wrap_in, dec_neg, str_same, baS, cellsAt_app baS, baT, cellsAt_app baT, o1, o2]) | (refine awDraw_D 3 [[],[],[1],[0,2,1],[3,0,2,1]] (by kernel_rfl) (by decide +kernel) ?_; try simp (disch := omega) [wrap_in, dec_neg, str_same, baS, cellsAt_app baS, baT, cellsAt_app baT, o1, o2]) | (refine awDraw_M 3 [[],[0],[],[2,1,0],[1,0,3,2],[4,1,0,3,2],[5,4,1,0,3,2],[5,4,1,0,3,2],[6,5,4,1,0,3,2],[7,5,4,1,0,3,2,8,6]] [6,7] (by kernel_rfl) (by decide +kernel) (by decide +kernel) ?_; try simp (disch := omega) [wrap_in, dec_neg, str_same, baS, cellsAt_app baS, baT, cellsAt_app baT, o1, o2]) | skip
  obtain ⟨u_t4, N4, d4, r_t4⟩ := to_Score_d raS eaS
  have o4 := r_t4.one
  first | (refine awCall_det' (d := true) d4 (by omega) ?_; refine ⟨N4, by rw [hM3, List.append_assoc], ?_⟩; have e4 : M1 ++ (N3 ++ N4) = M3 ++ N4 := (by rw [hM3, List.append_assoc]); obtain ⟨M4, hM4, k4⟩ : ∃ M' : Mem, M' = M3 ++ N4 ∧ Keeps M3 M' := ⟨_, rfl, keeps_app _⟩; rw [← hM4] at r_t4; rw [e4, ← hM4]) | (refine awCall_det' (d := true) d4 (by omega) ?_; simp (disch := omega) [wrap_in, dec_neg, str_same, baS, cellsAt_app baS, baT, cellsAt_app baT, o1, o2, o4]; obtain ⟨M4, hM4, k4⟩ : ∃ M' : Mem, M' = M3 ++ N4 ∧ Keeps M3 M' := ⟨_, rfl, keeps_app _⟩; rw [← hM4] at r_t4; rw [← hM4]) | (refine awCall_det' (d := false) d4 (by omega) ?_; obtain ⟨M4, hM4, k4⟩ : ∃ M' : Mem, M' = M3 ++ N4 ∧ Keeps M3 M' := ⟨_, rfl, keeps_app _⟩; rw [← hM4] at r_t4; rw [← hM4]; skip)
  have n4 := k4.len
  have q4 : M4.length = M3.length + N4.length := by rw [hM4, List.length_append]
  replace raS := raS.keeps k4
  replace raT := raT.keeps k4
  replace r_t1 := r_t1.keeps k4
  replace r_t2 := r_t2.keeps k4
  replace r_w0 := r_w0.keeps k4
  have K4 := K3.trans k4
  replace baS := cellsAt_keeps k4 baS
  replace baT := cellsAt_keeps k4 baT
  clear k4 d4
  try simp (disch := omega) [wrap_in, dec_neg, str_same, baS, cellsAt_app baS, baT, cellsAt_app baT, o1, o2, o4]
  first | (refine awDraw_M 3 [[],[0],[],[2,1,0],[1,0,3,2],[4,1,0,3,2],[5,4,1,0,3,2],[5,4,1,0,3,2],[6,5,4,1,0,3,2],[7,5,4,1,0,3,2,8,6]] [6,7] (by kernel_rfl) (by decide +kernel) (by decide +kernel) ?_; try simp (disch := omega) [wrap_in, dec_neg, str_same, baS, cellsAt_app baS, baT, cellsAt_app baT, o1, o2, o4]) | (refine awDraw_D 3 [[],[],[1],[0,2,1],[3,0,2,1]] (by kernel_rfl) (by decide +kernel) ?_; try simp (disch := omega) [wrap_in, dec_neg, str_same, baS, cellsAt_app baS, baT, cellsAt_app baT, o1, o2, o4]) | (refine awDraw_D 3 [[],[],[1],[0,2,1],[3,0,2,1]] (by kernel_rfl) (by decide +kernel) ?_; try simp (disch := omega) [wrap_in, dec_neg, str_same, baS, cellsAt_app baS, baT, cellsAt_app baT, o1, o2, o4]) | (refine awDraw_M 3 [[],[0],[],[2,1,0],[1,0,3,2],[4,1,0,3,2],[5,4,1,0,3,2],[5,4,1,0,3,2],[6,5,4,1,0,3,2],[7,5,4,1,0,3,2,8,6]] [6,7] (by kernel_rfl) (by decide +kernel) (by decide +kernel) ?_; try simp (disch := omega) [wrap_in, dec_neg, str_same, baS, cellsAt_app baS, baT, cellsAt_app baT, o1, o2, o4]) | skip
  obtain ⟨M5, hM5⟩ : ∃ M' : Mem, M' = M4 ++ [.live ⟨[u_t4], true, true, 30, 1⟩] := ⟨_, rfl⟩
  have bx0 : cellsAt M5 M4.length 0 1 = some [u_t4] := by rw [hM5]; simp
  have k5 : Keeps M4 M5 := by rw [hM5]; exact keeps_app _
  have n5 : M5.length = M4.length + 1 := by rw [hM5]; simp
  rw [← hM5]
  replace raS := raS.keeps k5
  replace raT := raT.keeps k5
  replace r_t1 := r_t1.keeps k5
  replace r_t2 := r_t2.keeps k5
  replace r_w0 := r_w0.keeps k5
  replace r_t4 := r_t4.keeps k5
  have K5 := K4.trans k5
  replace baS := cellsAt_keeps k5 baS
  replace baT := cellsAt_keeps k5 baT
  clear k5 hM5
  try simp (disch := omega) [wrap_in, dec_neg, str_same, baS, cellsAt_app baS, baT, cellsAt_app baT, bx0, cellsAt_app bx0, o1, o2, o4]
  first | (refine awDraw_M 3 [[],[0],[],[2,1,0],[1,0,3,2],[4,1,0,3,2],[5,4,1,0,3,2],[5,4,1,0,3,2],[6,5,4,1,0,3,2],[7,5,4,1,0,3,2,8,6]] [6,7] (by kernel_rfl) (by decide +kernel) (by decide +kernel) ?_; try simp (disch := omega) [wrap_in, dec_neg, str_same, baS, cellsAt_app baS, baT, cellsAt_app baT, bx0, cellsAt_app bx0, o1, o2, o4]) | (refine awDraw_D 3 [[],[],[1],[0,2,1],[3,0,2,1]] (by kernel_rfl) (by decide +kernel) ?_; try simp (disch := omega) [wrap_in, dec_neg, str_same, baS, cellsAt_app baS, baT, cellsAt_app baT, bx0, cellsAt_app bx0, o1, o2, o4]) | (refine awDraw_D 3 [[],[],[1],[0,2,1],[3,0,2,1]] (by kernel_rfl) (by decide +kernel) ?_; try simp (disch := omega) [wrap_in, dec_neg, str_same, baS, cellsAt_app baS, baT, cellsAt_app baT, bx0, cellsAt_app bx0, o1, o2, o4]) | (refine awDraw_M 3 [[],[0],[],[2,1,0],[1,0,3,2],[4,1,0,3,2],[5,4,1,0,3,2],[5,4,1,0,3,2],[6,5,4,1,0,3,2],[7,5,4,1,0,3,2,8,6]] [6,7] (by kernel_rfl) (by decide +kernel) (by decide +kernel) ?_; try simp (disch := omega) [wrap_in, dec_neg, str_same, baS, cellsAt_app baS, baT, cellsAt_app baT, bx0, cellsAt_app bx0, o1, o2, o4]) | skip
  obtain ⟨u_t6, N6, d6, r_t6⟩ := to_TempoMap_d raT eaT
  have o6 := r_t6.one
  first | (refine awCall_det' (d := true) d6 (by omega) ?_; refine ⟨N6, by rw [hM5, List.append_assoc], ?_⟩; have e6 : M3 ++ (N5 ++ N6) = M5 ++ N6 := (by rw [hM5, List.append_assoc]); obtain ⟨M6, hM6, k6⟩ : ∃ M' : Mem, M' = M5 ++ N6 ∧ Keeps M5 M' := ⟨_, rfl, keeps_app _⟩; rw [← hM6] at r_t6; rw [e6, ← hM6]) | (refine awCall_det' (d := true) d6 (by omega) ?_; simp (disch := omega) [wrap_in, dec_neg, str_same, baS, cellsAt_app baS, baT, cellsAt_app baT, bx0, cellsAt_app bx0, o1, o2, o4, o6]; obtain ⟨M6, hM6, k6⟩ : ∃ M' : Mem, M' = M5 ++ N6 ∧ Keeps M5 M' := ⟨_, rfl, keeps_app _⟩; rw [← hM6] at r_t6; rw [← hM6]) | (refine awCall_det' (d := false) d6 (by omega) ?_; obtain ⟨M6, hM6, k6⟩ : ∃ M' : Mem, M' = M5 ++ N6 ∧ Keeps M5 M' := ⟨_, rfl, keeps_app _⟩; rw [← hM6] at r_t6; rw [← hM6]; skip)
  have n6 := k6.len
  have q6 : M6.length = M5.length + N6.length := by rw [hM6, List.length_append]
  replace raS := raS.keeps k6
  replace raT := raT.keeps k6
  replace r_t1 := r_t1.keeps k6
  replace r_t2 := r_t2.keeps k6
  replace r_w0 := r_w0.keeps k6
  replace r_t4 := r_t4.keeps k6
  have K6 := K5.trans k6
  replace baS := cellsAt_keeps k6 baS
  replace baT := cellsAt_keeps k6 baT
  replace bx0 := cellsAt_keeps k6 bx0
  clear k6 d6
  try simp (disch := omega) [wrap_in, dec_neg, str_same, baS, cellsAt_app baS, baT, cellsAt_app baT, bx0, cellsAt_app bx0, o1, o2, o4, o6]
  first | (refine awDraw_M 3 [[],[0],[],[2,1,0],[1,0,3,2],[4,1,0,3,2],[5,4,1,0,3,2],[5,4,1,0,3,2],[6,5,4,1,0,3,2],[7,5,4,1,0,3,2,8,6]] [6,7] (by kernel_rfl) (by decide +kernel) (by decide +kernel) ?_; try simp (disch := omega) [wrap_in, dec_neg, str_same, baS, cellsAt_app baS, baT, cellsAt_app baT, bx0, cellsAt_app bx0, o1, o2, o4, o6]) | (refine awDraw_D 3 [[],[],[1],[0,2,1],[3,0,2,1]] (by kernel_rfl) (by decide +kernel) ?_; try simp (disch := omega) [wrap_in, dec_neg, str_same, baS, cellsAt_app baS, baT, cellsAt_app baT, bx0, cellsAt_app bx0, o1, o2, o4, o6]) | (refine awDraw_D 3 [[],[],[1],[0,2,1],[3,0,2,1]] (by kernel_rfl) (by decide +kernel) ?_; try simp (disch := omega) [wrap_in, dec_neg, str_same, baS, cellsAt_app baS, baT, cellsAt_app baT, bx0, cellsAt_app bx0, o1, o2, o4, o6]) | (refine awDraw_M 3 [[],[0],[],[2,1,0],[1,0,3,2],[4,1,0,3,2],[5,4,1,0,3,2],[5,4,1,0,3,2],[6,5,4,1,0,3,2],[7,5,4,1,0,3,2,8,6]] [6,7] (by kernel_rfl) (by decide +kernel) (by decide +kernel) ?_; try simp (disch := omega) [wrap_in, dec_neg, str_same, baS, cellsAt_app baS, baT, cellsAt_app baT, bx0, cellsAt_app bx0, o1, o2, o4, o6]) | skip
  obtain ⟨M7, hM7⟩ : ∃ M' : Mem, M' = M6 ++ [.live ⟨[u_t6], true, true, 43, 1⟩] := ⟨_, rfl⟩
  have bx1 : cellsAt M7 M6.length 0 1 = some [u_t6] := by rw [hM7]; simp
  have k7 : Keeps M6 M7 := by rw [hM7]; exact keeps_app _
  have n7 : M7.length = M6.length + 1 := by rw [hM7]; simp
  rw [← hM7]
  replace raS := raS.keeps k7
  replace raT := raT.keeps k7
  replace r_t1 := r_t1.keeps k7
  replace r_t2 := r_t2.keeps k7
  replace r_w0 := r_w0.keeps k7
  replace r_t4 := r_t4.keeps k7
  replace r_t6 := r_t6.keeps k7
  have K7 := K6.trans k7
  replace baS := cellsAt_keeps k7 baS
  replace baT := cellsAt_keeps k7 baT
  replace bx0 := cellsAt_keeps k7 bx0
  clear k7 hM7
  try simp (disch := omega) [wrap_in, dec_neg, str_same, baS, cellsAt_app baS, baT, cellsAt_app baT, bx0, cellsAt_app bx0, bx1, cellsAt_app bx1, o1, o2, o4, o6]
  first | (refine awDraw_M 3 [[],[0],[],[2,1,0],[1,0,3,2],[4,1,0,3,2],[5,4,1,0,3,2],[5,4,1,0,3,2],[6,5,4,1,0,3,2],[7,5,4,1,0,3,2,8,6]] [6,7] (by kernel_rfl) (by decide +kernel) (by decide +kernel) ?_; try simp (disch := omega) [wrap_in, dec_neg, str_same, baS, cellsAt_app baS, baT, cellsAt_app baT, bx0, cellsAt_app bx0, bx1, cellsAt_app bx1, o1, o2, o4, o6]) | (refine awDraw_D 3 [[],[],[1],[0,2,1],[3,0,2,1]] (by kernel_rfl) (by decide +kernel) ?_; try simp (disch := omega) [wrap_in, dec_neg, str_same, baS, cellsAt_app baS, baT, cellsAt_app baT, bx0, cellsAt_app bx0, bx1, cellsAt_app bx1, o1, o2, o4, o6]) | (refine awDraw_D 3 [[],[],[1],[0,2,1],[3,0,2,1]] (by kernel_rfl) (by decide +kernel) ?_; try simp (disch := omega) [wrap_in, dec_neg, str_same, baS, cellsAt_app baS, baT, cellsAt_app baT, bx0, cellsAt_app bx0, bx1, cellsAt_app bx1, o1, o2, o4, o6]) | (refine awDraw_M 3 [[],[0],[],[2,1,0],[1,0,3,2],[4,1,0,3,2],[5,4,1,0,3,2],[5,4,1,0,3,2],[6,5,4,1,0,3,2],[7,5,4,1,0,3,2,8,6]] [6,7] (by kernel_rfl) (by decide +kernel) (by decide +kernel) ?_; try simp (disch := omega) [wrap_in, dec_neg, str_same, baS, cellsAt_app baS, baT, cellsAt_app baT, bx0, cellsAt_app bx0, bx1, cellsAt_app bx1, o1, o2, o4, o6]) | skip
  refine awCall_ctr ((GatesOfScore_il r_t4.rd r_t6.rd eaS eaT).weaken (by omega)) ?_
  rintro _ M8 ⟨v_g0, rfl, r_g0, k8⟩
  have n8 := k8.len
  replace raS := raS.keeps k8
  replace raT := raT.keeps k8
  replace r_t1 := r_t1.keeps k8
  replace r_t2 := r_t2.keeps k8
  replace r_w0 := r_w0.keeps k8
  replace r_t4 := r_t4.keeps k8
  replace r_t6 := r_t6.keeps k8
  have K8 := K7.trans k8
  replace baS := cellsAt_keeps k8 baS
  replace baT := cellsAt_keeps k8 baT
  replace bx0 := cellsAt_keeps k8 bx0
  replace bx1 := cellsAt_keeps k8 bx1
  clear k8
  try simp (disch := omega) [wrap_in, dec_neg, str_same, baS, cellsAt_app baS, baT, cellsAt_app baT, bx0, cellsAt_app bx0, bx1, cellsAt_app bx1, o1, o2, o4, o6]
  first | (refine awDraw_M 3 [[],[0],[],[2,1,0],[1,0,3,2],[4,1,0,3,2],[5,4,1,0,3,2],[5,4,1,0,3,2],[6,5,4,1,0,3,2],[7,5,4,1,0,3,2,8,6]] [6,7] (by kernel_rfl) (by decide +kernel) (by decide +kernel) ?_; try simp (disch := omega) [wrap_in, dec_neg, str_same, baS, cellsAt_app baS, baT, cellsAt_app baT, bx0, cellsAt_app bx0, bx1, cellsAt_app bx1, o1, o2, o4, o6]) | (refine awDraw_D 3 [[],[],[1],[0,2,1],[3,0,2,1]] (by kernel_rfl) (by decide +kernel) ?_; try simp (disch := omega) [wrap_in, dec_neg, str_same, baS, cellsAt_app baS, baT, cellsAt_app baT, bx0, cellsAt_app bx0, bx1, cellsAt_app bx1, o1, o2, o4, o6]) | (refine awDraw_D 3 [[],[],[1],[0,2,1],[3,0,2,1]] (by kernel_rfl) (by decide +kernel) ?_; try simp (disch := omega) [wrap_in, dec_neg, str_same, baS, cellsAt_app baS, baT, cellsAt_app baT, bx0, cellsAt_app bx0, bx1, cellsAt_app bx1, o1, o2, o4, o6]) | (refine awDraw_M 3 [[],[0],[],[2,1,0],[1,0,3,2],[4,1,0,3,2],[5,4,1,0,3,2],[5,4,1,0,3,2],[6,5,4,1,0,3,2],[7,5,4,1,0,3,2,8,6]] [6,7] (by kernel_rfl) (by decide +kernel) (by decide +kernel) ?_; try simp (disch := omega) [wrap_in, dec_neg, str_same, baS, cellsAt_app baS, baT, cellsAt_app baT, bx0, cellsAt_app bx0, bx1, cellsAt_app bx1, o1, o2, o4, o6]) | skip
  refine awCall_det' (eq_GateS r_g0 r_w0.rd) (by omega) ?_
  try simp (disch := omega) [wrap_in, dec_neg, str_same, baS, cellsAt_app baS, baT, cellsAt_app baT, bx0, cellsAt_app bx0, bx1, cellsAt_app bx1, o1, o2, o4, o6]
  first | (refine awDraw_M 3 [[],[0],[],[2,1,0],[1,0,3,2],[4,1,0,3,2],[5,4,1,0,3,2],[5,4,1,0,3,2],[6,5,4,1,0,3,2],[7,5,4,1,0,3,2,8,6]] [6,7] (by kernel_rfl) (by decide +kernel) (by decide +kernel) ?_; try simp (disch := omega) [wrap_in, dec_neg, str_same, baS, cellsAt_app baS, baT, cellsAt_app baT, bx0, cellsAt_app bx0, bx1, cellsAt_app bx1, o1, o2, o4, o6]) | (refine awDraw_D 3 [[],[],[1],[0,2,1],[3,0,2,1]] (by kernel_rfl) (by decide +kernel) ?_; try simp (disch := omega) [wrap_in, dec_neg, str_same, baS, cellsAt_app baS, baT, cellsAt_app baT, bx0, cellsAt_app bx0, bx1, cellsAt_app bx1, o1, o2, o4, o6]) | (refine awDraw_D 3 [[],[],[1],[0,2,1],[3,0,2,1]] (by kernel_rfl) (by decide +kernel) ?_; try simp (disch := omega) [wrap_in, dec_neg, str_same, baS, cellsAt_app baS, baT, cellsAt_app baT, bx0, cellsAt_app bx0, bx1, cellsAt_app bx1, o1, o2, o4, o6]) | (refine awDraw_M 3 [[],[0],[],[2,1,0],[1,0,3,2],[4,1,0,3,2],[5,4,1,0,3,2],[5,4,1,0,3,2],[6,5,4,1,0,3,2],[7,5,4,1,0,3,2,8,6]] [6,7] (by kernel_rfl) (by decide +kernel) (by decide +kernel) ?_; try simp (disch := omega) [wrap_in, dec_neg, str_same, baS, cellsAt_app baS, baT, cellsAt_app baT, bx0, cellsAt_app bx0, bx1, cellsAt_app bx1, o1, o2, o4, o6]) | skip
  obtain ⟨u_t9, N9, d9, r_t9⟩ := to_Score_d raS eaS
  have o9 := r_t9.one
  first | (refine awCall_det' (d := true) d9 (by omega) ?_; refine ⟨N9, by rw [hM8, List.append_assoc], ?_⟩; have e9 : M5 ++ (N8 ++ N9) = M8 ++ N9 := (by rw [hM8, List.append_assoc]); obtain ⟨M9, hM9, k9⟩ : ∃ M' : Mem, M' = M8 ++ N9 ∧ Keeps M8 M' := ⟨_, rfl, keeps_app _⟩; rw [← hM9] at r_t9; rw [e9, ← hM9]) | (refine awCall_det' (d := true) d9 (by omega) ?_; simp (disch := omega) [wrap_in, dec_neg, str_same, baS, cellsAt_app baS, baT, cellsAt_app baT, bx0, cellsAt_app bx0, bx1, cellsAt_app bx1, o1, o2, o4, o6, o9]; obtain ⟨M9, hM9, k9⟩ : ∃ M' : Mem, M' = M8 ++ N9 ∧ Keeps M8 M' := ⟨_, rfl, keeps_app _⟩; rw [← hM9] at r_t9; rw [← hM9]) | (refine awCall_det' (d := false) d9 (by omega) ?_; obtain ⟨M9, hM9, k9⟩ : ∃ M' : Mem, M' = M8 ++ N9 ∧ Keeps M8 M' := ⟨_, rfl, keeps_app _⟩; rw [← hM9] at r_t9; rw [← hM9]; skip)
  have n9 := k9.len
  have q9 : M9.length = M8.length + N9.length := by rw [hM9, List.length_append]
  replace raS := raS.keeps k9
  replace raT := raT.keeps k9
  replace r_t1 := r_t1.keeps k9
  replace r_t2 := r_t2.keeps k9
  replace r_w0 := r_w0.keeps k9
  replace r_t4 := r_t4.keeps k9
  replace r_t6 := r_t6.keeps k9
  replace r_g0 := r_g0.keeps k9
  have K9 := K8.trans k9
  replace baS := cellsAt_keeps k9 baS
  replace baT := cellsAt_keeps k9 baT
  replace bx0 := cellsAt_keeps k9 bx0
  replace bx1 := cellsAt_keeps k9 bx1
  clear k9 d9
  try simp (disch := omega) [wrap_in, dec_neg, str_same, baS, cellsAt_app baS, baT, cellsAt_app baT, bx0, cellsAt_app bx0, bx1, cellsAt_app bx1, o1, o2, o4, o6, o9]
  first | (refine awDraw_M 3 [[],[0],[],[2,1,0],[1,0,3,2],[4,1,0,3,2],[5,4,1,0,3,2],[5,4,1,0,3,2],[6,5,4,1,0,3,2],[7,5,4,1,0,3,2,8,6]] [6,7] (by kernel_rfl) (by decide +kernel) (by decide +kernel) ?_; try simp (disch := omega) [wrap_in, dec_neg, str_same, baS, cellsAt_app baS, baT, cellsAt_app baT, bx0, cellsAt_app bx0, bx1, cellsAt_app bx1, o1, o2, o4, o6, o9]) | (refine awDraw_D 3 [[],[],[1],[0,2,1],[3,0,2,1]] (by kernel_rfl) (by decide +kernel) ?_; try simp (disch := omega) [wrap_in, dec_neg, str_same, baS, cellsAt_app baS, baT, cellsAt_app baT, bx0, cellsAt_app bx0, bx1, cellsAt_app bx1, o1, o2, o4, o6, o9]) | (refine awDraw_D 3 [[],[],[1],[0,2,1],[3,0,2,1]] (by kernel_rfl) (by decide +kernel) ?_; try simp (disch := omega) [wrap_in, dec_neg, str_same, baS, cellsAt_app baS, baT, cellsAt_app baT, bx0, cellsAt_app bx0, bx1, cellsAt_app bx1, o1, o2, o4, o6, o9]) | (refine awDraw_M 3 [[],[0],[],[2,1,0],[1,0,3,2],[4,1,0,3,2],[5,4,1,0,3,2],[5,4,1,0,3,2],[6,5,4,1,0,3,2],[7,5,4,1,0,3,2,8,6]] [6,7] (by kernel_rfl) (by decide +kernel) (by decide +kernel) ?_; try simp (disch := omega) [wrap_in, dec_neg, str_same, baS, cellsAt_app baS, baT, cellsAt_app baT, bx0, cellsAt_app bx0, bx1, cellsAt_app bx1, o1, o2, o4, o6, o9]) | skip
  refine awCall_det' (eq_Score r_t4 r_t9.rd) (by omega) ?_
  try simp (disch := omega) [wrap_in, dec_neg, str_same, baS, cellsAt_app baS, baT, cellsAt_app baT, bx0, cellsAt_app bx0, bx1, cellsAt_app bx1, o1, o2, o4, o6, o9]
  first | (refine awDraw_M 3 [[],[0],[],[2,1,0],[1,0,3,2],[4,1,0,3,2],[5,4,1,0,3,2],[5,4,1,0,3,2],[6,5,4,1,0,3,2],[7,5,4,1,0,3,2,8,6]] [6,7] (by kernel_rfl) (by decide +kernel) (by decide +kernel) ?_; try simp (disch := omega) [wrap_in, dec_neg, str_same, baS, cellsAt_app baS, baT, cellsAt_app baT, bx0, cellsAt_app bx0, bx1, cellsAt_app bx1, o1, o2, o4, o6, o9]) | (refine awDraw_D 3 [[],[],[1],[0,2,1],[3,0,2,1]] (by kernel_rfl) (by decide +kernel) ?_; try simp (disch := omega) [wrap_in, dec_neg, str_same, baS, cellsAt_app baS, baT, cellsAt_app baT, bx0, cellsAt_app bx0, bx1, cellsAt_app bx1, o1, o2, o4, o6, o9]) | (refine awDraw_D 3 [[],[],[1],[0,2,1],[3,0,2,1]] (by kernel_rfl) (by decide +kernel) ?_; try simp (disch := omega) [wrap_in, dec_neg, str_same, baS, cellsAt_app baS, baT, cellsAt_app baT, bx0, cellsAt_app bx0, bx1, cellsAt_app bx1, o1, o2, o4, o6, o9]) | (refine awDraw_M 3 [[],[0],[],[2,1,0],[1,0,3,2],[4,1,0,3,2],[5,4,1,0,3,2],[5,4,1,0,3,2],[6,5,4,1,0,3,2],[7,5,4,1,0,3,2,8,6]] [6,7] (by kernel_rfl) (by decide +kernel) (by decide +kernel) ?_; try simp (disch := omega) [wrap_in, dec_neg, str_same, baS, cellsAt_app baS, baT, cellsAt_app baT, bx0, cellsAt_app bx0, bx1, cellsAt_app bx1, o1, o2, o4, o6, o9]) | skip
  obtain ⟨u_t10, N10, d10, r_t10⟩ := to_TempoMap_d raT eaT
  have o10 := r_t10.one
  first | (refine awCall_det' (d := true) d10 (by omega) ?_; refine ⟨N10, by rw [hM9, List.append_assoc], ?_⟩; have e10 : M8 ++ (N9 ++ N10) = M9 ++ N10 := (by rw [hM9, List.append_assoc]); obtain ⟨M10, hM10, k10⟩ : ∃ M' : Mem, M' = M9 ++ N10 ∧ Keeps M9 M' := ⟨_, rfl, keeps_app _⟩; rw [← hM10] at r_t10; rw [e10, ← hM10]) | (refine awCall_det' (d := true) d10 (by omega) ?_; simp (disch := omega) [wrap_in, dec_neg, str_same, baS, cellsAt_app baS, baT, cellsAt_app baT, bx0, cellsAt_app bx0, bx1, cellsAt_app bx1, o1, o2, o4, o6, o9, o10]; obtain ⟨M10, hM10, k10⟩ : ∃ M' : Mem, M' = M9 ++ N10 ∧ Keeps M9 M' := ⟨_, rfl, keeps_app _⟩; rw [← hM10] at r_t10; rw [← hM10]) | (refine awCall_det' (d := false) d10 (by omega) ?_; obtain ⟨M10, hM10, k10⟩ : ∃ M' : Mem, M' = M9 ++ N10 ∧ Keeps M9 M' := ⟨_, rfl, keeps_app _⟩; rw [← hM10] at r_t10; rw [← hM10]; skip)
  have n10 := k10.len
  have q10 : M10.length = M9.length + N10.length := by rw [hM10, List.length_append]
  replace raS := raS.keeps k10
  replace raT := raT.keeps k10
  replace r_t1 := r_t1.keeps k10
  replace r_t2 := r_t2.keeps k10
  replace r_w0 := r_w0.keeps k10
  replace r_t4 := r_t4.keeps k10
  replace r_t6 := r_t6.keeps k10
  replace r_g0 := r_g0.keeps k10
  replace r_t9 := r_t9.keeps k10
  have K10 := K9.trans k10
  replace baS := cellsAt_keeps k10 baS
  replace baT := cellsAt_keeps k10 baT
  replace bx0 := cellsAt_keeps k10 bx0
  replace bx1 := cellsAt_keeps k10 bx1
  clear k10 d10
  try simp (disch := omega) [wrap_in, dec_neg, str_same, baS, cellsAt_app baS, baT, cellsAt_app baT, bx0, cellsAt_app bx0, bx1, cellsAt_app bx1, o1, o2, o4, o6, o9, o10]
  first | (refine awDraw_M 3 [[],[0],[],[2,1,0],[1,0,3,2],[4,1,0,3,2],[5,4,1,0,3,2],[5,4,1,0,3,2],[6,5,4,1,0,3,2],[7,5,4,1,0,3,2,8,6]] [6,7] (by kernel_rfl) (by decide +kernel) (by decide +kernel) ?_; try simp (disch := omega) [wrap_in, dec_neg, str_same, baS, cellsAt_app baS, baT, cellsAt_app baT, bx0, cellsAt_app bx0, bx1, cellsAt_app bx1, o1, o2, o4, o6, o9, o10]) | (refine awDraw_D 3 [[],[],[1],[0,2,1],[3,0,2,1]] (by kernel_rfl) (by decide +kernel) ?_; try simp (disch := omega) [wrap_in, dec_neg, str_same, baS, cellsAt_app baS, baT, cellsAt_app baT, bx0, cellsAt_app bx0, bx1, cellsAt_app bx1, o1, o2, o4, o6, o9, o10]) | (refine awDraw_D 3 [[],[],[1],[0,2,1],[3,0,2,1]] (by kernel_rfl) (by decide +kernel) ?_; try simp (disch := omega) [wrap_in, dec_neg, str_same, baS, cellsAt_app baS, baT, cellsAt_app baT, bx0, cellsAt_app bx0, bx1, cellsAt_app bx1, o1, o2, o4, o6, o9, o10]) | (refine awDraw_M 3 [[],[0],[],[2,1,0],[1,0,3,2],[4,1,0,3,2],[5,4,1,0,3,2],[5,4,1,0,3,2],[6,5,4,1,0,3,2],[7,5,4,1,0,3,2,8,6]] [6,7] (by kernel_rfl) (by decide +kernel) (by decide +kernel) ?_; try simp (disch := omega) [wrap_in, dec_neg, str_same, baS, cellsAt_app baS, baT, cellsAt_app baT, bx0, cellsAt_app bx0, bx1, cellsAt_app bx1, o1, o2, o4, o6, o9, o10]) | skip
  refine awCall_det' (eq_TempoMap r_t6 r_t10.rd) (by omega) ?_
  try simp (disch := omega) [wrap_in, dec_neg, str_same, baS, cellsAt_app baS, baT, cellsAt_app baT, bx0, cellsAt_app bx0, bx1, cellsAt_app bx1, o1, o2, o4, o6, o9, o10]
  first | (refine awDraw_M 3 [[],[0],[],[2,1,0],[1,0,3,2],[4,1,0,3,2],[5,4,1,0,3,2],[5,4,1,0,3,2],[6,5,4,1,0,3,2],[7,5,4,1,0,3,2,8,6]] [6,7] (by kernel_rfl) (by decide +kernel) (by decide +kernel) ?_; try simp (disch := omega) [wrap_in, dec_neg, str_same, baS, cellsAt_app baS, baT, cellsAt_app baT, bx0, cellsAt_app bx0, bx1, cellsAt_app bx1, o1, o2, o4, o6, o9, o10]) | (refine awDraw_D 3 [[],[],[1],[0,2,1],[3,0,2,1]] (by kernel_rfl) (by decide +kernel) ?_; try simp (disch := omega) [wrap_in, dec_neg, str_same, baS, cellsAt_app baS, baT, cellsAt_app baT, bx0, cellsAt_app bx0, bx1, cellsAt_app bx1, o1, o2, o4, o6, o9, o10]) | (refine awDraw_D 3 [[],[],[1],[0,2,1],[3,0,2,1]] (by kernel_rfl) (by decide +kernel) ?_; try simp (disch := omega) [wrap_in, dec_neg, str_same, baS, cellsAt_app baS, baT, cellsAt_app baT, bx0, cellsAt_app bx0, bx1, cellsAt_app bx1, o1, o2, o4, o6, o9, o10]) | (refine awDraw_M 3 [[],[0],[],[2,1,0],[1,0,3,2],[4,1,0,3,2],[5,4,1,0,3,2],[5,4,1,0,3,2],[6,5,4,1,0,3,2],[7,5,4,1,0,3,2,8,6]] [6,7] (by kernel_rfl) (by decide +kernel) (by decide +kernel) ?_; try simp (disch := omega) [wrap_in, dec_neg, str_same, baS, cellsAt_app baS, baT, cellsAt_app baT, bx0, cellsAt_app bx0, bx1, cellsAt_app bx1, o1, o2, o4, o6, o9, o10]) | skip
  refine awCall_ctr ((mark_Score (b := M.length) r_t4 (by omega) (by omega) (by omega)).weaken (Nat.le_refl _)) ?_
  rintro _ M11 ⟨rfl, m_x0, k11⟩
  have n11 := k11.1
  replace raS := raS.turn k11 (by omega)
  replace raT := raT.turn k11 (by omega)
  replace r_t1 := r_t1.turn k11 (by omega)
  replace r_t2 := r_t2.turn k11 (by omega)
  replace r_w0 := r_w0.turn k11 (by omega)
  replace r_t6 := r_t6.turn k11 (by omega)
  replace r_g0 := r_g0.turn k11 (by omega)
  replace r_t9 := r_t9.turn k11 (by omega)
  replace r_t10 := r_t10.turn k11 (by omega)
  replace baS := cellsAt_turn2 k11 (by omega) baS
  replace baT := cellsAt_turn2 k11 (by omega) baT
  replace bx0 := cellsAt_turn2 k11 (by omega) bx0
  replace bx1 := cellsAt_turn2 k11 (by omega) bx1
  have K11 := k11.keeps K10 (by omega)
  clear k11
  try simp (disch := omega) [wrap_in, dec_neg, str_same, baS, cellsAt_app baS, baT, cellsAt_app baT, bx0, cellsAt_app bx0, bx1, cellsAt_app bx1, o1, o2, o4, o6, o9, o10]
  first | (refine awDraw_M 3 [[],[0],[],[2,1,0],[1,0,3,2],[4,1,0,3,2],[5,4,1,0,3,2],[5,4,1,0,3,2],[6,5,4,1,0,3,2],[7,5,4,1,0,3,2,8,6]] [6,7] (by kernel_rfl) (by decide +kernel) (by decide +kernel) ?_; try simp (disch := omega) [wrap_in, dec_neg, str_same, baS, cellsAt_app baS, baT, cellsAt_app baT, bx0, cellsAt_app bx0, bx1, cellsAt_app bx1, o1, o2, o4, o6, o9, o10]) | (refine awDraw_D 3 [[],[],[1],[0,2,1],[3,0,2,1]] (by kernel_rfl) (by decide +kernel) ?_; try simp (disch := omega) [wrap_in, dec_neg, str_same, baS, cellsAt_app baS, baT, cellsAt_app baT, bx0, cellsAt_app bx0, bx1, cellsAt_app bx1, o1, o2, o4, o6, o9, o10]) | (refine awDraw_D 3 [[],[],[1],[0,2,1],[3,0,2,1]] (by kernel_rfl) (by decide +kernel) ?_; try simp (disch := omega) [wrap_in, dec_neg, str_same, baS, cellsAt_app baS, baT, cellsAt_app baT, bx0, cellsAt_app bx0, bx1, cellsAt_app bx1, o1, o2, o4, o6, o9, o10]) | (refine awDraw_M 3 [[],[0],[],[2,1,0],[1,0,3,2],[4,1,0,3,2],[5,4,1,0,3,2],[5,4,1,0,3,2],[6,5,4,1,0,3,2],[7,5,4,1,0,3,2,8,6]] [6,7] (by kernel_rfl) (by decide +kernel) (by decide +kernel) ?_; try simp (disch := omega) [wrap_in, dec_neg, str_same, baS, cellsAt_app baS, baT, cellsAt_app baT, bx0, cellsAt_app bx0, bx1, cellsAt_app bx1, o1, o2, o4, o6, o9, o10]) | skip
  refine awCall_ctr ((mark_TempoMap (b := M.length) r_t6 (by omega) (by omega) (by omega)).weaken (Nat.le_refl _)) ?_
  rintro _ M12 ⟨rfl, m_x1, k12⟩
  have n12 := k12.1
  replace raS := raS.turn k12 (by omega)
  replace raT := raT.turn k12 (by omega)
  replace r_t1 := r_t1.turn k12 (by omega)
  replace r_t2 := r_t2.turn k12 (by omega)
  replace r_w0 := r_w0.turn k12 (by omega)
  replace m_x0 := m_x0.turn k12 (by omega)
  replace r_g0 := r_g0.turn k12 (by omega)
  replace r_t9 := r_t9.turn k12 (by omega)
  replace r_t10 := r_t10.turn k12 (by omega)
  replace baS := cellsAt_turn2 k12 (by omega) baS
  replace baT := cellsAt_turn2 k12 (by omega) baT
  replace bx0 := cellsAt_turn2 k12 (by omega) bx0
  replace bx1 := cellsAt_turn2 k12 (by omega) bx1
  have K12 := k12.keeps K11 (by omega)
  clear k12
  try simp (disch := omega) [wrap_in, dec_neg, str_same, baS, cellsAt_app baS, baT, cellsAt_app baT, bx0, cellsAt_app bx0, bx1, cellsAt_app bx1, o1, o2, o4, o6, o9, o10]
  first | (refine awDraw_M 3 [[],[0],[],[2,1,0],[1,0,3,2],[4,1,0,3,2],[5,4,1,0,3,2],[5,4,1,0,3,2],[6,5,4,1,0,3,2],[7,5,4,1,0,3,2,8,6]] [6,7] (by kernel_rfl) (by decide +kernel) (by decide +kernel) ?_; try simp (disch := omega) [wrap_in, dec_neg, str_same, baS, cellsAt_app baS, baT, cellsAt_app baT, bx0, cellsAt_app bx0, bx1, cellsAt_app bx1, o1, o2, o4, o6, o9, o10]) | (refine awDraw_D 3 [[],[],[1],[0,2,1],[3,0,2,1]] (by kernel_rfl) (by decide +kernel) ?_; try simp (disch := omega) [wrap_in, dec_neg, str_same, baS, cellsAt_app baS, baT, cellsAt_app baT, bx0, cellsAt_app bx0, bx1, cellsAt_app bx1, o1, o2, o4, o6, o9, o10]) | (refine awDraw_D 3 [[],[],[1],[0,2,1],[3,0,2,1]] (by kernel_rfl) (by decide +kernel) ?_; try simp (disch := omega) [wrap_in, dec_neg, str_same, baS, cellsAt_app baS, baT, cellsAt_app baT, bx0, cellsAt_app bx0, bx1, cellsAt_app bx1, o1, o2, o4, o6, o9, o10]) | (refine awDraw_M 3 [[],[0],[],[2,1,0],[1,0,3,2],[4,1,0,3,2],[5,4,1,0,3,2],[5,4,1,0,3,2],[6,5,4,1,0,3,2],[7,5,4,1,0,3,2,8,6]] [6,7] (by kernel_rfl) (by decide +kernel) (by decide +kernel) ?_; try simp (disch := omega) [wrap_in, dec_neg, str_same, baS, cellsAt_app baS, baT, cellsAt_app baT, bx0, cellsAt_app bx0, bx1, cellsAt_app bx1, o1, o2, o4, o6, o9, o10]) | skip
  refine awCall_det' (eq_GateS r_g0 r_w0.rd) (by omega) ?_
  try simp (disch := omega) [wrap_in, dec_neg, str_same, baS, cellsAt_app baS, baT, cellsAt_app baT, bx0, cellsAt_app bx0, bx1, cellsAt_app bx1, o1, o2, o4, o6, o9, o10]
  first | (refine awDraw_M 3 [[],[0],[],[2,1,0],[1,0,3,2],[4,1,0,3,2],[5,4,1,0,3,2],[5,4,1,0,3,2],[6,5,4,1,0,3,2],[7,5,4,1,0,3,2,8,6]] [6,7] (by kernel_rfl) (by decide +kernel) (by decide +kernel) ?_; try simp (disch := omega) [wrap_in, dec_neg, str_same, baS, cellsAt_app baS, baT, cellsAt_app baT, bx0, cellsAt_app bx0, bx1, cellsAt_app bx1, o1, o2, o4, o6, o9, o10]) | (refine awDraw_D 3 [[],[],[1],[0,2,1],[3,0,2,1]] (by kernel_rfl) (by decide +kernel) ?_; try simp (disch := omega) [wrap_in, dec_neg, str_same, baS, cellsAt_app baS, baT, cellsAt_app baT, bx0, cellsAt_app bx0, bx1, cellsAt_app bx1, o1, o2, o4, o6, o9, o10]) | (refine awDraw_D 3 [[],[],[1],[0,2,1],[3,0,2,1]] (by kernel_rfl) (by decide +kernel) ?_; try simp (disch := omega) [wrap_in, dec_neg, str_same, baS, cellsAt_app baS, baT, cellsAt_app baT, bx0, cellsAt_app bx0, bx1, cellsAt_app bx1, o1, o2, o4, o6, o9, o10]) | (refine awDraw_M 3 [[],[0],[],[2,1,0],[1,0,3,2],[4,1,0,3,2],[5,4,1,0,3,2],[5,4,1,0,3,2],[6,5,4,1,0,3,2],[7,5,4,1,0,3,2,8,6]] [6,7] (by kernel_rfl) (by decide +kernel) (by decide +kernel) ?_; try simp (disch := omega) [wrap_in, dec_neg, str_same, baS, cellsAt_app baS, baT, cellsAt_app baT, bx0, cellsAt_app bx0, bx1, cellsAt_app bx1, o1, o2, o4, o6, o9, o10]) | skip
  refine awCall_ctr ((mark_GateS (b := M.length) r_g0 (by omega) (by omega) (by omega)).weaken (Nat.le_refl _)) ?_
  rintro _ M13 ⟨rfl, m_g0, k13⟩
  have n13 := k13.1
  replace raS := raS.turn k13 (by omega)
  replace raT := raT.turn k13 (by omega)
  replace r_t1 := r_t1.turn k13 (by omega)
  replace r_t2 := r_t2.turn k13 (by omega)
  replace r_w0 := r_w0.turn k13 (by omega)
  replace m_x0 := m_x0.turn k13 (by omega)
  replace m_x1 := m_x1.turn k13 (by omega)
  replace r_t9 := r_t9.turn k13 (by omega)
  replace r_t10 := r_t10.turn k13 (by omega)
  replace baS := cellsAt_turn2 k13 (by omega) baS
  replace baT := cellsAt_turn2 k13 (by omega) baT
  replace bx0 := cellsAt_turn2 k13 (by omega) bx0
  replace bx1 := cellsAt_turn2 k13 (by omega) bx1
  have K13 := k13.keeps K12 (by omega)
  clear k13
  try simp (disch := omega) [wrap_in, dec_neg, str_same, baS, cellsAt_app baS, baT, cellsAt_app baT, bx0, cellsAt_app bx0, bx1, cellsAt_app bx1, o1, o2, o4, o6, o9, o10]
  first | (refine awDraw_M 3 [[],[0],[],[2,1,0],[1,0,3,2],[4,1,0,3,2],[5,4,1,0,3,2],[5,4,1,0,3,2],[6,5,4,1,0,3,2],[7,5,4,1,0,3,2,8,6]] [6,7] (by kernel_rfl) (by decide +kernel) (by decide +kernel) ?_; try simp (disch := omega) [wrap_in, dec_neg, str_same, baS, cellsAt_app baS, baT, cellsAt_app baT, bx0, cellsAt_app bx0, bx1, cellsAt_app bx1, o1, o2, o4, o6, o9, o10]) | (refine awDraw_D 3 [[],[],[1],[0,2,1],[3,0,2,1]] (by kernel_rfl) (by decide +kernel) ?_; try simp (disch := omega) [wrap_in, dec_neg, str_same, baS, cellsAt_app baS, baT, cellsAt_app baT, bx0, cellsAt_app bx0, bx1, cellsAt_app bx1, o1, o2, o4, o6, o9, o10]) | (refine awDraw_D 3 [[],[],[1],[0,2,1],[3,0,2,1]] (by kernel_rfl) (by decide +kernel) ?_; try simp (disch := omega) [wrap_in, dec_neg, str_same, baS, cellsAt_app baS, baT, cellsAt_app baT, bx0, cellsAt_app bx0, bx1, cellsAt_app bx1, o1, o2, o4, o6, o9, o10]) | (refine awDraw_M 3 [[],[0],[],[2,1,0],[1,0,3,2],[4,1,0,3,2],[5,4,1,0,3,2],[5,4,1,0,3,2],[6,5,4,1,0,3,2],[7,5,4,1,0,3,2,8,6]] [6,7] (by kernel_rfl) (by decide +kernel) (by decide +kernel) ?_; try simp (disch := omega) [wrap_in, dec_neg, str_same, baS, cellsAt_app baS, baT, cellsAt_app baT, bx0, cellsAt_app bx0, bx1, cellsAt_app bx1, o1, o2, o4, o6, o9, o10]) | skip
  refine awCall_det' (held_GateS m_g0 (by omega) (by omega)) (by omega) ?_
  try simp (disch := omega) [wrap_in, dec_neg, str_same, baS, cellsAt_app baS, baT, cellsAt_app baT, bx0, cellsAt_app bx0, bx1, cellsAt_app bx1, o1, o2, o4, o6, o9, o10]
  first | (refine awDraw_M 3 [[],[0],[],[2,1,0],[1,0,3,2],[4,1,0,3,2],[5,4,1,0,3,2],[5,4,1,0,3,2],[6,5,4,1,0,3,2],[7,5,4,1,0,3,2,8,6]] [6,7] (by kernel_rfl) (by decide +kernel) (by decide +kernel) ?_; try simp (disch := omega) [wrap_in, dec_neg, str_same, baS, cellsAt_app baS, baT, cellsAt_app baT, bx0, cellsAt_app bx0, bx1, cellsAt_app bx1, o1, o2, o4, o6, o9, o10]) | (refine awDraw_D 3 [[],[],[1],[0,2,1],[3,0,2,1]] (by kernel_rfl) (by decide +kernel) ?_; try simp (disch := omega) [wrap_in, dec_neg, str_same, baS, cellsAt_app baS, baT, cellsAt_app baT, bx0, cellsAt_app bx0, bx1, cellsAt_app bx1, o1, o2, o4, o6, o9, o10]) | (refine awDraw_D 3 [[],[],[1],[0,2,1],[3,0,2,1]] (by kernel_rfl) (by decide +kernel) ?_; try simp (disch := omega) [wrap_in, dec_neg, str_same, baS, cellsAt_app baS, baT, cellsAt_app baT, bx0, cellsAt_app bx0, bx1, cellsAt_app bx1, o1, o2, o4, o6, o9, o10]) | (refine awDraw_M 3 [[],[0],[],[2,1,0],[1,0,3,2],[4,1,0,3,2],[5,4,1,0,3,2],[5,4,1,0,3,2],[6,5,4,1,0,3,2],[7,5,4,1,0,3,2,8,6]] [6,7] (by kernel_rfl) (by decide +kernel) (by decide +kernel) ?_; try simp (disch := omega) [wrap_in, dec_neg, str_same, baS, cellsAt_app baS, baT, cellsAt_app baT, bx0, cellsAt_app bx0, bx1, cellsAt_app bx1, o1, o2, o4, o6, o9, o10]) | skip
  obtain ⟨u_t14, N14, d14, r_t14⟩ := to_Score_d raS eaS
  have o14 := r_t14.one
  first | (refine awCall_det' (d := true) d14 (by omega) ?_; refine ⟨N14, by rw [hM13, List.append_assoc], ?_⟩; have e14 : M9 ++ (N13 ++ N14) = M13 ++ N14 := (by rw [hM13, List.append_assoc]); obtain ⟨M14, hM14, k14⟩ : ∃ M' : Mem, M' = M13 ++ N14 ∧ Keeps M13 M' := ⟨_, rfl, keeps_app _⟩; rw [← hM14] at r_t14; rw [e14, ← hM14]) | (refine awCall_det' (d := true) d14 (by omega) ?_; simp (disch := omega) [wrap_in, dec_neg, str_same, baS, cellsAt_app baS, baT, cellsAt_app baT, bx0, cellsAt_app bx0, bx1, cellsAt_app bx1, o1, o2, o4, o6, o9, o10, o14]; obtain ⟨M14, hM14, k14⟩ : ∃ M' : Mem, M' = M13 ++ N14 ∧ Keeps M13 M' := ⟨_, rfl, keeps_app _⟩; rw [← hM14] at r_t14; rw [← hM14]) | (refine awCall_det' (d := false) d14 (by omega) ?_; obtain ⟨M14, hM14, k14⟩ : ∃ M' : Mem, M' = M13 ++ N14 ∧ Keeps M13 M' := ⟨_, rfl, keeps_app _⟩; rw [← hM14] at r_t14; rw [← hM14]; skip)
  have n14 := k14.len
  have q14 : M14.length = M13.length + N14.length := by rw [hM14, List.length_append]
  replace raS := raS.keeps k14
  replace raT := raT.keeps k14
  replace r_t1 := r_t1.keeps k14
  replace r_t2 := r_t2.keeps k14
  replace r_w0 := r_w0.keeps k14
  replace m_x0 := m_x0.keeps k14
  replace m_x1 := m_x1.keeps k14
  replace m_g0 := m_g0.keeps k14
  replace r_t9 := r_t9.keeps k14
  replace r_t10 := r_t10.keeps k14
  have K14 := K13.trans k14
  replace baS := cellsAt_keeps k14 baS
  replace baT := cellsAt_keeps k14 baT
  replace bx0 := cellsAt_keeps k14 bx0
  replace bx1 := cellsAt_keeps k14 bx1
  clear k14 d14
  try simp (disch := omega) [wrap_in, dec_neg, str_same, baS, cellsAt_app baS, baT, cellsAt_app baT, bx0, cellsAt_app bx0, bx1, cellsAt_app bx1, o1, o2, o4, o6, o9, o10, o14]
  first | (refine awDraw_M 3 [[],[0],[],[2,1,0],[1,0,3,2],[4,1,0,3,2],[5,4,1,0,3,2],[5,4,1,0,3,2],[6,5,4,1,0,3,2],[7,5,4,1,0,3,2,8,6]] [6,7] (by kernel_rfl) (by decide +kernel) (by decide +kernel) ?_; try simp (disch := omega) [wrap_in, dec_neg, str_same, baS, cellsAt_app baS, baT, cellsAt_app baT, bx0, cellsAt_app bx0, bx1, cellsAt_app bx1, o1, o2, o4, o6, o9, o10, o14]) | (refine awDraw_D 3 [[],[],[1],[0,2,1],[3,0,2,1]] (by kernel_rfl) (by decide +kernel) ?_; try simp (disch := omega) [wrap_in, dec_neg, str_same, baS, cellsAt_app baS, baT, cellsAt_app baT, bx0, cellsAt_app bx0, bx1, cellsAt_app bx1, o1, o2, o4, o6, o9, o10, o14]) | (refine awDraw_D 3 [[],[],[1],[0,2,1],[3,0,2,1]] (by kernel_rfl) (by decide +kernel) ?_; try simp (disch := omega) [wrap_in, dec_neg, str_same, baS, cellsAt_app baS, baT, cellsAt_app baT, bx0, cellsAt_app bx0, bx1, cellsAt_app bx1, o1, o2, o4, o6, o9, o10, o14]) | (refine awDraw_M 3 [[],[0],[],[2,1,0],[1,0,3,2],[4,1,0,3,2],[5,4,1,0,3,2],[5,4,1,0,3,2],[6,5,4,1,0,3,2],[7,5,4,1,0,3,2,8,6]] [6,7] (by kernel_rfl) (by decide +kernel) (by decide +kernel) ?_; try simp (disch := omega) [wrap_in, dec_neg, str_same, baS, cellsAt_app baS, baT, cellsAt_app baT, bx0, cellsAt_app bx0, bx1, cellsAt_app bx1, o1, o2, o4, o6, o9, o10, o14]) | skip
  obtain ⟨u_t15, N15, d15, r_t15⟩ := to_TempoMap_d raT eaT
  have o15 := r_t15.one
  first | (refine awCall_det' (d := true) d15 (by omega) ?_; refine ⟨N15, by rw [hM14, List.append_assoc], ?_⟩; have e15 : M13 ++ (N14 ++ N15) = M14 ++ N15 := (by rw [hM14, List.append_assoc]); obtain ⟨M15, hM15, k15⟩ : ∃ M' : Mem, M' = M14 ++ N15 ∧ Keeps M14 M' := ⟨_, rfl, keeps_app _⟩; rw [← hM15] at r_t15; rw [e15, ← hM15]) | (refine awCall_det' (d := true) d15 (by omega) ?_; simp (disch := omega) [wrap_in, dec_neg, str_same, baS, cellsAt_app baS, baT, cellsAt_app baT, bx0, cellsAt_app bx0, bx1, cellsAt_app bx1, o1, o2, o4, o6, o9, o10, o14, o15]; obtain ⟨M15, hM15, k15⟩ : ∃ M' : Mem, M' = M14 ++ N15 ∧ Keeps M14 M' := ⟨_, rfl, keeps_app _⟩; rw [← hM15] at r_t15; rw [← hM15]) | (refine awCall_det' (d := false) d15 (by omega) ?_; obtain ⟨M15, hM15, k15⟩ : ∃ M' : Mem, M' = M14 ++ N15 ∧ Keeps M14 M' := ⟨_, rfl, keeps_app _⟩; rw [← hM15] at r_t15; rw [← hM15]; skip)
  have n15 := k15.len
  have q15 : M15.length = M14.length + N15.length := by rw [hM15, List.length_append]
  replace raS := raS.keeps k15
  replace raT := raT.keeps k15
  replace r_t1 := r_t1.keeps k15
  replace r_t2 := r_t2.keeps k15
  replace r_w0 := r_w0.keeps k15
  replace m_x0 := m_x0.keeps k15
  replace m_x1 := m_x1.keeps k15
  replace m_g0 := m_g0.keeps k15
  replace r_t9 := r_t9.keeps k15
  replace r_t10 := r_t10.keeps k15
  replace r_t14 := r_t14.keeps k15
  have K15 := K14.trans k15
  replace baS := cellsAt_keeps k15 baS
  replace baT := cellsAt_keeps k15 baT
  replace bx0 := cellsAt_keeps k15 bx0
  replace bx1 := cellsAt_keeps k15 bx1
  clear k15 d15
  try simp (disch := omega) [wrap_in, dec_neg, str_same, baS, cellsAt_app baS, baT, cellsAt_app baT, bx0, cellsAt_app bx0, bx1, cellsAt_app bx1, o1, o2, o4, o6, o9, o10, o14, o15]
  first | (refine awDraw_M 3 [[],[0],[],[2,1,0],[1,0,3,2],[4,1,0,3,2],[5,4,1,0,3,2],[5,4,1,0,3,2],[6,5,4,1,0,3,2],[7,5,4,1,0,3,2,8,6]] [6,7] (by kernel_rfl) (by decide +kernel) (by decide +kernel) ?_; try simp (disch := omega) [wrap_in, dec_neg, str_same, baS, cellsAt_app baS, baT, cellsAt_app baT, bx0, cellsAt_app bx0, bx1, cellsAt_app bx1, o1, o2, o4, o6, o9, o10, o14, o15]) | (refine awDraw_D 3 [[],[],[1],[0,2,1],[3,0,2,1]] (by kernel_rfl) (by decide +kernel) ?_; try simp (disch := omega) [wrap_in, dec_neg, str_same, baS, cellsAt_app baS, baT, cellsAt_app baT, bx0, cellsAt_app bx0, bx1, cellsAt_app bx1, o1, o2, o4, o6, o9, o10, o14, o15]) | (refine awDraw_D 3 [[],[],[1],[0,2,1],[3,0,2,1]] (by kernel_rfl) (by decide +kernel) ?_; try simp (disch := omega) [wrap_in, dec_neg, str_same, baS, cellsAt_app baS, baT, cellsAt_app baT, bx0, cellsAt_app bx0, bx1, cellsAt_app bx1, o1, o2, o4, o6, o9, o10, o14, o15]) | (refine awDraw_M 3 [[],[0],[],[2,1,0],[1,0,3,2],[4,1,0,3,2],[5,4,1,0,3,2],[5,4,1,0,3,2],[6,5,4,1,0,3,2],[7,5,4,1,0,3,2,8,6]] [6,7] (by kernel_rfl) (by decide +kernel) (by decide +kernel) ?_; try simp (disch := omega) [wrap_in, dec_neg, str_same, baS, cellsAt_app baS, baT, cellsAt_app baT, bx0, cellsAt_app bx0, bx1, cellsAt_app bx1, o1, o2, o4, o6, o9, o10, o14, o15]) | skip
  refine awCall_ctr ((GatesOfScore_il r_t14.rd r_t15.rd eaS eaT).weaken (by omega)) ?_
  rintro _ M16 ⟨v_h0, rfl, r_h0, k16⟩
  have n16 := k16.len
  replace raS := raS.keeps k16
  replace raT := raT.keeps k16
  replace r_t1 := r_t1.keeps k16
  replace r_t2 := r_t2.keeps k16
  replace r_w0 := r_w0.keeps k16
  replace m_x0 := m_x0.keeps k16
  replace m_x1 := m_x1.keeps k16
  replace m_g0 := m_g0.keeps k16
  replace r_t9 := r_t9.keeps k16
  replace r_t10 := r_t10.keeps k16
  replace r_t14 := r_t14.keeps k16
  replace r_t15 := r_t15.keeps k16
  have K16 := K15.trans k16
  replace baS := cellsAt_keeps k16 baS
  replace baT := cellsAt_keeps k16 baT
  replace bx0 := cellsAt_keeps k16 bx0
  replace bx1 := cellsAt_keeps k16 bx1
  clear k16
  try simp (disch := omega) [wrap_in, dec_neg, str_same, baS, cellsAt_app baS, baT, cellsAt_app baT, bx0, cellsAt_app bx0, bx1, cellsAt_app bx1, o1, o2, o4, o6, o9, o10, o14, o15]
  first | (refine awDraw_M 3 [[],[0],[],[2,1,0],[1,0,3,2],[4,1,0,3,2],[5,4,1,0,3,2],[5,4,1,0,3,2],[6,5,4,1,0,3,2],[7,5,4,1,0,3,2,8,6]] [6,7] (by kernel_rfl) (by decide +kernel) (by decide +kernel) ?_; try simp (disch := omega) [wrap_in, dec_neg, str_same, baS, cellsAt_app baS, baT, cellsAt_app baT, bx0, cellsAt_app bx0, bx1, cellsAt_app bx1, o1, o2, o4, o6, o9, o10, o14, o15]) | (refine awDraw_D 3 [[],[],[1],[0,2,1],[3,0,2,1]] (by kernel_rfl) (by decide +kernel) ?_; try simp (disch := omega) [wrap_in, dec_neg, str_same, baS, cellsAt_app baS, baT, cellsAt_app baT, bx0, cellsAt_app bx0, bx1, cellsAt_app bx1, o1, o2, o4, o6, o9, o10, o14, o15]) | (refine awDraw_D 3 [[],[],[1],[0,2,1],[3,0,2,1]] (by kernel_rfl) (by decide +kernel) ?_; try simp (disch := omega) [wrap_in, dec_neg, str_same, baS, cellsAt_app baS, baT, cellsAt_app baT, bx0, cellsAt_app bx0, bx1, cellsAt_app bx1, o1, o2, o4, o6, o9, o10, o14, o15]) | (refine awDraw_M 3 [[],[0],[],[2,1,0],[1,0,3,2],[4,1,0,3,2],[5,4,1,0,3,2],[5,4,1,0,3,2],[6,5,4,1,0,3,2],[7,5,4,1,0,3,2,8,6]] [6,7] (by kernel_rfl) (by decide +kernel) (by decide +kernel) ?_; try simp (disch := omega) [wrap_in, dec_neg, str_same, baS, cellsAt_app baS, baT, cellsAt_app baT, bx0, cellsAt_app bx0, bx1, cellsAt_app bx1, o1, o2, o4, o6, o9, o10, o14, o15]) | skip
  refine awCall_det' (eq_GateS r_h0 r_w0.rd) (by omega) ?_
  try simp (disch := omega) [wrap_in, dec_neg, str_same, baS, cellsAt_app baS, baT, cellsAt_app baT, bx0, cellsAt_app bx0, bx1, cellsAt_app bx1, o1, o2, o4, o6, o9, o10, o14, o15]
  first | (refine awDraw_M 3 [[],[0],[],[2,1,0],[1,0,3,2],[4,1,0,3,2],[5,4,1,0,3,2],[5,4,1,0,3,2],[6,5,4,1,0,3,2],[7,5,4,1,0,3,2,8,6]] [6,7] (by kernel_rfl) (by decide +kernel) (by decide +kernel) ?_; try simp (disch := omega) [wrap_in, dec_neg, str_same, baS, cellsAt_app baS, baT, cellsAt_app baT, bx0, cellsAt_app bx0, bx1, cellsAt_app bx1, o1, o2, o4, o6, o9, o10, o14, o15]) | (refine awDraw_D 3 [[],[],[1],[0,2,1],[3,0,2,1]] (by kernel_rfl) (by decide +kernel) ?_; try simp (disch := omega) [wrap_in, dec_neg, str_same, baS, cellsAt_app baS, baT, cellsAt_app baT, bx0, cellsAt_app bx0, bx1, cellsAt_app bx1, o1, o2, o4, o6, o9, o10, o14, o15]) | (refine awDraw_D 3 [[],[],[1],[0,2,1],[3,0,2,1]] (by kernel_rfl) (by decide +kernel) ?_; try simp (disch := omega) [wrap_in, dec_neg, str_same, baS, cellsAt_app baS, baT, cellsAt_app baT, bx0, cellsAt_app bx0, bx1, cellsAt_app bx1, o1, o2, o4, o6, o9, o10, o14, o15]) | (refine awDraw_M 3 [[],[0],[],[2,1,0],[1,0,3,2],[4,1,0,3,2],[5,4,1,0,3,2],[5,4,1,0,3,2],[6,5,4,1,0,3,2],[7,5,4,1,0,3,2,8,6]] [6,7] (by kernel_rfl) (by decide +kernel) (by decide +kernel) ?_; try simp (disch := omega) [wrap_in, dec_neg, str_same, baS, cellsAt_app baS, baT, cellsAt_app baT, bx0, cellsAt_app bx0, bx1, cellsAt_app bx1, o1, o2, o4, o6, o9, o10, o14, o15]) | skip
  refine awCall_det' (held_GateS m_g0 (by omega) (by omega)) (by omega) ?_
  try simp (disch := omega) [wrap_in, dec_neg, str_same, baS, cellsAt_app baS, baT, cellsAt_app baT, bx0, cellsAt_app bx0, bx1, cellsAt_app bx1, o1, o2, o4, o6, o9, o10, o14, o15]
  first | (refine awDraw_M 3 [[],[0],[],[2,1,0],[1,0,3,2],[4,1,0,3,2],[5,4,1,0,3,2],[5,4,1,0,3,2],[6,5,4,1,0,3,2],[7,5,4,1,0,3,2,8,6]] [6,7] (by kernel_rfl) (by decide +kernel) (by decide +kernel) ?_; try simp (disch := omega) [wrap_in, dec_neg, str_same, baS, cellsAt_app baS, baT, cellsAt_app baT, bx0, cellsAt_app bx0, bx1, cellsAt_app bx1, o1, o2, o4, o6, o9, o10, o14, o15]) | (refine awDraw_D 3 [[],[],[1],[0,2,1],[3,0,2,1]] (by kernel_rfl) (by decide +kernel) ?_; try simp (disch := omega) [wrap_in, dec_neg, str_same, baS, cellsAt_app baS, baT, cellsAt_app baT, bx0, cellsAt_app bx0, bx1, cellsAt_app bx1, o1, o2, o4, o6, o9, o10, o14, o15]) | (refine awDraw_D 3 [[],[],[1],[0,2,1],[3,0,2,1]] (by kernel_rfl) (by decide +kernel) ?_; try simp (disch := omega) [wrap_in, dec_neg, str_same, baS, cellsAt_app baS, baT, cellsAt_app baT, bx0, cellsAt_app bx0, bx1, cellsAt_app bx1, o1, o2, o4, o6, o9, o10, o14, o15]) | (refine awDraw_M 3 [[],[0],[],[2,1,0],[1,0,3,2],[4,1,0,3,2],[5,4,1,0,3,2],[5,4,1,0,3,2],[6,5,4,1,0,3,2],[7,5,4,1,0,3,2,8,6]] [6,7] (by kernel_rfl) (by decide +kernel) (by decide +kernel) ?_; try simp (disch := omega) [wrap_in, dec_neg, str_same, baS, cellsAt_app baS, baT, cellsAt_app baT, bx0, cellsAt_app bx0, bx1, cellsAt_app bx1, o1, o2, o4, o6, o9, o10, o14, o15]) | skip
  try simp [K16]
set_option maxRecDepth 100000 in
theorem FnExactGatesOfScore_lifted (os : Os) (started : os.Started) (H : Type) (enc : TypeId × Value → H) :
    ReturnsInHanded {} Try.checked os 4 .any (Rows.fnExactGatesOfScoreSpec.pre6 enc Try.prog Try.f4 Rows.fnExactGatesOfScoreRow.domain false) (Rows.fnExactGatesOfScoreSpec.post enc Try.prog Try.f4 false true false false) := by
  refine returnsInHanded_of_change (C := Try.checked) own_knob started (by kernel_rfl) Try.func4
    (ChangeSpec.witness6 (enc := enc) (C := Try.checked) false ⟨#[], #[.agg #[.slice none 0 0], .agg #[.slice none 0 0]], []⟩ 8 (by kernel_rfl) (by kernel_rfl) (by kernel_rfl) (by kernel_rfl)) ?_
  intro W base args ds gs before hval0 hW hcnd _
  have hval : ∀ (j : Nat) t v, Try.f4.params[j]? = some t → args[j]? = some v → Value.okWide Try.prog W .any base t v := hval0
  have hW' := hW
  have hlt := hW.lt
  obtain ⟨p, q, hA0, hV, rfl, hfz, hnd⟩ := hW
  have hA : DataW.TrodAll enc Try.prog W 0 (fun _ => true) true Try.f4.params.toList args.toList ds p := hA0
  rw [Try.params4] at hA hval
  obtain ⟨v0, v1, d0, d1, p0, p1, rfl, rfl, rfl, h0, h1⟩ := trodAll_two hA
  have ar0 := Arg.wrap noteI Try.underlying24 ⟨rfl, rfl⟩ (by kernel_rfl) (by kernel_rfl) Try.underlying22 (by kernel_rfl) (show Try.prog.cellsOf 142 = 7 from by kernel_rfl) (by omega) hlt (hval 0 _ v0 rfl rfl) h0 (fun x hx => by simp [hx])
  have ar1 := Arg.wrap tempoI Try.underlying36 ⟨rfl, rfl⟩ (by kernel_rfl) (by kernel_rfl) Try.underlying34 (by kernel_rfl) (show Try.prog.cellsOf 151 = 3 from by kernel_rfl) (by omega) hlt (hval 1 _ v1 rfl rfl) h1 (fun x hx => by simp [hx])
  have R := AR.nil W
  obtain ⟨L0, μ0, _, R0, u0, rfl, B0, n0, c0, l0, rfl, hn0, hs0, hw0⟩ := R.next ar0
  have K0 := RdL.of_sl hn0 hs0 c0
  obtain ⟨L1, μ1, _, R1, u1, rfl, B1, n1, c1, l1, rfl, hn1, hs1, hw1⟩ := R0.next ar1
  have K1 := RdL.of_sl hn1 hs1 c1
  replace K0 := K0.up L1
  refine (law_end R1 (lawGatesOfScore_a  K0 hw0 K1 hw1) ).mono fun e W' ⟨he, hb⟩ => ?_
  subst he
  exact ⟨_, rfl, law_post rfl rfl (by kernel_rfl) rfl hW' hb⟩
theorem FnExactGatesOfScore_holds : Rows.FnExactGatesOfScoreSaid :=
  OpenClaim.holds_of_wide 4 Try.f4 rfl rfl rfl rfl rfl rfl rfl ⟨rfl, rfl, rfl, rfl, rfl⟩ rfl rfl rfl rfl rfl (by kernel_rfl) Try.func4 (by kernel_rfl)
    (of_decide_eq_true (by kernel_rfl)) (by unfold Func.isWrapper; first | (rw [if_pos (by decide +kernel)]; kernel_rfl) | (rw [if_neg (by decide +kernel)]; exact ⟨rfl, rfl⟩))
    (fun os started H enc _ => FnExactGatesOfScore_lifted os started H enc)
#print axioms FnExactGatesOfScore_holds
end Go.Proofs.Ytgaiejaegimilaa
