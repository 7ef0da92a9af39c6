/- For every input: the program's PerformLength returns what the reference's returns, leaves its arguments alone, and hands back memory of its own. No conditions. -/
import Derived.Test.YtgaiejaegimilaaQ14
namespace Go.Proofs.Ytgaiejaegimilaa
open Go.ChangeShapes Go.WideShapes Go.ChangeAt Go.RowKit
open Go.RowKit
set_option linter.unusedVariables false
set_option linter.unusedSimpArgs false
set_option maxRecDepth 100000
attribute [local simp] List.getElem?_cons_zero
attribute [local irreducible] awCond awCall awLoop awDraw ow retQ retC resQ Keeps

set_option maxHeartbeats 4000000 in
theorem lawPerformLength_a {M : Mem} {vaS : Value} {xaS : List Note} {vaT : Value} {xaT : List Tempo} (raS : RdL noteR 0 M.length M vaS xaS) (waS : ∀ a ∈ xaS, ∃ ys : List Int, a = noteI.of ys ∧ ys.length = 7 ∧ ∀ z ∈ ys, (Lit.int .i64 z).wf = true) (raT : RdL tempoR 0 M.length M vaT xaT) (waT : ∀ a ∈ xaT, ∃ ys : List Int, a = tempoI.of ys ∧ ys.length = 3 ∧ ∀ z ∈ ys, (Lit.int .i64 z).wf = true) : Det Try.prog M.length 5 [.agg #[vaS], .agg #[vaT]] M (.bool true) M := by
  have K0 := Keeps.refl M
  by_cases gaS : (1048576 : Int) < xaS.length
  · first | (refine det_fn Try.func5 rfl Try.ntmps5 Try.results5 rfl rfl rfl (by simp) ?_) | (refine det_fnC Try.func5 rfl Try.ntmps5 Try.results5 rfl rfl (by simp) ?_)
    simp
    have kb := keeps_app (M := M) [.live ⟨[vaS], true, true, 24, 1⟩, .live ⟨[vaT], true, true, 36, 1⟩]
    have nb := kb.len
    obtain ⟨M0, hM0⟩ : ∃ M0 : Mem, M0 = M ++ [.live ⟨[vaS], true, true, 24, 1⟩, .live ⟨[vaT], true, true, 36, 1⟩] := ⟨_, rfl⟩
    have qb : M0.length = M.length + 2 := by rw [hM0]; simp
    have baS : cellsAt M0 M.length 0 1 = some [vaS] := by rw [hM0]; simp
    have baT : cellsAt M0 (M.length + 1) 0 1 = some [vaT] := by rw [hM0]; simp
    rw [← hM0] at kb nb
    rw [← hM0]
    clear hM0
    replace raS := raS.keeps kb
    replace raT := raT.keeps kb
    replace K0 := kb
    refine awCall_det' (sz_Score_over raS (z := 1048576) (by omega) (by omega) (by omega)) (by omega) ?_
    simp [K0]
  have eaS : xaS.length ≤ 1048576 := by omega
  by_cases gaT : (1048576 - xaS.length : Int) < xaT.length
  · first | (refine det_fn Try.func5 rfl Try.ntmps5 Try.results5 rfl rfl rfl (by simp) ?_) | (refine det_fnC Try.func5 rfl Try.ntmps5 Try.results5 rfl rfl (by simp) ?_)
    simp
    have kb := keeps_app (M := M) [.live ⟨[vaS], true, true, 24, 1⟩, .live ⟨[vaT], true, true, 36, 1⟩]
    have nb := kb.len
    obtain ⟨M0, hM0⟩ : ∃ M0 : Mem, M0 = M ++ [.live ⟨[vaS], true, true, 24, 1⟩, .live ⟨[vaT], true, true, 36, 1⟩] := ⟨_, rfl⟩
    have qb : M0.length = M.length + 2 := by rw [hM0]; simp
    have baS : cellsAt M0 M.length 0 1 = some [vaS] := by rw [hM0]; simp
    have baT : cellsAt M0 (M.length + 1) 0 1 = some [vaT] := by rw [hM0]; simp
    rw [← hM0] at kb nb
    rw [← hM0]
    clear hM0
    replace raS := raS.keeps kb
    replace raT := raT.keeps kb
    replace K0 := kb
    refine awCall_det' (sz_Score raS (z := 1048576) (by omega) (by omega) (by omega)) (by omega) ?_
    try simp (disch := omega) [wrap_in, dec_neg, str_same, baS, cellsAt_app baS, baT, cellsAt_app baT]
    first | (refine awDraw_D 9 [[],[0],[],[2,1,0],[1,0,3,2],[4,1,0,3,2],[5,4,1,0,3,2],[5,4,1,0,3,2],[6,5,4,1,0,3,2],[7,5,4,1,0,3,2,8,6]] (by kernel_rfl) (by decide +kernel) ?_; try simp (disch := omega) [wrap_in, dec_neg, str_same, baS, cellsAt_app baS, baT, cellsAt_app baT]) | (refine awDraw_D 3 [[],[],[1],[0,2,1],[3,0,2,1]] (by kernel_rfl) (by decide +kernel) ?_; try simp (disch := omega) [wrap_in, dec_neg, str_same, baS, cellsAt_app baS, baT, cellsAt_app baT]) | (refine awDraw_D 3 [[],[],[1],[0,2,1],[3,0,2,1]] (by kernel_rfl) (by decide +kernel) ?_; try simp (disch := omega) [wrap_in, dec_neg, str_same, baS, cellsAt_app baS, baT, cellsAt_app baT]) | skip
    refine awCall_det' (sz_TempoMap_over raT (z := 1048576 - xaS.length) (by omega) (by omega) (by omega)) (by omega) ?_
    simp [K0]
  have eaT : xaT.length ≤ 1048576 := by omega
  first | (refine det_fn Try.func5 rfl Try.ntmps5 Try.results5 rfl rfl rfl (by simp) ?_) | (refine det_fnC Try.func5 rfl Try.ntmps5 Try.results5 rfl rfl (by simp) ?_)
  simp
  have kb := keeps_app (M := M) [.live ⟨[vaS], true, true, 24, 1⟩, .live ⟨[vaT], true, true, 36, 1⟩]
  have nb := kb.len
  obtain ⟨M0, hM0⟩ : ∃ M0 : Mem, M0 = M ++ [.live ⟨[vaS], true, true, 24, 1⟩, .live ⟨[vaT], true, true, 36, 1⟩] := ⟨_, rfl⟩
  have qb : M0.length = M.length + 2 := by rw [hM0]; simp
  have baS : cellsAt M0 M.length 0 1 = some [vaS] := by rw [hM0]; simp
  have baT : cellsAt M0 (M.length + 1) 0 1 = some [vaT] := by rw [hM0]; simp
  rw [← hM0] at kb nb
  rw [← hM0]
  clear hM0
  replace raS := raS.keeps kb
  replace raT := raT.keeps kb
  replace K0 := kb
  refine awCall_det' (sz_Score raS (z := 1048576) (by omega) (by omega) (by omega)) (by omega) ?_
  try simp (disch := omega) [wrap_in, dec_neg, str_same, baS, cellsAt_app baS, baT, cellsAt_app baT]
  first | (refine awDraw_D 9 [[],[0],[],[2,1,0],[1,0,3,2],[4,1,0,3,2],[5,4,1,0,3,2],[5,4,1,0,3,2],[6,5,4,1,0,3,2],[7,5,4,1,0,3,2,8,6]] (by kernel_rfl) (by decide +kernel) ?_; try simp (disch := omega) [wrap_in, dec_neg, str_same, baS, cellsAt_app baS, baT, cellsAt_app baT]) | (refine awDraw_D 3 [[],[],[1],[0,2,1],[3,0,2,1]] (by kernel_rfl) (by decide +kernel) ?_; try simp (disch := omega) [wrap_in, dec_neg, str_same, baS, cellsAt_app baS, baT, cellsAt_app baT]) | (refine awDraw_D 3 [[],[],[1],[0,2,1],[3,0,2,1]] (by kernel_rfl) (by decide +kernel) ?_; try simp (disch := omega) [wrap_in, dec_neg, str_same, baS, cellsAt_app baS, baT, cellsAt_app baT]) | skip
  refine awCall_det' (sz_TempoMap raT (z := 1048576 - xaS.length) (by omega) (by omega) (by omega)) (by omega) ?_
  try simp (disch := omega) [wrap_in, dec_neg, str_same, baS, cellsAt_app baS, baT, cellsAt_app baT]
  first | (refine awDraw_D 9 [[],[0],[],[2,1,0],[1,0,3,2],[4,1,0,3,2],[5,4,1,0,3,2],[5,4,1,0,3,2],[6,5,4,1,0,3,2],[7,5,4,1,0,3,2,8,6]] (by kernel_rfl) (by decide +kernel) ?_; try simp (disch := omega) [wrap_in, dec_neg, str_same, baS, cellsAt_app baS, baT, cellsAt_app baT]) | (refine awDraw_D 3 [[],[],[1],[0,2,1],[3,0,2,1]] (by kernel_rfl) (by decide +kernel) ?_; try simp (disch := omega) [wrap_in, dec_neg, str_same, baS, cellsAt_app baS, baT, cellsAt_app baT]) | (refine awDraw_D 3 [[],[],[1],[0,2,1],[3,0,2,1]] (by kernel_rfl) (by decide +kernel) ?_; try simp (disch := omega) [wrap_in, dec_neg, str_same, baS, cellsAt_app baS, baT, cellsAt_app baT]) | skip
  obtain ⟨u_t1, N1, d1, r_t1⟩ := to_Score_d raS eaS
  have o1 := r_t1.one
  first | (refine awCall_det' (d := true) d1 (by omega) ?_; simp (disch := omega) [wrap_in, dec_neg, str_same, baS, cellsAt_app baS, baT, cellsAt_app baT, o1]; obtain ⟨M1, hM1, k1⟩ : ∃ M' : Mem, M' = M0 ++ N1 ∧ Keeps M0 M' := ⟨_, rfl, keeps_app _⟩; rw [← hM1] at r_t1; rw [← hM1]) | (refine awCall_det' (d := false) d1 (by omega) ?_; obtain ⟨M1, hM1, k1⟩ : ∃ M' : Mem, M' = M0 ++ N1 ∧ Keeps M0 M' := ⟨_, rfl, keeps_app _⟩; rw [← hM1] at r_t1; rw [← hM1]; skip)
  have n1 := k1.len
  have q1 : M1.length = M0.length + N1.length := by rw [hM1, List.length_append]
  replace raS := raS.keeps k1
  replace raT := raT.keeps k1
  have K1 := K0.trans k1
  replace baS := cellsAt_keeps k1 baS
  replace baT := cellsAt_keeps k1 baT
  clear k1 d1
  try simp (disch := omega) [wrap_in, dec_neg, str_same, baS, cellsAt_app baS, baT, cellsAt_app baT, o1]
  first | (refine awDraw_D 9 [[],[0],[],[2,1,0],[1,0,3,2],[4,1,0,3,2],[5,4,1,0,3,2],[5,4,1,0,3,2],[6,5,4,1,0,3,2],[7,5,4,1,0,3,2,8,6]] (by kernel_rfl) (by decide +kernel) ?_; try simp (disch := omega) [wrap_in, dec_neg, str_same, baS, cellsAt_app baS, baT, cellsAt_app baT, o1]) | (refine awDraw_D 3 [[],[],[1],[0,2,1],[3,0,2,1]] (by kernel_rfl) (by decide +kernel) ?_; try simp (disch := omega) [wrap_in, dec_neg, str_same, baS, cellsAt_app baS, baT, cellsAt_app baT, o1]) | (refine awDraw_D 3 [[],[],[1],[0,2,1],[3,0,2,1]] (by kernel_rfl) (by decide +kernel) ?_; try simp (disch := omega) [wrap_in, dec_neg, str_same, baS, cellsAt_app baS, baT, cellsAt_app baT, o1]) | skip
  obtain ⟨u_t2, N2, d2, r_t2⟩ := to_TempoMap_d raT eaT
  have o2 := r_t2.one
  first | (refine awCall_det' (d := true) d2 (by omega) ?_; refine ⟨N2, by rw [hM1, List.append_assoc], ?_⟩; have e2 : M0 ++ (N1 ++ N2) = M1 ++ N2 := (by rw [hM1, List.append_assoc]); obtain ⟨M2, hM2, k2⟩ : ∃ M' : Mem, M' = M1 ++ N2 ∧ Keeps M1 M' := ⟨_, rfl, keeps_app _⟩; rw [← hM2] at r_t2; rw [e2, ← hM2]) | (refine awCall_det' (d := true) d2 (by omega) ?_; simp (disch := omega) [wrap_in, dec_neg, str_same, baS, cellsAt_app baS, baT, cellsAt_app baT, o1, o2]; obtain ⟨M2, hM2, k2⟩ : ∃ M' : Mem, M' = M1 ++ N2 ∧ Keeps M1 M' := ⟨_, rfl, keeps_app _⟩; rw [← hM2] at r_t2; rw [← hM2]) | (refine awCall_det' (d := false) d2 (by omega) ?_; obtain ⟨M2, hM2, k2⟩ : ∃ M' : Mem, M' = M1 ++ N2 ∧ Keeps M1 M' := ⟨_, rfl, keeps_app _⟩; rw [← hM2] at r_t2; rw [← hM2]; skip)
  have n2 := k2.len
  have q2 : M2.length = M1.length + N2.length := by rw [hM2, List.length_append]
  replace raS := raS.keeps k2
  replace raT := raT.keeps k2
  replace r_t1 := r_t1.keeps k2
  have K2 := K1.trans k2
  replace baS := cellsAt_keeps k2 baS
  replace baT := cellsAt_keeps k2 baT
  clear k2 d2
  try simp (disch := omega) [wrap_in, dec_neg, str_same, baS, cellsAt_app baS, baT, cellsAt_app baT, o1, o2]
  first | (refine awDraw_D 9 [[],[0],[],[2,1,0],[1,0,3,2],[4,1,0,3,2],[5,4,1,0,3,2],[5,4,1,0,3,2],[6,5,4,1,0,3,2],[7,5,4,1,0,3,2,8,6]] (by kernel_rfl) (by decide +kernel) ?_; try simp (disch := omega) [wrap_in, dec_neg, str_same, baS, cellsAt_app baS, baT, cellsAt_app baT, o1, o2]) | (refine awDraw_D 3 [[],[],[1],[0,2,1],[3,0,2,1]] (by kernel_rfl) (by decide +kernel) ?_; try simp (disch := omega) [wrap_in, dec_neg, str_same, baS, cellsAt_app baS, baT, cellsAt_app baT, o1, o2]) | (refine awDraw_D 3 [[],[],[1],[0,2,1],[3,0,2,1]] (by kernel_rfl) (by decide +kernel) ?_; try simp (disch := omega) [wrap_in, dec_neg, str_same, baS, cellsAt_app baS, baT, cellsAt_app baT, o1, o2]) | skip
  refine awCall_det' (PerformLength_sl r_t1.rd r_t2.rd eaS eaT) (by omega) ?_
  try refine ⟨[], by simp [hM2, hM1], ?_⟩
  try simp (disch := omega) [wrap_in, dec_neg, str_same, baS, cellsAt_app baS, baT, cellsAt_app baT, o1, o2]
  first | (refine awDraw_D 9 [[],[0],[],[2,1,0],[1,0,3,2],[4,1,0,3,2],[5,4,1,0,3,2],[5,4,1,0,3,2],[6,5,4,1,0,3,2],[7,5,4,1,0,3,2,8,6]] (by kernel_rfl) (by decide +kernel) ?_; try simp (disch := omega) [wrap_in, dec_neg, str_same, baS, cellsAt_app baS, baT, cellsAt_app baT, o1, o2]) | (refine awDraw_D 3 [[],[],[1],[0,2,1],[3,0,2,1]] (by kernel_rfl) (by decide +kernel) ?_; try simp (disch := omega) [wrap_in, dec_neg, str_same, baS, cellsAt_app baS, baT, cellsAt_app baT, o1, o2]) | (refine awDraw_D 3 [[],[],[1],[0,2,1],[3,0,2,1]] (by kernel_rfl) (by decide +kernel) ?_; try simp (disch := omega) [wrap_in, dec_neg, str_same, baS, cellsAt_app baS, baT, cellsAt_app baT, o1, o2]) | skip
  have e_2 : M0 ++ (N1 ++ N2) = M2 := by rw [hM2, hM1, List.append_assoc]
  try simp only [List.append_nil]
  try simp only [e_2]
  try simp (disch := omega) [wrap_in, dec_neg, str_same, baS, cellsAt_app baS, baT, cellsAt_app baT, o1, o2]
  first | (refine awDraw_D 9 [[],[0],[],[2,1,0],[1,0,3,2],[4,1,0,3,2],[5,4,1,0,3,2],[5,4,1,0,3,2],[6,5,4,1,0,3,2],[7,5,4,1,0,3,2,8,6]] (by kernel_rfl) (by decide +kernel) ?_; try simp (disch := omega) [wrap_in, dec_neg, str_same, baS, cellsAt_app baS, baT, cellsAt_app baT, o1, o2]) | (refine awDraw_D 3 [[],[],[1],[0,2,1],[3,0,2,1]] (by kernel_rfl) (by decide +kernel) ?_; try simp (disch := omega) [wrap_in, dec_neg, str_same, baS, cellsAt_app baS, baT, cellsAt_app baT, o1, o2]) | (refine awDraw_D 3 [[],[],[1],[0,2,1],[3,0,2,1]] (by kernel_rfl) (by decide +kernel) ?_; try simp (disch := omega) [wrap_in, dec_neg, str_same, baS, cellsAt_app baS, baT, cellsAt_app baT, o1, o2]) | skip
  try simp only [e_2]
  obtain ⟨u_t3, N3, d3, r_t3⟩ := to_Score_d raS eaS
  have o3 := r_t3.one
  first | (refine awCall_det' (d := true) d3 (by omega) ?_; refine ⟨N3, by rw [hM2, List.append_assoc], ?_⟩; have e3 : M1 ++ (N2 ++ N3) = M2 ++ N3 := (by rw [hM2, List.append_assoc]); obtain ⟨M3, hM3, k3⟩ : ∃ M' : Mem, M' = M2 ++ N3 ∧ Keeps M2 M' := ⟨_, rfl, keeps_app _⟩; rw [← hM3] at r_t3; rw [e3, ← hM3]) | (refine awCall_det' (d := true) d3 (by omega) ?_; simp (disch := omega) [wrap_in, dec_neg, str_same, baS, cellsAt_app baS, baT, cellsAt_app baT, o1, o2, o3]; obtain ⟨M3, hM3, k3⟩ : ∃ M' : Mem, M' = M2 ++ N3 ∧ Keeps M2 M' := ⟨_, rfl, keeps_app _⟩; rw [← hM3] at r_t3; rw [← hM3]) | (refine awCall_det' (d := false) d3 (by omega) ?_; obtain ⟨M3, hM3, k3⟩ : ∃ M' : Mem, M' = M2 ++ N3 ∧ Keeps M2 M' := ⟨_, rfl, keeps_app _⟩; rw [← hM3] at r_t3; rw [← hM3]; skip)
  have n3 := k3.len
  have q3 : M3.length = M2.length + N3.length := by rw [hM3, List.length_append]
  replace raS := raS.keeps k3
  replace raT := raT.keeps k3
  replace r_t1 := r_t1.keeps k3
  replace r_t2 := r_t2.keeps k3
  have K3 := K2.trans k3
  replace baS := cellsAt_keeps k3 baS
  replace baT := cellsAt_keeps k3 baT
  clear k3 d3
  try simp (disch := omega) [wrap_in, dec_neg, str_same, baS, cellsAt_app baS, baT, cellsAt_app baT, o1, o2, o3]
  first | (refine awDraw_D 9 [[],[0],[],[2,1,0],[1,0,3,2],[4,1,0,3,2],[5,4,1,0,3,2],[5,4,1,0,3,2],[6,5,4,1,0,3,2],[7,5,4,1,0,3,2,8,6]] (by kernel_rfl) (by decide +kernel) ?_; try simp (disch := omega) [wrap_in, dec_neg, str_same, baS, cellsAt_app baS, baT, cellsAt_app baT, o1, o2, o3]) | (refine awDraw_D 3 [[],[],[1],[0,2,1],[3,0,2,1]] (by kernel_rfl) (by decide +kernel) ?_; try simp (disch := omega) [wrap_in, dec_neg, str_same, baS, cellsAt_app baS, baT, cellsAt_app baT, o1, o2, o3]) | (refine awDraw_D 3 [[],[],[1],[0,2,1],[3,0,2,1]] (by kernel_rfl) (by decide +kernel) ?_; try simp (disch := omega) [wrap_in, dec_neg, str_same, baS, cellsAt_app baS, baT, cellsAt_app baT, o1, o2, o3]) | skip
  obtain ⟨M4, hM4⟩ : ∃ M' : Mem, M' = M3 ++ [.live ⟨[u_t3], true, true, 30, 1⟩] := ⟨_, rfl⟩
  have bx0 : cellsAt M4 M3.length 0 1 = some [u_t3] := by rw [hM4]; simp
  have k4 : Keeps M3 M4 := by rw [hM4]; exact keeps_app _
  have n4 : M4.length = M3.length + 1 := by rw [hM4]; simp
  rw [← hM4]
  replace raS := raS.keeps k4
  replace raT := raT.keeps k4
  replace r_t1 := r_t1.keeps k4
  replace r_t2 := r_t2.keeps k4
  replace r_t3 := r_t3.keeps k4
  have K4 := K3.trans k4
  replace baS := cellsAt_keeps k4 baS
  replace baT := cellsAt_keeps k4 baT
  clear k4 hM4
  try simp (disch := omega) [wrap_in, dec_neg, str_same, baS, cellsAt_app baS, baT, cellsAt_app baT, bx0, cellsAt_app bx0, o1, o2, o3]
  first | (refine awDraw_D 9 [[],[0],[],[2,1,0],[1,0,3,2],[4,1,0,3,2],[5,4,1,0,3,2],[5,4,1,0,3,2],[6,5,4,1,0,3,2],[7,5,4,1,0,3,2,8,6]] (by kernel_rfl) (by decide +kernel) ?_; try simp (disch := omega) [wrap_in, dec_neg, str_same, baS, cellsAt_app baS, baT, cellsAt_app baT, bx0, cellsAt_app bx0, o1, o2, o3]) | (refine awDraw_D 3 [[],[],[1],[0,2,1],[3,0,2,1]] (by kernel_rfl) (by decide +kernel) ?_; try simp (disch := omega) [wrap_in, dec_neg, str_same, baS, cellsAt_app baS, baT, cellsAt_app baT, bx0, cellsAt_app bx0, o1, o2, o3]) | (refine awDraw_D 3 [[],[],[1],[0,2,1],[3,0,2,1]] (by kernel_rfl) (by decide +kernel) ?_; try simp (disch := omega) [wrap_in, dec_neg, str_same, baS, cellsAt_app baS, baT, cellsAt_app baT, bx0, cellsAt_app bx0, o1, o2, o3]) | skip
  obtain ⟨u_t5, N5, d5, r_t5⟩ := to_TempoMap_d raT eaT
  have o5 := r_t5.one
  first | (refine awCall_det' (d := true) d5 (by omega) ?_; refine ⟨N5, by rw [hM4, List.append_assoc], ?_⟩; have e5 : M2 ++ (N4 ++ N5) = M4 ++ N5 := (by rw [hM4, List.append_assoc]); obtain ⟨M5, hM5, k5⟩ : ∃ M' : Mem, M' = M4 ++ N5 ∧ Keeps M4 M' := ⟨_, rfl, keeps_app _⟩; rw [← hM5] at r_t5; rw [e5, ← hM5]) | (refine awCall_det' (d := true) d5 (by omega) ?_; simp (disch := omega) [wrap_in, dec_neg, str_same, baS, cellsAt_app baS, baT, cellsAt_app baT, bx0, cellsAt_app bx0, o1, o2, o3, o5]; obtain ⟨M5, hM5, k5⟩ : ∃ M' : Mem, M' = M4 ++ N5 ∧ Keeps M4 M' := ⟨_, rfl, keeps_app _⟩; rw [← hM5] at r_t5; rw [← hM5]) | (refine awCall_det' (d := false) d5 (by omega) ?_; obtain ⟨M5, hM5, k5⟩ : ∃ M' : Mem, M' = M4 ++ N5 ∧ Keeps M4 M' := ⟨_, rfl, keeps_app _⟩; rw [← hM5] at r_t5; rw [← hM5]; skip)
  have n5 := k5.len
  have q5 : M5.length = M4.length + N5.length := by rw [hM5, List.length_append]
  replace raS := raS.keeps k5
  replace raT := raT.keeps k5
  replace r_t1 := r_t1.keeps k5
  replace r_t2 := r_t2.keeps k5
  replace r_t3 := r_t3.keeps k5
  have K5 := K4.trans k5
  replace baS := cellsAt_keeps k5 baS
  replace baT := cellsAt_keeps k5 baT
  replace bx0 := cellsAt_keeps k5 bx0
  clear k5 d5
  try simp (disch := omega) [wrap_in, dec_neg, str_same, baS, cellsAt_app baS, baT, cellsAt_app baT, bx0, cellsAt_app bx0, o1, o2, o3, o5]
  first | (refine awDraw_D 9 [[],[0],[],[2,1,0],[1,0,3,2],[4,1,0,3,2],[5,4,1,0,3,2],[5,4,1,0,3,2],[6,5,4,1,0,3,2],[7,5,4,1,0,3,2,8,6]] (by kernel_rfl) (by decide +kernel) ?_; try simp (disch := omega) [wrap_in, dec_neg, str_same, baS, cellsAt_app baS, baT, cellsAt_app baT, bx0, cellsAt_app bx0, o1, o2, o3, o5]) | (refine awDraw_D 3 [[],[],[1],[0,2,1],[3,0,2,1]] (by kernel_rfl) (by decide +kernel) ?_; try simp (disch := omega) [wrap_in, dec_neg, str_same, baS, cellsAt_app baS, baT, cellsAt_app baT, bx0, cellsAt_app bx0, o1, o2, o3, o5]) | (refine awDraw_D 3 [[],[],[1],[0,2,1],[3,0,2,1]] (by kernel_rfl) (by decide +kernel) ?_; try simp (disch := omega) [wrap_in, dec_neg, str_same, baS, cellsAt_app baS, baT, cellsAt_app baT, bx0, cellsAt_app bx0, o1, o2, o3, o5]) | skip
  obtain ⟨M6, hM6⟩ : ∃ M' : Mem, M' = M5 ++ [.live ⟨[u_t5], true, true, 43, 1⟩] := ⟨_, rfl⟩
  have bx1 : cellsAt M6 M5.length 0 1 = some [u_t5] := by rw [hM6]; simp
  have k6 : Keeps M5 M6 := by rw [hM6]; exact keeps_app _
  have n6 : M6.length = M5.length + 1 := by rw [hM6]; simp
  rw [← hM6]
  replace raS := raS.keeps k6
  replace raT := raT.keeps k6
  replace r_t1 := r_t1.keeps k6
  replace r_t2 := r_t2.keeps k6
  replace r_t3 := r_t3.keeps k6
  replace r_t5 := r_t5.keeps k6
  have K6 := K5.trans k6
  replace baS := cellsAt_keeps k6 baS
  replace baT := cellsAt_keeps k6 baT
  replace bx0 := cellsAt_keeps k6 bx0
  clear k6 hM6
  try simp (disch := omega) [wrap_in, dec_neg, str_same, baS, cellsAt_app baS, baT, cellsAt_app baT, bx0, cellsAt_app bx0, bx1, cellsAt_app bx1, o1, o2, o3, o5]
  first | (refine awDraw_D 9 [[],[0],[],[2,1,0],[1,0,3,2],[4,1,0,3,2],[5,4,1,0,3,2],[5,4,1,0,3,2],[6,5,4,1,0,3,2],[7,5,4,1,0,3,2,8,6]] (by kernel_rfl) (by decide +kernel) ?_; try simp (disch := omega) [wrap_in, dec_neg, str_same, baS, cellsAt_app baS, baT, cellsAt_app baT, bx0, cellsAt_app bx0, bx1, cellsAt_app bx1, o1, o2, o3, o5]) | (refine awDraw_D 3 [[],[],[1],[0,2,1],[3,0,2,1]] (by kernel_rfl) (by decide +kernel) ?_; try simp (disch := omega) [wrap_in, dec_neg, str_same, baS, cellsAt_app baS, baT, cellsAt_app baT, bx0, cellsAt_app bx0, bx1, cellsAt_app bx1, o1, o2, o3, o5]) | (refine awDraw_D 3 [[],[],[1],[0,2,1],[3,0,2,1]] (by kernel_rfl) (by decide +kernel) ?_; try simp (disch := omega) [wrap_in, dec_neg, str_same, baS, cellsAt_app baS, baT, cellsAt_app baT, bx0, cellsAt_app bx0, bx1, cellsAt_app bx1, o1, o2, o3, o5]) | skip
  refine awCall_det' (PerformLength_il r_t3.rd r_t5.rd eaS eaT) (by omega) ?_
  try refine ⟨[], by simp [hM6, hM5], ?_⟩
  try simp (disch := omega) [wrap_in, dec_neg, str_same, baS, cellsAt_app baS, baT, cellsAt_app baT, bx0, cellsAt_app bx0, bx1, cellsAt_app bx1, o1, o2, o3, o5]
  first | (refine awDraw_D 9 [[],[0],[],[2,1,0],[1,0,3,2],[4,1,0,3,2],[5,4,1,0,3,2],[5,4,1,0,3,2],[6,5,4,1,0,3,2],[7,5,4,1,0,3,2,8,6]] (by kernel_rfl) (by decide +kernel) ?_; try simp (disch := omega) [wrap_in, dec_neg, str_same, baS, cellsAt_app baS, baT, cellsAt_app baT, bx0, cellsAt_app bx0, bx1, cellsAt_app bx1, o1, o2, o3, o5]) | (refine awDraw_D 3 [[],[],[1],[0,2,1],[3,0,2,1]] (by kernel_rfl) (by decide +kernel) ?_; try simp (disch := omega) [wrap_in, dec_neg, str_same, baS, cellsAt_app baS, baT, cellsAt_app baT, bx0, cellsAt_app bx0, bx1, cellsAt_app bx1, o1, o2, o3, o5]) | (refine awDraw_D 3 [[],[],[1],[0,2,1],[3,0,2,1]] (by kernel_rfl) (by decide +kernel) ?_; try simp (disch := omega) [wrap_in, dec_neg, str_same, baS, cellsAt_app baS, baT, cellsAt_app baT, bx0, cellsAt_app bx0, bx1, cellsAt_app bx1, o1, o2, o3, o5]) | skip
  obtain ⟨u_t7, N7, d7, r_t7⟩ := to_Score_d raS eaS
  have o7 := r_t7.one
  first | (refine awCall_det' (d := true) d7 (by omega) ?_; refine ⟨N7, by rw [hM6, List.append_assoc], ?_⟩; have e7 : M4 ++ (N6 ++ N7) = M6 ++ N7 := (by rw [hM6, List.append_assoc]); obtain ⟨M7, hM7, k7⟩ : ∃ M' : Mem, M' = M6 ++ N7 ∧ Keeps M6 M' := ⟨_, rfl, keeps_app _⟩; rw [← hM7] at r_t7; rw [e7, ← hM7]) | (refine awCall_det' (d := true) d7 (by omega) ?_; simp (disch := omega) [wrap_in, dec_neg, str_same, baS, cellsAt_app baS, baT, cellsAt_app baT, bx0, cellsAt_app bx0, bx1, cellsAt_app bx1, o1, o2, o3, o5, o7]; obtain ⟨M7, hM7, k7⟩ : ∃ M' : Mem, M' = M6 ++ N7 ∧ Keeps M6 M' := ⟨_, rfl, keeps_app _⟩; rw [← hM7] at r_t7; rw [← hM7]) | (refine awCall_det' (d := false) d7 (by omega) ?_; obtain ⟨M7, hM7, k7⟩ : ∃ M' : Mem, M' = M6 ++ N7 ∧ Keeps M6 M' := ⟨_, rfl, keeps_app _⟩; rw [← hM7] at r_t7; rw [← hM7]; skip)
  have n7 := k7.len
  have q7 : M7.length = M6.length + N7.length := by rw [hM7, List.length_append]
  replace raS := raS.keeps k7
  replace raT := raT.keeps k7
  replace r_t1 := r_t1.keeps k7
  replace r_t2 := r_t2.keeps k7
  replace r_t3 := r_t3.keeps k7
  replace r_t5 := r_t5.keeps k7
  have K7 := K6.trans k7
  replace baS := cellsAt_keeps k7 baS
  replace baT := cellsAt_keeps k7 baT
  replace bx0 := cellsAt_keeps k7 bx0
  replace bx1 := cellsAt_keeps k7 bx1
  clear k7 d7
  try simp (disch := omega) [wrap_in, dec_neg, str_same, baS, cellsAt_app baS, baT, cellsAt_app baT, bx0, cellsAt_app bx0, bx1, cellsAt_app bx1, o1, o2, o3, o5, o7]
  first | (refine awDraw_D 9 [[],[0],[],[2,1,0],[1,0,3,2],[4,1,0,3,2],[5,4,1,0,3,2],[5,4,1,0,3,2],[6,5,4,1,0,3,2],[7,5,4,1,0,3,2,8,6]] (by kernel_rfl) (by decide +kernel) ?_; try simp (disch := omega) [wrap_in, dec_neg, str_same, baS, cellsAt_app baS, baT, cellsAt_app baT, bx0, cellsAt_app bx0, bx1, cellsAt_app bx1, o1, o2, o3, o5, o7]) | (refine awDraw_D 3 [[],[],[1],[0,2,1],[3,0,2,1]] (by kernel_rfl) (by decide +kernel) ?_; try simp (disch := omega) [wrap_in, dec_neg, str_same, baS, cellsAt_app baS, baT, cellsAt_app baT, bx0, cellsAt_app bx0, bx1, cellsAt_app bx1, o1, o2, o3, o5, o7]) | (refine awDraw_D 3 [[],[],[1],[0,2,1],[3,0,2,1]] (by kernel_rfl) (by decide +kernel) ?_; try simp (disch := omega) [wrap_in, dec_neg, str_same, baS, cellsAt_app baS, baT, cellsAt_app baT, bx0, cellsAt_app bx0, bx1, cellsAt_app bx1, o1, o2, o3, o5, o7]) | skip
  refine awCall_det' (eq_Score r_t3 r_t7.rd) (by omega) ?_
  try simp (disch := omega) [wrap_in, dec_neg, str_same, baS, cellsAt_app baS, baT, cellsAt_app baT, bx0, cellsAt_app bx0, bx1, cellsAt_app bx1, o1, o2, o3, o5, o7]
  first | (refine awDraw_D 9 [[],[0],[],[2,1,0],[1,0,3,2],[4,1,0,3,2],[5,4,1,0,3,2],[5,4,1,0,3,2],[6,5,4,1,0,3,2],[7,5,4,1,0,3,2,8,6]] (by kernel_rfl) (by decide +kernel) ?_; try simp (disch := omega) [wrap_in, dec_neg, str_same, baS, cellsAt_app baS, baT, cellsAt_app baT, bx0, cellsAt_app bx0, bx1, cellsAt_app bx1, o1, o2, o3, o5, o7]) | (refine awDraw_D 3 [[],[],[1],[0,2,1],[3,0,2,1]] (by kernel_rfl) (by decide +kernel) ?_; try simp (disch := omega) [wrap_in, dec_neg, str_same, baS, cellsAt_app baS, baT, cellsAt_app baT, bx0, cellsAt_app bx0, bx1, cellsAt_app bx1, o1, o2, o3, o5, o7]) | (refine awDraw_D 3 [[],[],[1],[0,2,1],[3,0,2,1]] (by kernel_rfl) (by decide +kernel) ?_; try simp (disch := omega) [wrap_in, dec_neg, str_same, baS, cellsAt_app baS, baT, cellsAt_app baT, bx0, cellsAt_app bx0, bx1, cellsAt_app bx1, o1, o2, o3, o5, o7]) | skip
  obtain ⟨u_t8, N8, d8, r_t8⟩ := to_TempoMap_d raT eaT
  have o8 := r_t8.one
  first | (refine awCall_det' (d := true) d8 (by omega) ?_; refine ⟨N8, by rw [hM7, List.append_assoc], ?_⟩; have e8 : M6 ++ (N7 ++ N8) = M7 ++ N8 := (by rw [hM7, List.append_assoc]); obtain ⟨M8, hM8, k8⟩ : ∃ M' : Mem, M' = M7 ++ N8 ∧ Keeps M7 M' := ⟨_, rfl, keeps_app _⟩; rw [← hM8] at r_t8; rw [e8, ← hM8]) | (refine awCall_det' (d := true) d8 (by omega) ?_; simp (disch := omega) [wrap_in, dec_neg, str_same, baS, cellsAt_app baS, baT, cellsAt_app baT, bx0, cellsAt_app bx0, bx1, cellsAt_app bx1, o1, o2, o3, o5, o7, o8]; obtain ⟨M8, hM8, k8⟩ : ∃ M' : Mem, M' = M7 ++ N8 ∧ Keeps M7 M' := ⟨_, rfl, keeps_app _⟩; rw [← hM8] at r_t8; rw [← hM8]) | (refine awCall_det' (d := false) d8 (by omega) ?_; obtain ⟨M8, hM8, k8⟩ : ∃ M' : Mem, M' = M7 ++ N8 ∧ Keeps M7 M' := ⟨_, rfl, keeps_app _⟩; rw [← hM8] at r_t8; rw [← hM8]; skip)
  have n8 := k8.len
  have q8 : M8.length = M7.length + N8.length := by rw [hM8, List.length_append]
  replace raS := raS.keeps k8
  replace raT := raT.keeps k8
  replace r_t1 := r_t1.keeps k8
  replace r_t2 := r_t2.keeps k8
  replace r_t3 := r_t3.keeps k8
  replace r_t5 := r_t5.keeps k8
  replace r_t7 := r_t7.keeps k8
  have K8 := K7.trans k8
  replace baS := cellsAt_keeps k8 baS
  replace baT := cellsAt_keeps k8 baT
  replace bx0 := cellsAt_keeps k8 bx0
  replace bx1 := cellsAt_keeps k8 bx1
  clear k8 d8
  try simp (disch := omega) [wrap_in, dec_neg, str_same, baS, cellsAt_app baS, baT, cellsAt_app baT, bx0, cellsAt_app bx0, bx1, cellsAt_app bx1, o1, o2, o3, o5, o7, o8]
  first | (refine awDraw_D 9 [[],[0],[],[2,1,0],[1,0,3,2],[4,1,0,3,2],[5,4,1,0,3,2],[5,4,1,0,3,2],[6,5,4,1,0,3,2],[7,5,4,1,0,3,2,8,6]] (by kernel_rfl) (by decide +kernel) ?_; try simp (disch := omega) [wrap_in, dec_neg, str_same, baS, cellsAt_app baS, baT, cellsAt_app baT, bx0, cellsAt_app bx0, bx1, cellsAt_app bx1, o1, o2, o3, o5, o7, o8]) | (refine awDraw_D 3 [[],[],[1],[0,2,1],[3,0,2,1]] (by kernel_rfl) (by decide +kernel) ?_; try simp (disch := omega) [wrap_in, dec_neg, str_same, baS, cellsAt_app baS, baT, cellsAt_app baT, bx0, cellsAt_app bx0, bx1, cellsAt_app bx1, o1, o2, o3, o5, o7, o8]) | (refine awDraw_D 3 [[],[],[1],[0,2,1],[3,0,2,1]] (by kernel_rfl) (by decide +kernel) ?_; try simp (disch := omega) [wrap_in, dec_neg, str_same, baS, cellsAt_app baS, baT, cellsAt_app baT, bx0, cellsAt_app bx0, bx1, cellsAt_app bx1, o1, o2, o3, o5, o7, o8]) | skip
  refine awCall_det' (eq_TempoMap r_t5 r_t8.rd) (by omega) ?_
  try simp (disch := omega) [wrap_in, dec_neg, str_same, baS, cellsAt_app baS, baT, cellsAt_app baT, bx0, cellsAt_app bx0, bx1, cellsAt_app bx1, o1, o2, o3, o5, o7, o8]
  first | (refine awDraw_D 9 [[],[0],[],[2,1,0],[1,0,3,2],[4,1,0,3,2],[5,4,1,0,3,2],[5,4,1,0,3,2],[6,5,4,1,0,3,2],[7,5,4,1,0,3,2,8,6]] (by kernel_rfl) (by decide +kernel) ?_; try simp (disch := omega) [wrap_in, dec_neg, str_same, baS, cellsAt_app baS, baT, cellsAt_app baT, bx0, cellsAt_app bx0, bx1, cellsAt_app bx1, o1, o2, o3, o5, o7, o8]) | (refine awDraw_D 3 [[],[],[1],[0,2,1],[3,0,2,1]] (by kernel_rfl) (by decide +kernel) ?_; try simp (disch := omega) [wrap_in, dec_neg, str_same, baS, cellsAt_app baS, baT, cellsAt_app baT, bx0, cellsAt_app bx0, bx1, cellsAt_app bx1, o1, o2, o3, o5, o7, o8]) | (refine awDraw_D 3 [[],[],[1],[0,2,1],[3,0,2,1]] (by kernel_rfl) (by decide +kernel) ?_; try simp (disch := omega) [wrap_in, dec_neg, str_same, baS, cellsAt_app baS, baT, cellsAt_app baT, bx0, cellsAt_app bx0, bx1, cellsAt_app bx1, o1, o2, o3, o5, o7, o8]) | skip
  try simp [K8]
set_option maxRecDepth 100000 in
theorem FnExactPerformLength_lifted (os : Os) (started : os.Started) (H : Type) (enc : TypeId × Value → H) :
    ReturnsInHanded {} Try.checked os 5 .any (Rows.fnExactPerformLengthSpec.pre6 enc Try.prog Try.f5 Rows.fnExactPerformLengthRow.domain false) (Rows.fnExactPerformLengthSpec.post enc Try.prog Try.f5 false true false false) := by
  refine returnsInHanded_of_change (C := Try.checked) own_knob started (by kernel_rfl) Try.func5
    (ChangeSpec.witness6 (enc := enc) (C := Try.checked) false ⟨#[], #[.agg #[.slice none 0 0], .agg #[.slice none 0 0]], []⟩ 8 (by kernel_rfl) (by kernel_rfl) (by kernel_rfl) (by kernel_rfl)) ?_
  intro W base args ds gs before hval0 hW hcnd _
  have hval : ∀ (j : Nat) t v, Try.f5.params[j]? = some t → args[j]? = some v → Value.okWide Try.prog W .any base t v := hval0
  have hW' := hW
  have hlt := hW.lt
  obtain ⟨p, q, hA0, hV, rfl, hfz, hnd⟩ := hW
  have hA : DataW.TrodAll enc Try.prog W 0 (fun _ => true) true Try.f5.params.toList args.toList ds p := hA0
  rw [Try.params5] at hA hval
  obtain ⟨v0, v1, d0, d1, p0, p1, rfl, rfl, rfl, h0, h1⟩ := trodAll_two hA
  have ar0 := Arg.wrap noteI Try.underlying24 ⟨rfl, rfl⟩ (by kernel_rfl) (by kernel_rfl) Try.underlying22 (by kernel_rfl) (show Try.prog.cellsOf 142 = 7 from by kernel_rfl) (by omega) hlt (hval 0 _ v0 rfl rfl) h0 (fun x hx => by simp [hx])
  have ar1 := Arg.wrap tempoI Try.underlying36 ⟨rfl, rfl⟩ (by kernel_rfl) (by kernel_rfl) Try.underlying34 (by kernel_rfl) (show Try.prog.cellsOf 151 = 3 from by kernel_rfl) (by omega) hlt (hval 1 _ v1 rfl rfl) h1 (fun x hx => by simp [hx])
  have R := AR.nil W
  obtain ⟨L0, μ0, _, R0, u0, rfl, B0, n0, c0, l0, rfl, hn0, hs0, hw0⟩ := R.next ar0
  have K0 := RdL.of_sl hn0 hs0 c0
  obtain ⟨L1, μ1, _, R1, u1, rfl, B1, n1, c1, l1, rfl, hn1, hs1, hw1⟩ := R0.next ar1
  have K1 := RdL.of_sl hn1 hs1 c1
  replace K0 := K0.up L1
  refine (law_end R1 (lawPerformLength_a  K0 hw0 K1 hw1) ).mono fun e W' ⟨he, hb⟩ => ?_
  subst he
  exact ⟨_, rfl, law_post rfl rfl (by kernel_rfl) rfl hW' hb⟩
theorem FnExactPerformLength_holds : Rows.FnExactPerformLengthSaid :=
  OpenClaim.holds_of_wide 5 Try.f5 rfl rfl rfl rfl rfl rfl rfl ⟨rfl, rfl, rfl, rfl, rfl⟩ rfl rfl rfl rfl rfl (by kernel_rfl) Try.func5 (by kernel_rfl)
    (of_decide_eq_true (by kernel_rfl)) (by unfold Func.isWrapper; first | (rw [if_pos (by decide +kernel)]; kernel_rfl) | (rw [if_neg (by decide +kernel)]; exact ⟨rfl, rfl⟩))
    (fun os started H enc _ => FnExactPerformLength_lifted os started H enc)
#print axioms FnExactPerformLength_holds
end Go.Proofs.Ytgaiejaegimilaa
