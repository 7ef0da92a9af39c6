/- For every input: the program's SameCurve returns what the reference's returns, leaves its arguments alone, and hands back memory of its own. No conditions. -/
import Derived.Test.YtaacgipfmmomiaaK2
namespace Go.Proofs.Ytaacgipfmmomiaa
open Go.ChangeShapes Go.WideShapes Go.ChangeAt Go.RowKit
open Go.RowKit
set_option linter.unusedVariables false
set_option linter.unusedSimpArgs false
set_option maxRecDepth 100000
attribute [local simp] List.getElem?_cons_zero
attribute [local irreducible] awCond awCall awLoop awDraw ow retQ retC resQ Keeps

set_option maxHeartbeats 4000000 in
theorem lawSameCurve_a {M : Mem} {vaA : Value} {xaA : List CurvePoint} {vaB : Value} {xaB : List CurvePoint} (raA : RdL curvePointR 0 M.length M vaA xaA) (waA : ∀ a ∈ xaA, ∃ ys : List Int, a = curvePointI.of ys ∧ ys.length = 2 ∧ ∀ z ∈ ys, (Lit.int .i64 z).wf = true) (raB : RdL curvePointR 0 M.length M vaB xaB) (waB : ∀ a ∈ xaB, ∃ ys : List Int, a = curvePointI.of ys ∧ ys.length = 2 ∧ ∀ z ∈ ys, (Lit.int .i64 z).wf = true) : Det Try.prog M.length 6 [.agg #[vaA], .agg #[vaB]] M (.bool true) M := by
  have K0 := Keeps.refl M
  by_cases gaA : (1048576 : Int) < xaA.length
  · first | (refine det_fn Try.func6 rfl Try.ntmps6 Try.results6 rfl rfl rfl (by simp) ?_) | (refine det_fnC Try.func6 rfl Try.ntmps6 Try.results6 rfl rfl (by simp) ?_)
    simp
    have kb := keeps_app (M := M) [.live ⟨[vaA], true, true, 38, 1⟩, .live ⟨[vaB], true, true, 38, 1⟩]
    have nb := kb.len
    obtain ⟨M0, hM0⟩ : ∃ M0 : Mem, M0 = M ++ [.live ⟨[vaA], true, true, 38, 1⟩, .live ⟨[vaB], true, true, 38, 1⟩] := ⟨_, rfl⟩
    have qb : M0.length = M.length + 2 := by rw [hM0]; simp
    have baA : cellsAt M0 M.length 0 1 = some [vaA] := by rw [hM0]; simp
    have baB : cellsAt M0 (M.length + 1) 0 1 = some [vaB] := by rw [hM0]; simp
    rw [← hM0] at kb nb
    rw [← hM0]
    clear hM0
    replace raA := raA.keeps kb
    replace raB := raB.keeps kb
    replace K0 := kb
    refine awCall_det' (sz_Curve_over raA (z := 1048576) (by omega) (by omega) (by omega)) (by omega) ?_
    simp [K0]
  have eaA : xaA.length ≤ 1048576 := by omega
  by_cases gaB : (1048576 - xaA.length : Int) < xaB.length
  · first | (refine det_fn Try.func6 rfl Try.ntmps6 Try.results6 rfl rfl rfl (by simp) ?_) | (refine det_fnC Try.func6 rfl Try.ntmps6 Try.results6 rfl rfl (by simp) ?_)
    simp
    have kb := keeps_app (M := M) [.live ⟨[vaA], true, true, 38, 1⟩, .live ⟨[vaB], true, true, 38, 1⟩]
    have nb := kb.len
    obtain ⟨M0, hM0⟩ : ∃ M0 : Mem, M0 = M ++ [.live ⟨[vaA], true, true, 38, 1⟩, .live ⟨[vaB], true, true, 38, 1⟩] := ⟨_, rfl⟩
    have qb : M0.length = M.length + 2 := by rw [hM0]; simp
    have baA : cellsAt M0 M.length 0 1 = some [vaA] := by rw [hM0]; simp
    have baB : cellsAt M0 (M.length + 1) 0 1 = some [vaB] := by rw [hM0]; simp
    rw [← hM0] at kb nb
    rw [← hM0]
    clear hM0
    replace raA := raA.keeps kb
    replace raB := raB.keeps kb
    replace K0 := kb
    refine awCall_det' (sz_Curve raA (z := 1048576) (by omega) (by omega) (by omega)) (by omega) ?_
    try simp (disch := omega) [wrap_in, dec_neg, baA, cellsAt_app baA, baB, cellsAt_app baB]
    first | (refine awDraw_D 3 [[],[0],[],[2,1,0],[1,0,3,2],[4,1,0,3,2]] (by kernel_rfl) (by decide +kernel) ?_; try simp (disch := omega) [wrap_in, dec_neg, baA, cellsAt_app baA, baB, cellsAt_app baB]) | (refine awDraw_D 3 [[],[],[1],[0,2,1],[3,0,2,1]] (by kernel_rfl) (by decide +kernel) ?_; try simp (disch := omega) [wrap_in, dec_neg, baA, cellsAt_app baA, baB, cellsAt_app baB]) | (refine awDraw_D 3 [[],[],[1],[0,2,1],[3,0,2,1]] (by kernel_rfl) (by decide +kernel) ?_; try simp (disch := omega) [wrap_in, dec_neg, baA, cellsAt_app baA, baB, cellsAt_app baB]) | skip
    refine awCall_det' (sz_Curve_over raB (z := 1048576 - xaA.length) (by omega) (by omega) (by omega)) (by omega) ?_
    simp [K0]
  have eaB : xaB.length ≤ 1048576 := by omega
  first | (refine det_fn Try.func6 rfl Try.ntmps6 Try.results6 rfl rfl rfl (by simp) ?_) | (refine det_fnC Try.func6 rfl Try.ntmps6 Try.results6 rfl rfl (by simp) ?_)
  simp
  have kb := keeps_app (M := M) [.live ⟨[vaA], true, true, 38, 1⟩, .live ⟨[vaB], true, true, 38, 1⟩]
  have nb := kb.len
  obtain ⟨M0, hM0⟩ : ∃ M0 : Mem, M0 = M ++ [.live ⟨[vaA], true, true, 38, 1⟩, .live ⟨[vaB], true, true, 38, 1⟩] := ⟨_, rfl⟩
  have qb : M0.length = M.length + 2 := by rw [hM0]; simp
  have baA : cellsAt M0 M.length 0 1 = some [vaA] := by rw [hM0]; simp
  have baB : cellsAt M0 (M.length + 1) 0 1 = some [vaB] := by rw [hM0]; simp
  rw [← hM0] at kb nb
  rw [← hM0]
  clear hM0
  replace raA := raA.keeps kb
  replace raB := raB.keeps kb
  replace K0 := kb
  refine awCall_det' (sz_Curve raA (z := 1048576) (by omega) (by omega) (by omega)) (by omega) ?_
  try simp (disch := omega) [wrap_in, dec_neg, baA, cellsAt_app baA, baB, cellsAt_app baB]
  first | (refine awDraw_D 3 [[],[0],[],[2,1,0],[1,0,3,2],[4,1,0,3,2]] (by kernel_rfl) (by decide +kernel) ?_; try simp (disch := omega) [wrap_in, dec_neg, baA, cellsAt_app baA, baB, cellsAt_app baB]) | (refine awDraw_D 3 [[],[],[1],[0,2,1],[3,0,2,1]] (by kernel_rfl) (by decide +kernel) ?_; try simp (disch := omega) [wrap_in, dec_neg, baA, cellsAt_app baA, baB, cellsAt_app baB]) | (refine awDraw_D 3 [[],[],[1],[0,2,1],[3,0,2,1]] (by kernel_rfl) (by decide +kernel) ?_; try simp (disch := omega) [wrap_in, dec_neg, baA, cellsAt_app baA, baB, cellsAt_app baB]) | skip
  refine awCall_det' (sz_Curve raB (z := 1048576 - xaA.length) (by omega) (by omega) (by omega)) (by omega) ?_
  try simp (disch := omega) [wrap_in, dec_neg, baA, cellsAt_app baA, baB, cellsAt_app baB]
  first | (refine awDraw_D 3 [[],[0],[],[2,1,0],[1,0,3,2],[4,1,0,3,2]] (by kernel_rfl) (by decide +kernel) ?_; try simp (disch := omega) [wrap_in, dec_neg, baA, cellsAt_app baA, baB, cellsAt_app baB]) | (refine awDraw_D 3 [[],[],[1],[0,2,1],[3,0,2,1]] (by kernel_rfl) (by decide +kernel) ?_; try simp (disch := omega) [wrap_in, dec_neg, baA, cellsAt_app baA, baB, cellsAt_app baB]) | (refine awDraw_D 3 [[],[],[1],[0,2,1],[3,0,2,1]] (by kernel_rfl) (by decide +kernel) ?_; try simp (disch := omega) [wrap_in, dec_neg, baA, cellsAt_app baA, baB, cellsAt_app baB]) | skip
  obtain ⟨u_t1, N1, d1, r_t1⟩ := to_Curve_d raA eaA
  have o1 := r_t1.one
  first | (refine awCall_det' (d := true) d1 (by omega) ?_; simp (disch := omega) [wrap_in, dec_neg, baA, cellsAt_app baA, baB, cellsAt_app baB, o1]; obtain ⟨M1, hM1, k1⟩ : ∃ M' : Mem, M' = M0 ++ N1 ∧ Keeps M0 M' := ⟨_, rfl, keeps_app _⟩; rw [← hM1] at r_t1; rw [← hM1]) | (refine awCall_det' (d := false) d1 (by omega) ?_; obtain ⟨M1, hM1, k1⟩ : ∃ M' : Mem, M' = M0 ++ N1 ∧ Keeps M0 M' := ⟨_, rfl, keeps_app _⟩; rw [← hM1] at r_t1; rw [← hM1]; skip)
  have n1 := k1.len
  replace raA := raA.keeps k1
  replace raB := raB.keeps k1
  have K1 := K0.trans k1
  replace baA := cellsAt_keeps k1 baA
  replace baB := cellsAt_keeps k1 baB
  clear k1 hM1 d1
  try simp (disch := omega) [wrap_in, dec_neg, baA, cellsAt_app baA, baB, cellsAt_app baB, o1]
  first | (refine awDraw_D 3 [[],[0],[],[2,1,0],[1,0,3,2],[4,1,0,3,2]] (by kernel_rfl) (by decide +kernel) ?_; try simp (disch := omega) [wrap_in, dec_neg, baA, cellsAt_app baA, baB, cellsAt_app baB, o1]) | (refine awDraw_D 3 [[],[],[1],[0,2,1],[3,0,2,1]] (by kernel_rfl) (by decide +kernel) ?_; try simp (disch := omega) [wrap_in, dec_neg, baA, cellsAt_app baA, baB, cellsAt_app baB, o1]) | (refine awDraw_D 3 [[],[],[1],[0,2,1],[3,0,2,1]] (by kernel_rfl) (by decide +kernel) ?_; try simp (disch := omega) [wrap_in, dec_neg, baA, cellsAt_app baA, baB, cellsAt_app baB, o1]) | skip
  obtain ⟨u_t2, N2, d2, r_t2⟩ := to_Curve_d raB eaB
  have o2 := r_t2.one
  first | (refine awCall_det' (d := true) d2 (by omega) ?_; simp (disch := omega) [wrap_in, dec_neg, baA, cellsAt_app baA, baB, cellsAt_app baB, o1, o2]; obtain ⟨M2, hM2, k2⟩ : ∃ M' : Mem, M' = M1 ++ N2 ∧ Keeps M1 M' := ⟨_, rfl, keeps_app _⟩; rw [← hM2] at r_t2; rw [← hM2]) | (refine awCall_det' (d := false) d2 (by omega) ?_; obtain ⟨M2, hM2, k2⟩ : ∃ M' : Mem, M' = M1 ++ N2 ∧ Keeps M1 M' := ⟨_, rfl, keeps_app _⟩; rw [← hM2] at r_t2; rw [← hM2]; skip)
  have n2 := k2.len
  replace raA := raA.keeps k2
  replace raB := raB.keeps k2
  replace r_t1 := r_t1.keeps k2
  have K2 := K1.trans k2
  replace baA := cellsAt_keeps k2 baA
  replace baB := cellsAt_keeps k2 baB
  clear k2 hM2 d2
  try simp (disch := omega) [wrap_in, dec_neg, baA, cellsAt_app baA, baB, cellsAt_app baB, o1, o2]
  first | (refine awDraw_D 3 [[],[0],[],[2,1,0],[1,0,3,2],[4,1,0,3,2]] (by kernel_rfl) (by decide +kernel) ?_; try simp (disch := omega) [wrap_in, dec_neg, baA, cellsAt_app baA, baB, cellsAt_app baB, o1, o2]) | (refine awDraw_D 3 [[],[],[1],[0,2,1],[3,0,2,1]] (by kernel_rfl) (by decide +kernel) ?_; try simp (disch := omega) [wrap_in, dec_neg, baA, cellsAt_app baA, baB, cellsAt_app baB, o1, o2]) | (refine awDraw_D 3 [[],[],[1],[0,2,1],[3,0,2,1]] (by kernel_rfl) (by decide +kernel) ?_; try simp (disch := omega) [wrap_in, dec_neg, baA, cellsAt_app baA, baB, cellsAt_app baB, o1, o2]) | skip
  refine awCall_det' (SameCurve_sl r_t1.rd r_t2.rd eaA) (by omega) ?_
  try simp (disch := omega) [wrap_in, dec_neg, baA, cellsAt_app baA, baB, cellsAt_app baB, o1, o2]
  first | (refine awDraw_D 3 [[],[0],[],[2,1,0],[1,0,3,2],[4,1,0,3,2]] (by kernel_rfl) (by decide +kernel) ?_; try simp (disch := omega) [wrap_in, dec_neg, baA, cellsAt_app baA, baB, cellsAt_app baB, o1, o2]) | (refine awDraw_D 3 [[],[],[1],[0,2,1],[3,0,2,1]] (by kernel_rfl) (by decide +kernel) ?_; try simp (disch := omega) [wrap_in, dec_neg, baA, cellsAt_app baA, baB, cellsAt_app baB, o1, o2]) | (refine awDraw_D 3 [[],[],[1],[0,2,1],[3,0,2,1]] (by kernel_rfl) (by decide +kernel) ?_; try simp (disch := omega) [wrap_in, dec_neg, baA, cellsAt_app baA, baB, cellsAt_app baB, o1, o2]) | skip
  obtain ⟨u_t3, N3, d3, r_t3⟩ := to_Curve_d raA eaA
  have o3 := r_t3.one
  first | (refine awCall_det' (d := true) d3 (by omega) ?_; simp (disch := omega) [wrap_in, dec_neg, baA, cellsAt_app baA, baB, cellsAt_app baB, o1, o2, o3]; obtain ⟨M3, hM3, k3⟩ : ∃ M' : Mem, M' = M2 ++ N3 ∧ Keeps M2 M' := ⟨_, rfl, keeps_app _⟩; rw [← hM3] at r_t3; rw [← hM3]) | (refine awCall_det' (d := false) d3 (by omega) ?_; obtain ⟨M3, hM3, k3⟩ : ∃ M' : Mem, M' = M2 ++ N3 ∧ Keeps M2 M' := ⟨_, rfl, keeps_app _⟩; rw [← hM3] at r_t3; rw [← hM3]; skip)
  have n3 := k3.len
  replace raA := raA.keeps k3
  replace raB := raB.keeps k3
  replace r_t1 := r_t1.keeps k3
  replace r_t2 := r_t2.keeps k3
  have K3 := K2.trans k3
  replace baA := cellsAt_keeps k3 baA
  replace baB := cellsAt_keeps k3 baB
  clear k3 hM3 d3
  try simp (disch := omega) [wrap_in, dec_neg, baA, cellsAt_app baA, baB, cellsAt_app baB, o1, o2, o3]
  first | (refine awDraw_D 3 [[],[0],[],[2,1,0],[1,0,3,2],[4,1,0,3,2]] (by kernel_rfl) (by decide +kernel) ?_; try simp (disch := omega) [wrap_in, dec_neg, baA, cellsAt_app baA, baB, cellsAt_app baB, o1, o2, o3]) | (refine awDraw_D 3 [[],[],[1],[0,2,1],[3,0,2,1]] (by kernel_rfl) (by decide +kernel) ?_; try simp (disch := omega) [wrap_in, dec_neg, baA, cellsAt_app baA, baB, cellsAt_app baB, o1, o2, o3]) | (refine awDraw_D 3 [[],[],[1],[0,2,1],[3,0,2,1]] (by kernel_rfl) (by decide +kernel) ?_; try simp (disch := omega) [wrap_in, dec_neg, baA, cellsAt_app baA, baB, cellsAt_app baB, o1, o2, o3]) | skip
  obtain ⟨M4, hM4⟩ : ∃ M' : Mem, M' = M3 ++ [.live ⟨[u_t3], true, true, 43, 1⟩] := ⟨_, rfl⟩
  have bx0 : cellsAt M4 M3.length 0 1 = some [u_t3] := by rw [hM4]; simp
  have k4 : Keeps M3 M4 := by rw [hM4]; exact keeps_app _
  have n4 : M4.length = M3.length + 1 := by rw [hM4]; simp
  rw [← hM4]
  replace raA := raA.keeps k4
  replace raB := raB.keeps k4
  replace r_t1 := r_t1.keeps k4
  replace r_t2 := r_t2.keeps k4
  replace r_t3 := r_t3.keeps k4
  have K4 := K3.trans k4
  replace baA := cellsAt_keeps k4 baA
  replace baB := cellsAt_keeps k4 baB
  clear k4 hM4
  try simp (disch := omega) [wrap_in, dec_neg, baA, cellsAt_app baA, baB, cellsAt_app baB, bx0, cellsAt_app bx0, o1, o2, o3]
  first | (refine awDraw_D 3 [[],[0],[],[2,1,0],[1,0,3,2],[4,1,0,3,2]] (by kernel_rfl) (by decide +kernel) ?_; try simp (disch := omega) [wrap_in, dec_neg, baA, cellsAt_app baA, baB, cellsAt_app baB, bx0, cellsAt_app bx0, o1, o2, o3]) | (refine awDraw_D 3 [[],[],[1],[0,2,1],[3,0,2,1]] (by kernel_rfl) (by decide +kernel) ?_; try simp (disch := omega) [wrap_in, dec_neg, baA, cellsAt_app baA, baB, cellsAt_app baB, bx0, cellsAt_app bx0, o1, o2, o3]) | (refine awDraw_D 3 [[],[],[1],[0,2,1],[3,0,2,1]] (by kernel_rfl) (by decide +kernel) ?_; try simp (disch := omega) [wrap_in, dec_neg, baA, cellsAt_app baA, baB, cellsAt_app baB, bx0, cellsAt_app bx0, o1, o2, o3]) | skip
  obtain ⟨u_t5, N5, d5, r_t5⟩ := to_Curve_d raB eaB
  have o5 := r_t5.one
  first | (refine awCall_det' (d := true) d5 (by omega) ?_; simp (disch := omega) [wrap_in, dec_neg, baA, cellsAt_app baA, baB, cellsAt_app baB, bx0, cellsAt_app bx0, o1, o2, o3, o5]; obtain ⟨M5, hM5, k5⟩ : ∃ M' : Mem, M' = M4 ++ N5 ∧ Keeps M4 M' := ⟨_, rfl, keeps_app _⟩; rw [← hM5] at r_t5; rw [← hM5]) | (refine awCall_det' (d := false) d5 (by omega) ?_; obtain ⟨M5, hM5, k5⟩ : ∃ M' : Mem, M' = M4 ++ N5 ∧ Keeps M4 M' := ⟨_, rfl, keeps_app _⟩; rw [← hM5] at r_t5; rw [← hM5]; skip)
  have n5 := k5.len
  replace raA := raA.keeps k5
  replace raB := raB.keeps k5
  replace r_t1 := r_t1.keeps k5
  replace r_t2 := r_t2.keeps k5
  replace r_t3 := r_t3.keeps k5
  have K5 := K4.trans k5
  replace baA := cellsAt_keeps k5 baA
  replace baB := cellsAt_keeps k5 baB
  replace bx0 := cellsAt_keeps k5 bx0
  clear k5 hM5 d5
  try simp (disch := omega) [wrap_in, dec_neg, baA, cellsAt_app baA, baB, cellsAt_app baB, bx0, cellsAt_app bx0, o1, o2, o3, o5]
  first | (refine awDraw_D 3 [[],[0],[],[2,1,0],[1,0,3,2],[4,1,0,3,2]] (by kernel_rfl) (by decide +kernel) ?_; try simp (disch := omega) [wrap_in, dec_neg, baA, cellsAt_app baA, baB, cellsAt_app baB, bx0, cellsAt_app bx0, o1, o2, o3, o5]) | (refine awDraw_D 3 [[],[],[1],[0,2,1],[3,0,2,1]] (by kernel_rfl) (by decide +kernel) ?_; try simp (disch := omega) [wrap_in, dec_neg, baA, cellsAt_app baA, baB, cellsAt_app baB, bx0, cellsAt_app bx0, o1, o2, o3, o5]) | (refine awDraw_D 3 [[],[],[1],[0,2,1],[3,0,2,1]] (by kernel_rfl) (by decide +kernel) ?_; try simp (disch := omega) [wrap_in, dec_neg, baA, cellsAt_app baA, baB, cellsAt_app baB, bx0, cellsAt_app bx0, o1, o2, o3, o5]) | skip
  obtain ⟨M6, hM6⟩ : ∃ M' : Mem, M' = M5 ++ [.live ⟨[u_t5], true, true, 43, 1⟩] := ⟨_, rfl⟩
  have bx1 : cellsAt M6 M5.length 0 1 = some [u_t5] := by rw [hM6]; simp
  have k6 : Keeps M5 M6 := by rw [hM6]; exact keeps_app _
  have n6 : M6.length = M5.length + 1 := by rw [hM6]; simp
  rw [← hM6]
  replace raA := raA.keeps k6
  replace raB := raB.keeps k6
  replace r_t1 := r_t1.keeps k6
  replace r_t2 := r_t2.keeps k6
  replace r_t3 := r_t3.keeps k6
  replace r_t5 := r_t5.keeps k6
  have K6 := K5.trans k6
  replace baA := cellsAt_keeps k6 baA
  replace baB := cellsAt_keeps k6 baB
  replace bx0 := cellsAt_keeps k6 bx0
  clear k6 hM6
  try simp (disch := omega) [wrap_in, dec_neg, baA, cellsAt_app baA, baB, cellsAt_app baB, bx0, cellsAt_app bx0, bx1, cellsAt_app bx1, o1, o2, o3, o5]
  first | (refine awDraw_D 3 [[],[0],[],[2,1,0],[1,0,3,2],[4,1,0,3,2]] (by kernel_rfl) (by decide +kernel) ?_; try simp (disch := omega) [wrap_in, dec_neg, baA, cellsAt_app baA, baB, cellsAt_app baB, bx0, cellsAt_app bx0, bx1, cellsAt_app bx1, o1, o2, o3, o5]) | (refine awDraw_D 3 [[],[],[1],[0,2,1],[3,0,2,1]] (by kernel_rfl) (by decide +kernel) ?_; try simp (disch := omega) [wrap_in, dec_neg, baA, cellsAt_app baA, baB, cellsAt_app baB, bx0, cellsAt_app bx0, bx1, cellsAt_app bx1, o1, o2, o3, o5]) | (refine awDraw_D 3 [[],[],[1],[0,2,1],[3,0,2,1]] (by kernel_rfl) (by decide +kernel) ?_; try simp (disch := omega) [wrap_in, dec_neg, baA, cellsAt_app baA, baB, cellsAt_app baB, bx0, cellsAt_app bx0, bx1, cellsAt_app bx1, o1, o2, o3, o5]) | skip
  refine awCall_det' (SameCurve_il r_t3.rd r_t5.rd eaA) (by omega) ?_
  try simp (disch := omega) [wrap_in, dec_neg, baA, cellsAt_app baA, baB, cellsAt_app baB, bx0, cellsAt_app bx0, bx1, cellsAt_app bx1, o1, o2, o3, o5]
  first | (refine awDraw_D 3 [[],[0],[],[2,1,0],[1,0,3,2],[4,1,0,3,2]] (by kernel_rfl) (by decide +kernel) ?_; try simp (disch := omega) [wrap_in, dec_neg, baA, cellsAt_app baA, baB, cellsAt_app baB, bx0, cellsAt_app bx0, bx1, cellsAt_app bx1, o1, o2, o3, o5]) | (refine awDraw_D 3 [[],[],[1],[0,2,1],[3,0,2,1]] (by kernel_rfl) (by decide +kernel) ?_; try simp (disch := omega) [wrap_in, dec_neg, baA, cellsAt_app baA, baB, cellsAt_app baB, bx0, cellsAt_app bx0, bx1, cellsAt_app bx1, o1, o2, o3, o5]) | (refine awDraw_D 3 [[],[],[1],[0,2,1],[3,0,2,1]] (by kernel_rfl) (by decide +kernel) ?_; try simp (disch := omega) [wrap_in, dec_neg, baA, cellsAt_app baA, baB, cellsAt_app baB, bx0, cellsAt_app bx0, bx1, cellsAt_app bx1, o1, o2, o3, o5]) | skip
  obtain ⟨u_t7, N7, d7, r_t7⟩ := to_Curve_d raA eaA
  have o7 := r_t7.one
  first | (refine awCall_det' (d := true) d7 (by omega) ?_; simp (disch := omega) [wrap_in, dec_neg, baA, cellsAt_app baA, baB, cellsAt_app baB, bx0, cellsAt_app bx0, bx1, cellsAt_app bx1, o1, o2, o3, o5, o7]; obtain ⟨M7, hM7, k7⟩ : ∃ M' : Mem, M' = M6 ++ N7 ∧ Keeps M6 M' := ⟨_, rfl, keeps_app _⟩; rw [← hM7] at r_t7; rw [← hM7]) | (refine awCall_det' (d := false) d7 (by omega) ?_; obtain ⟨M7, hM7, k7⟩ : ∃ M' : Mem, M' = M6 ++ N7 ∧ Keeps M6 M' := ⟨_, rfl, keeps_app _⟩; rw [← hM7] at r_t7; rw [← hM7]; skip)
  have n7 := k7.len
  replace raA := raA.keeps k7
  replace raB := raB.keeps k7
  replace r_t1 := r_t1.keeps k7
  replace r_t2 := r_t2.keeps k7
  replace r_t3 := r_t3.keeps k7
  replace r_t5 := r_t5.keeps k7
  have K7 := K6.trans k7
  replace baA := cellsAt_keeps k7 baA
  replace baB := cellsAt_keeps k7 baB
  replace bx0 := cellsAt_keeps k7 bx0
  replace bx1 := cellsAt_keeps k7 bx1
  clear k7 hM7 d7
  try simp (disch := omega) [wrap_in, dec_neg, baA, cellsAt_app baA, baB, cellsAt_app baB, bx0, cellsAt_app bx0, bx1, cellsAt_app bx1, o1, o2, o3, o5, o7]
  first | (refine awDraw_D 3 [[],[0],[],[2,1,0],[1,0,3,2],[4,1,0,3,2]] (by kernel_rfl) (by decide +kernel) ?_; try simp (disch := omega) [wrap_in, dec_neg, baA, cellsAt_app baA, baB, cellsAt_app baB, bx0, cellsAt_app bx0, bx1, cellsAt_app bx1, o1, o2, o3, o5, o7]) | (refine awDraw_D 3 [[],[],[1],[0,2,1],[3,0,2,1]] (by kernel_rfl) (by decide +kernel) ?_; try simp (disch := omega) [wrap_in, dec_neg, baA, cellsAt_app baA, baB, cellsAt_app baB, bx0, cellsAt_app bx0, bx1, cellsAt_app bx1, o1, o2, o3, o5, o7]) | (refine awDraw_D 3 [[],[],[1],[0,2,1],[3,0,2,1]] (by kernel_rfl) (by decide +kernel) ?_; try simp (disch := omega) [wrap_in, dec_neg, baA, cellsAt_app baA, baB, cellsAt_app baB, bx0, cellsAt_app bx0, bx1, cellsAt_app bx1, o1, o2, o3, o5, o7]) | skip
  refine awCall_det' (eq_Curve r_t3 r_t7.rd) (by omega) ?_
  try simp (disch := omega) [wrap_in, dec_neg, baA, cellsAt_app baA, baB, cellsAt_app baB, bx0, cellsAt_app bx0, bx1, cellsAt_app bx1, o1, o2, o3, o5, o7]
  first | (refine awDraw_D 3 [[],[0],[],[2,1,0],[1,0,3,2],[4,1,0,3,2]] (by kernel_rfl) (by decide +kernel) ?_; try simp (disch := omega) [wrap_in, dec_neg, baA, cellsAt_app baA, baB, cellsAt_app baB, bx0, cellsAt_app bx0, bx1, cellsAt_app bx1, o1, o2, o3, o5, o7]) | (refine awDraw_D 3 [[],[],[1],[0,2,1],[3,0,2,1]] (by kernel_rfl) (by decide +kernel) ?_; try simp (disch := omega) [wrap_in, dec_neg, baA, cellsAt_app baA, baB, cellsAt_app baB, bx0, cellsAt_app bx0, bx1, cellsAt_app bx1, o1, o2, o3, o5, o7]) | (refine awDraw_D 3 [[],[],[1],[0,2,1],[3,0,2,1]] (by kernel_rfl) (by decide +kernel) ?_; try simp (disch := omega) [wrap_in, dec_neg, baA, cellsAt_app baA, baB, cellsAt_app baB, bx0, cellsAt_app bx0, bx1, cellsAt_app bx1, o1, o2, o3, o5, o7]) | skip
  obtain ⟨u_t8, N8, d8, r_t8⟩ := to_Curve_d raB eaB
  have o8 := r_t8.one
  first | (refine awCall_det' (d := true) d8 (by omega) ?_; simp (disch := omega) [wrap_in, dec_neg, baA, cellsAt_app baA, baB, cellsAt_app baB, bx0, cellsAt_app bx0, bx1, cellsAt_app bx1, o1, o2, o3, o5, o7, o8]; obtain ⟨M8, hM8, k8⟩ : ∃ M' : Mem, M' = M7 ++ N8 ∧ Keeps M7 M' := ⟨_, rfl, keeps_app _⟩; rw [← hM8] at r_t8; rw [← hM8]) | (refine awCall_det' (d := false) d8 (by omega) ?_; obtain ⟨M8, hM8, k8⟩ : ∃ M' : Mem, M' = M7 ++ N8 ∧ Keeps M7 M' := ⟨_, rfl, keeps_app _⟩; rw [← hM8] at r_t8; rw [← hM8]; skip)
  have n8 := k8.len
  replace raA := raA.keeps k8
  replace raB := raB.keeps k8
  replace r_t1 := r_t1.keeps k8
  replace r_t2 := r_t2.keeps k8
  replace r_t3 := r_t3.keeps k8
  replace r_t5 := r_t5.keeps k8
  replace r_t7 := r_t7.keeps k8
  have K8 := K7.trans k8
  replace baA := cellsAt_keeps k8 baA
  replace baB := cellsAt_keeps k8 baB
  replace bx0 := cellsAt_keeps k8 bx0
  replace bx1 := cellsAt_keeps k8 bx1
  clear k8 hM8 d8
  try simp (disch := omega) [wrap_in, dec_neg, baA, cellsAt_app baA, baB, cellsAt_app baB, bx0, cellsAt_app bx0, bx1, cellsAt_app bx1, o1, o2, o3, o5, o7, o8]
  first | (refine awDraw_D 3 [[],[0],[],[2,1,0],[1,0,3,2],[4,1,0,3,2]] (by kernel_rfl) (by decide +kernel) ?_; try simp (disch := omega) [wrap_in, dec_neg, baA, cellsAt_app baA, baB, cellsAt_app baB, bx0, cellsAt_app bx0, bx1, cellsAt_app bx1, o1, o2, o3, o5, o7, o8]) | (refine awDraw_D 3 [[],[],[1],[0,2,1],[3,0,2,1]] (by kernel_rfl) (by decide +kernel) ?_; try simp (disch := omega) [wrap_in, dec_neg, baA, cellsAt_app baA, baB, cellsAt_app baB, bx0, cellsAt_app bx0, bx1, cellsAt_app bx1, o1, o2, o3, o5, o7, o8]) | (refine awDraw_D 3 [[],[],[1],[0,2,1],[3,0,2,1]] (by kernel_rfl) (by decide +kernel) ?_; try simp (disch := omega) [wrap_in, dec_neg, baA, cellsAt_app baA, baB, cellsAt_app baB, bx0, cellsAt_app bx0, bx1, cellsAt_app bx1, o1, o2, o3, o5, o7, o8]) | skip
  refine awCall_det' (eq_Curve r_t5 r_t8.rd) (by omega) ?_
  try simp (disch := omega) [wrap_in, dec_neg, baA, cellsAt_app baA, baB, cellsAt_app baB, bx0, cellsAt_app bx0, bx1, cellsAt_app bx1, o1, o2, o3, o5, o7, o8]
  first | (refine awDraw_D 3 [[],[0],[],[2,1,0],[1,0,3,2],[4,1,0,3,2]] (by kernel_rfl) (by decide +kernel) ?_; try simp (disch := omega) [wrap_in, dec_neg, baA, cellsAt_app baA, baB, cellsAt_app baB, bx0, cellsAt_app bx0, bx1, cellsAt_app bx1, o1, o2, o3, o5, o7, o8]) | (refine awDraw_D 3 [[],[],[1],[0,2,1],[3,0,2,1]] (by kernel_rfl) (by decide +kernel) ?_; try simp (disch := omega) [wrap_in, dec_neg, baA, cellsAt_app baA, baB, cellsAt_app baB, bx0, cellsAt_app bx0, bx1, cellsAt_app bx1, o1, o2, o3, o5, o7, o8]) | (refine awDraw_D 3 [[],[],[1],[0,2,1],[3,0,2,1]] (by kernel_rfl) (by decide +kernel) ?_; try simp (disch := omega) [wrap_in, dec_neg, baA, cellsAt_app baA, baB, cellsAt_app baB, bx0, cellsAt_app bx0, bx1, cellsAt_app bx1, o1, o2, o3, o5, o7, o8]) | skip
  try simp [K8]
set_option maxRecDepth 100000 in
theorem FnExactSameCurve_lifted (os : Os) (started : os.Started) (H : Type) (enc : TypeId × Value → H) :
    ReturnsInHanded {} Try.checked os 6 .any (Rows.fnExactSameCurveSpec.pre6 enc Try.prog Try.f6 Rows.fnExactSameCurveRow.domain false) (Rows.fnExactSameCurveSpec.post enc Try.prog Try.f6 false true false false) := by
  refine returnsInHanded_of_change (C := Try.checked) own_knob started (by kernel_rfl) Try.func6
    (ChangeSpec.witness6 (enc := enc) (C := Try.checked) false ⟨#[], #[.agg #[.slice none 0 0], .agg #[.slice none 0 0]], []⟩ 8 (by kernel_rfl) (by kernel_rfl) (by kernel_rfl) (by kernel_rfl)) ?_
  intro W base args ds gs before hval0 hW hcnd _
  have hval : ∀ (j : Nat) t v, Try.f6.params[j]? = some t → args[j]? = some v → Value.okWide Try.prog W .any base t v := hval0
  have hW' := hW
  have hlt := hW.lt
  obtain ⟨p, q, hA0, hV, rfl, hfz, hnd⟩ := hW
  have hA : DataW.TrodAll enc Try.prog W 0 (fun _ => true) true Try.f6.params.toList args.toList ds p := hA0
  rw [Try.params6] at hA hval
  obtain ⟨v0, v1, d0, d1, p0, p1, rfl, rfl, rfl, h0, h1⟩ := trodAll_two hA
  have ar0 := Arg.wrap curvePointI Try.underlying38 ⟨rfl, rfl⟩ (by kernel_rfl) (by kernel_rfl) Try.underlying36 (by kernel_rfl) (show Try.prog.cellsOf 112 = 2 from by kernel_rfl) (by omega) hlt (hval 0 _ v0 rfl rfl) h0 (fun x hx => by simp [hx])
  have ar1 := Arg.wrap curvePointI Try.underlying38 ⟨rfl, rfl⟩ (by kernel_rfl) (by kernel_rfl) Try.underlying36 (by kernel_rfl) (show Try.prog.cellsOf 112 = 2 from by kernel_rfl) (by omega) hlt (hval 1 _ v1 rfl rfl) h1 (fun x hx => by simp [hx])
  have R := AR.nil W
  obtain ⟨L0, μ0, _, R0, u0, rfl, B0, n0, c0, l0, rfl, hn0, hs0, hw0⟩ := R.next ar0
  have K0 := RdL.of_sl hn0 hs0 c0
  obtain ⟨L1, μ1, _, R1, u1, rfl, B1, n1, c1, l1, rfl, hn1, hs1, hw1⟩ := R0.next ar1
  have K1 := RdL.of_sl hn1 hs1 c1
  replace K0 := K0.up L1
  refine (law_end R1 (lawSameCurve_a  K0 hw0 K1 hw1) ).mono fun e W' ⟨he, hb⟩ => ?_
  subst he
  exact ⟨_, rfl, law_post rfl rfl (by kernel_rfl) rfl hW' hb⟩
theorem FnExactSameCurve_holds : Rows.FnExactSameCurveSaid :=
  OpenClaim.holds_of_wide 6 Try.f6 rfl rfl rfl rfl rfl rfl rfl ⟨rfl, rfl, rfl, rfl, rfl⟩ rfl rfl rfl rfl rfl (by kernel_rfl) Try.func6 (by kernel_rfl)
    (of_decide_eq_true (by kernel_rfl)) (by unfold Func.isWrapper; first | (rw [if_pos (by decide +kernel)]; kernel_rfl) | (rw [if_neg (by decide +kernel)]; exact ⟨rfl, rfl⟩))
    (fun os started H enc _ => FnExactSameCurve_lifted os started H enc)
#print axioms FnExactSameCurve_holds
end Go.Proofs.Ytaacgipfmmomiaa
