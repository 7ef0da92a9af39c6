/- For every input: the program's DivisionOf returns what the reference's returns, leaves its arguments alone, and hands back memory of its own. No conditions. -/
import Derived.Test.YtgaiejaegimilaaQ6
namespace Go.Proofs.Ytgaiejaegimilaa
open Go.ChangeShapes Go.WideShapes Go.ChangeAt Go.RowKit
open Go.RowKit
set_option linter.unusedVariables false
set_option linter.unusedSimpArgs false
set_option maxRecDepth 100000
attribute [local simp] List.getElem?_cons_zero
attribute [local irreducible] awCond awCall awLoop awDraw ow retQ retC resQ Keeps

set_option maxHeartbeats 4000000 in
theorem lawDivisionOf_a {M : Mem} {vaS : Value} {xaS : List Note} (raS : RdL noteR 0 M.length M vaS xaS) (waS : ∀ a ∈ xaS, ∃ ys : List Int, a = noteI.of ys ∧ ys.length = 7 ∧ ∀ z ∈ ys, (Lit.int .i64 z).wf = true) : Det Try.prog M.length 3 [.agg #[vaS]] M (.bool true) M := by
  have K0 := Keeps.refl M
  by_cases gaS : (1048576 : Int) < xaS.length
  · first | (refine det_fn Try.func3 rfl Try.ntmps3 Try.results3 rfl rfl rfl (by simp) ?_) | (refine det_fnC Try.func3 rfl Try.ntmps3 Try.results3 rfl rfl (by simp) ?_)
    simp
    have kb := keeps_app (M := M) [.live ⟨[vaS], true, true, 24, 1⟩]
    have nb := kb.len
    obtain ⟨M0, hM0⟩ : ∃ M0 : Mem, M0 = M ++ [.live ⟨[vaS], true, true, 24, 1⟩] := ⟨_, rfl⟩
    have qb : M0.length = M.length + 1 := by rw [hM0]; simp
    have baS : cellsAt M0 M.length 0 1 = some [vaS] := by rw [hM0]; simp
    rw [← hM0] at kb nb
    rw [← hM0]
    clear hM0
    replace raS := raS.keeps kb
    replace K0 := kb
    refine awCall_det' (sz_Score_over raS (z := 1048576) (by omega) (by omega) (by omega)) (by omega) ?_
    simp [K0]
  have eaS : xaS.length ≤ 1048576 := by omega
  first | (refine det_fn Try.func3 rfl Try.ntmps3 Try.results3 rfl rfl rfl (by simp) ?_) | (refine det_fnC Try.func3 rfl Try.ntmps3 Try.results3 rfl rfl (by simp) ?_)
  simp
  have kb := keeps_app (M := M) [.live ⟨[vaS], true, true, 24, 1⟩]
  have nb := kb.len
  obtain ⟨M0, hM0⟩ : ∃ M0 : Mem, M0 = M ++ [.live ⟨[vaS], true, true, 24, 1⟩] := ⟨_, rfl⟩
  have qb : M0.length = M.length + 1 := by rw [hM0]; simp
  have baS : cellsAt M0 M.length 0 1 = some [vaS] := by rw [hM0]; simp
  rw [← hM0] at kb nb
  rw [← hM0]
  clear hM0
  replace raS := raS.keeps kb
  replace K0 := kb
  refine awCall_det' (sz_Score raS (z := 1048576) (by omega) (by omega) (by omega)) (by omega) ?_
  try simp (disch := omega) [wrap_in, dec_neg, str_same, baS, cellsAt_app baS]
  first | (refine awDraw_D 3 [[],[],[1],[0,2,1],[3,0,2,1]] (by kernel_rfl) (by decide +kernel) ?_; try simp (disch := omega) [wrap_in, dec_neg, str_same, baS, cellsAt_app baS]) | skip
  obtain ⟨u_t1, N1, d1, r_t1⟩ := to_Score_d raS eaS
  have o1 := r_t1.one
  first | (refine awCall_det' (d := true) d1 (by omega) ?_; simp (disch := omega) [wrap_in, dec_neg, str_same, baS, cellsAt_app baS, o1]; obtain ⟨M1, hM1, k1⟩ : ∃ M' : Mem, M' = M0 ++ N1 ∧ Keeps M0 M' := ⟨_, rfl, keeps_app _⟩; rw [← hM1] at r_t1; rw [← hM1]) | (refine awCall_det' (d := false) d1 (by omega) ?_; obtain ⟨M1, hM1, k1⟩ : ∃ M' : Mem, M' = M0 ++ N1 ∧ Keeps M0 M' := ⟨_, rfl, keeps_app _⟩; rw [← hM1] at r_t1; rw [← hM1]; skip)
  have n1 := k1.len
  replace raS := raS.keeps k1
  have K1 := K0.trans k1
  replace baS := cellsAt_keeps k1 baS
  clear k1 hM1 d1
  try simp (disch := omega) [wrap_in, dec_neg, str_same, baS, cellsAt_app baS, o1]
  first | (refine awDraw_D 3 [[],[],[1],[0,2,1],[3,0,2,1]] (by kernel_rfl) (by decide +kernel) ?_; try simp (disch := omega) [wrap_in, dec_neg, str_same, baS, cellsAt_app baS, o1]) | skip
  refine awCall_det' (DivisionOf_sl r_t1.rd eaS) (by omega) ?_
  try simp (disch := omega) [wrap_in, dec_neg, str_same, baS, cellsAt_app baS, o1]
  first | (refine awDraw_D 3 [[],[],[1],[0,2,1],[3,0,2,1]] (by kernel_rfl) (by decide +kernel) ?_; try simp (disch := omega) [wrap_in, dec_neg, str_same, baS, cellsAt_app baS, o1]) | skip
  obtain ⟨u_t2, N2, d2, r_t2⟩ := to_Score_d raS eaS
  have o2 := r_t2.one
  first | (refine awCall_det' (d := true) d2 (by omega) ?_; simp (disch := omega) [wrap_in, dec_neg, str_same, baS, cellsAt_app baS, o1, o2]; obtain ⟨M2, hM2, k2⟩ : ∃ M' : Mem, M' = M1 ++ N2 ∧ Keeps M1 M' := ⟨_, rfl, keeps_app _⟩; rw [← hM2] at r_t2; rw [← hM2]) | (refine awCall_det' (d := false) d2 (by omega) ?_; obtain ⟨M2, hM2, k2⟩ : ∃ M' : Mem, M' = M1 ++ N2 ∧ Keeps M1 M' := ⟨_, rfl, keeps_app _⟩; rw [← hM2] at r_t2; rw [← hM2]; skip)
  have n2 := k2.len
  replace raS := raS.keeps k2
  replace r_t1 := r_t1.keeps k2
  have K2 := K1.trans k2
  replace baS := cellsAt_keeps k2 baS
  clear k2 hM2 d2
  try simp (disch := omega) [wrap_in, dec_neg, str_same, baS, cellsAt_app baS, o1, o2]
  first | (refine awDraw_D 3 [[],[],[1],[0,2,1],[3,0,2,1]] (by kernel_rfl) (by decide +kernel) ?_; try simp (disch := omega) [wrap_in, dec_neg, str_same, baS, cellsAt_app baS, o1, o2]) | skip
  obtain ⟨M3, hM3⟩ : ∃ M' : Mem, M' = M2 ++ [.live ⟨[u_t2], true, true, 30, 1⟩] := ⟨_, rfl⟩
  have bx0 : cellsAt M3 M2.length 0 1 = some [u_t2] := by rw [hM3]; simp
  have k3 : Keeps M2 M3 := by rw [hM3]; exact keeps_app _
  have n3 : M3.length = M2.length + 1 := by rw [hM3]; simp
  rw [← hM3]
  replace raS := raS.keeps k3
  replace r_t1 := r_t1.keeps k3
  replace r_t2 := r_t2.keeps k3
  have K3 := K2.trans k3
  replace baS := cellsAt_keeps k3 baS
  clear k3 hM3
  try simp (disch := omega) [wrap_in, dec_neg, str_same, baS, cellsAt_app baS, bx0, cellsAt_app bx0, o1, o2]
  first | (refine awDraw_D 3 [[],[],[1],[0,2,1],[3,0,2,1]] (by kernel_rfl) (by decide +kernel) ?_; try simp (disch := omega) [wrap_in, dec_neg, str_same, baS, cellsAt_app baS, bx0, cellsAt_app bx0, o1, o2]) | skip
  refine awCall_det' (DivisionOf_il r_t2.rd eaS) (by omega) ?_
  try simp (disch := omega) [wrap_in, dec_neg, str_same, baS, cellsAt_app baS, bx0, cellsAt_app bx0, o1, o2]
  first | (refine awDraw_D 3 [[],[],[1],[0,2,1],[3,0,2,1]] (by kernel_rfl) (by decide +kernel) ?_; try simp (disch := omega) [wrap_in, dec_neg, str_same, baS, cellsAt_app baS, bx0, cellsAt_app bx0, o1, o2]) | skip
  obtain ⟨u_t4, N4, d4, r_t4⟩ := to_Score_d raS eaS
  have o4 := r_t4.one
  first | (refine awCall_det' (d := true) d4 (by omega) ?_; simp (disch := omega) [wrap_in, dec_neg, str_same, baS, cellsAt_app baS, bx0, cellsAt_app bx0, o1, o2, o4]; obtain ⟨M4, hM4, k4⟩ : ∃ M' : Mem, M' = M3 ++ N4 ∧ Keeps M3 M' := ⟨_, rfl, keeps_app _⟩; rw [← hM4] at r_t4; rw [← hM4]) | (refine awCall_det' (d := false) d4 (by omega) ?_; obtain ⟨M4, hM4, k4⟩ : ∃ M' : Mem, M' = M3 ++ N4 ∧ Keeps M3 M' := ⟨_, rfl, keeps_app _⟩; rw [← hM4] at r_t4; rw [← hM4]; skip)
  have n4 := k4.len
  replace raS := raS.keeps k4
  replace r_t1 := r_t1.keeps k4
  replace r_t2 := r_t2.keeps k4
  have K4 := K3.trans k4
  replace baS := cellsAt_keeps k4 baS
  replace bx0 := cellsAt_keeps k4 bx0
  clear k4 hM4 d4
  try simp (disch := omega) [wrap_in, dec_neg, str_same, baS, cellsAt_app baS, bx0, cellsAt_app bx0, o1, o2, o4]
  first | (refine awDraw_D 3 [[],[],[1],[0,2,1],[3,0,2,1]] (by kernel_rfl) (by decide +kernel) ?_; try simp (disch := omega) [wrap_in, dec_neg, str_same, baS, cellsAt_app baS, bx0, cellsAt_app bx0, o1, o2, o4]) | skip
  refine awCall_det' (eq_Score r_t2 r_t4.rd) (by omega) ?_
  try simp (disch := omega) [wrap_in, dec_neg, str_same, baS, cellsAt_app baS, bx0, cellsAt_app bx0, o1, o2, o4]
  first | (refine awDraw_D 3 [[],[],[1],[0,2,1],[3,0,2,1]] (by kernel_rfl) (by decide +kernel) ?_; try simp (disch := omega) [wrap_in, dec_neg, str_same, baS, cellsAt_app baS, bx0, cellsAt_app bx0, o1, o2, o4]) | skip
  try simp [K4]
set_option maxRecDepth 100000 in
theorem FnExactDivisionOf_lifted (os : Os) (started : os.Started) (H : Type) (enc : TypeId × Value → H) :
    ReturnsInHanded {} Try.checked os 3 .any (Rows.fnExactDivisionOfSpec.pre6 enc Try.prog Try.f3 Rows.fnExactDivisionOfRow.domain false) (Rows.fnExactDivisionOfSpec.post enc Try.prog Try.f3 false true false false) := by
  refine returnsInHanded_of_change (C := Try.checked) own_knob started (by kernel_rfl) Try.func3
    (ChangeSpec.witness6 (enc := enc) (C := Try.checked) false ⟨#[], #[.agg #[.slice none 0 0]], []⟩ 8 (by kernel_rfl) (by kernel_rfl) (by kernel_rfl) (by kernel_rfl)) ?_
  intro W base args ds gs before hval0 hW hcnd _
  have hval : ∀ (j : Nat) t v, Try.f3.params[j]? = some t → args[j]? = some v → Value.okWide Try.prog W .any base t v := hval0
  have hW' := hW
  have hlt := hW.lt
  obtain ⟨p, q, hA0, hV, rfl, hfz, hnd⟩ := hW
  have hA : DataW.TrodAll enc Try.prog W 0 (fun _ => true) true Try.f3.params.toList args.toList ds p := hA0
  rw [Try.params3] at hA hval
  obtain ⟨v0, d0, rfl, rfl, h0⟩ := trodAll_one hA
  have ar0 := Arg.wrap noteI Try.underlying24 ⟨rfl, rfl⟩ (by kernel_rfl) (by kernel_rfl) Try.underlying22 (by kernel_rfl) (show Try.prog.cellsOf 142 = 7 from by kernel_rfl) (by omega) hlt (hval 0 _ v0 rfl rfl) h0 (fun x hx => by simp [hx])
  have R := AR.nil W
  obtain ⟨L0, μ0, _, R0, u0, rfl, B0, n0, c0, l0, rfl, hn0, hs0, hw0⟩ := R.next ar0
  have K0 := RdL.of_sl hn0 hs0 c0
  refine (law_end R0 (lawDivisionOf_a  K0 hw0) ).mono fun e W' ⟨he, hb⟩ => ?_
  subst he
  exact ⟨_, rfl, law_post rfl rfl (by kernel_rfl) rfl hW' hb⟩
theorem FnExactDivisionOf_holds : Rows.FnExactDivisionOfSaid :=
  OpenClaim.holds_of_wide 3 Try.f3 rfl rfl rfl rfl rfl rfl rfl ⟨rfl, rfl, rfl, rfl, rfl⟩ rfl rfl rfl rfl rfl (by kernel_rfl) Try.func3 (by kernel_rfl)
    (of_decide_eq_true (by kernel_rfl)) (by unfold Func.isWrapper; first | (rw [if_pos (by decide +kernel)]; kernel_rfl) | (rw [if_neg (by decide +kernel)]; exact ⟨rfl, rfl⟩))
    (fun os started H enc _ => FnExactDivisionOf_lifted os started H enc)
#print axioms FnExactDivisionOf_holds
end Go.Proofs.Ytgaiejaegimilaa
