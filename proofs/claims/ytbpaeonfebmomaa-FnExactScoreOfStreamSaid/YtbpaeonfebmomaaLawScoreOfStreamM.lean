/- For every input: the program's ScoreOfStream returns what the reference's returns, leaves its arguments alone, and hands back memory of its own. No conditions. -/
import Derived.Test.YtbpaeonfebmomaaZzE14
namespace Go.Proofs.Ytbpaeonfebmomaa
open Go.ChangeShapes Go.WideShapes Go.ChangeAt Go.RowKit
open Go.RowKit
set_option linter.unusedVariables false
set_option linter.unusedSimpArgs false
set_option maxRecDepth 100000
attribute [local simp] List.getElem?_cons_zero
attribute [local irreducible] awCond awCall awLoop awDraw ow retQ retC resQ Keeps

set_option maxHeartbeats 4000000 in
theorem lawScoreOfStream_a {M : Mem} {vaList : Value} {xaList : List StreamEvent} (aDivision : Int) (raList : RdL streamEventR 0 M.length M vaList xaList) (waList : ∀ a ∈ xaList, ∃ ys : List Int, a = streamEventI.of ys ∧ ys.length = 5 ∧ ∀ z ∈ ys, (Lit.int .i64 z).wf = true) (waDivision : (Lit.int .i64 aDivision).wf = true) : Det Try.prog M.length 4 [vaList, iv aDivision] M (.bool true) M := by
  have K0 := Keeps.refl M
  by_cases gaList : (1048576 : Int) < xaList.length
  · first | (refine det_fn Try.func4 rfl Try.ntmps4 Try.results4 rfl rfl rfl (by simp) ?_) | (refine det_fnC Try.func4 rfl Try.ntmps4 Try.results4 rfl rfl (by simp) ?_)
    simp
    refine awCall_det' (sz_StreamEventS_over raList (z := 1048576) (by omega) (by omega) (by omega)) (by omega) ?_
    simp [K0]
  have eaList : xaList.length ≤ 1048576 := by omega
  first | (refine det_fn Try.func4 rfl Try.ntmps4 Try.results4 rfl rfl rfl (by simp) ?_) | (refine det_fnC Try.func4 rfl Try.ntmps4 Try.results4 rfl rfl (by simp) ?_)
  simp
  refine awCall_det' (sz_StreamEventS raList (z := 1048576) (by omega) (by omega) (by omega)) (by omega) ?_
  try simp (disch := omega) [wrap_in, dec_neg, str_same]
  refine awCall_ctr ((to_StreamEventS raList eaList).weaken (by omega)) ?_
  rintro _ M1 ⟨r_t1, k1⟩
  have n1 := k1.len
  replace raList := raList.keeps k1
  have K1 := K0.trans k1
  clear k1
  try simp (disch := omega) [wrap_in, dec_neg, str_same]
  refine awCall_ctr ((ScoreOfStream_sl r_t1.rd aDivision eaList).weaken (by omega)) ?_
  rintro _ M2 ⟨v_w0, rfl, r_w0, k2⟩
  have n2 := k2.len
  replace raList := raList.keeps k2
  replace r_t1 := r_t1.keeps k2
  have K2 := K1.trans k2
  clear k2
  have o2_w0 := r_w0.one
  try simp (disch := omega) [wrap_in, dec_neg, str_same, o2_w0]
  obtain ⟨M3, hM3⟩ : ∃ M' : Mem, M' = M2 ++ [.live ⟨[v_w0], true, true, 26, 1⟩] := ⟨_, rfl⟩
  have bw0 : cellsAt M3 M2.length 0 1 = some [v_w0] := by rw [hM3]; simp
  have k3 : Keeps M2 M3 := by rw [hM3]; exact keeps_app _
  have n3 : M3.length = M2.length + 1 := by rw [hM3]; simp
  rw [← hM3]
  replace raList := raList.keeps k3
  replace r_t1 := r_t1.keeps k3
  replace r_w0 := r_w0.keeps k3
  have K3 := K2.trans k3
  clear k3 hM3
  try simp (disch := omega) [wrap_in, dec_neg, str_same, bw0, cellsAt_app bw0, o2_w0]
  refine awCall_ctr ((to_StreamEventS raList eaList).weaken (by omega)) ?_
  rintro _ M4 ⟨r_t4, k4⟩
  have n4 := k4.len
  replace raList := raList.keeps k4
  replace r_t1 := r_t1.keeps k4
  replace r_w0 := r_w0.keeps k4
  have K4 := K3.trans k4
  replace bw0 := cellsAt_keeps k4 bw0
  clear k4
  try simp (disch := omega) [wrap_in, dec_neg, str_same, bw0, cellsAt_app bw0, o2_w0]
  refine awCall_ctr ((ScoreOfStream_il r_t4.rd aDivision eaList).weaken (by omega)) ?_
  rintro _ M5 ⟨v_g0, rfl, r_g0, k5⟩
  have n5 := k5.len
  replace raList := raList.keeps k5
  replace r_t1 := r_t1.keeps k5
  replace r_w0 := r_w0.keeps k5
  replace r_t4 := r_t4.keeps k5
  have K5 := K4.trans k5
  replace bw0 := cellsAt_keeps k5 bw0
  clear k5
  have o5_g0 := r_g0.one
  try simp (disch := omega) [wrap_in, dec_neg, str_same, bw0, cellsAt_app bw0, o2_w0, o5_g0]
  obtain ⟨M6, hM6⟩ : ∃ M' : Mem, M' = M5 ++ [.live ⟨[v_g0], true, true, 26, 1⟩] := ⟨_, rfl⟩
  have bg0 : cellsAt M6 M5.length 0 1 = some [v_g0] := by rw [hM6]; simp
  have k6 : Keeps M5 M6 := by rw [hM6]; exact keeps_app _
  have n6 : M6.length = M5.length + 1 := by rw [hM6]; simp
  rw [← hM6]
  replace raList := raList.keeps k6
  replace r_t1 := r_t1.keeps k6
  replace r_w0 := r_w0.keeps k6
  replace r_t4 := r_t4.keeps k6
  replace r_g0 := r_g0.keeps k6
  have K6 := K5.trans k6
  replace bw0 := cellsAt_keeps k6 bw0
  clear k6 hM6
  try simp (disch := omega) [wrap_in, dec_neg, str_same, bw0, cellsAt_app bw0, bg0, cellsAt_app bg0, o2_w0, o5_g0]
  refine awCall_det' (eq_Score r_g0 r_w0.rd) (by omega) ?_
  try simp (disch := omega) [wrap_in, dec_neg, str_same, bw0, cellsAt_app bw0, bg0, cellsAt_app bg0, o2_w0, o5_g0]
  refine awCall_ctr ((to_StreamEventS raList eaList).weaken (by omega)) ?_
  rintro _ M7 ⟨r_t7, k7⟩
  have n7 := k7.len
  replace raList := raList.keeps k7
  replace r_t1 := r_t1.keeps k7
  replace r_w0 := r_w0.keeps k7
  replace r_t4 := r_t4.keeps k7
  replace r_g0 := r_g0.keeps k7
  have K7 := K6.trans k7
  replace bw0 := cellsAt_keeps k7 bw0
  replace bg0 := cellsAt_keeps k7 bg0
  clear k7
  try simp (disch := omega) [wrap_in, dec_neg, str_same, bw0, cellsAt_app bw0, bg0, cellsAt_app bg0, o2_w0, o5_g0]
  refine awCall_det' (eq_StreamEventS r_t4 r_t7.rd) (by omega) ?_
  try simp (disch := omega) [wrap_in, dec_neg, str_same, bw0, cellsAt_app bw0, bg0, cellsAt_app bg0, o2_w0, o5_g0]
  refine awCall_ctr ((mark_StreamEventS (b := M.length) r_t4 (by omega) (by omega) (by omega)).weaken (Nat.le_refl _)) ?_
  rintro _ M8 ⟨rfl, m_x0, k8⟩
  have n8 := k8.1
  replace raList := raList.turn k8 (by omega)
  replace r_t1 := r_t1.turn k8 (by omega)
  replace r_w0 := r_w0.turn k8 (by omega)
  replace r_g0 := r_g0.turn k8 (by omega)
  replace r_t7 := r_t7.turn k8 (by omega)
  replace bw0 := cellsAt_turn2 k8 (by omega) bw0
  replace bg0 := cellsAt_turn2 k8 (by omega) bg0
  have K8 := k8.keeps K7 (by omega)
  clear k8
  try simp (disch := omega) [wrap_in, dec_neg, str_same, bw0, cellsAt_app bw0, bg0, cellsAt_app bg0, o2_w0, o5_g0]
  refine awCall_det' (eq_Score r_g0 r_w0.rd) (by omega) ?_
  try simp (disch := omega) [wrap_in, dec_neg, str_same, bw0, cellsAt_app bw0, bg0, cellsAt_app bg0, o2_w0, o5_g0]
  refine awCall_ctr ((mark_Score (b := M.length) r_g0 (by omega) (by omega) (by omega)).weaken (Nat.le_refl _)) ?_
  rintro _ M9 ⟨rfl, m_g0, k9⟩
  have n9 := k9.1
  replace raList := raList.turn k9 (by omega)
  replace r_t1 := r_t1.turn k9 (by omega)
  replace r_w0 := r_w0.turn k9 (by omega)
  replace m_x0 := m_x0.turn k9 (by omega)
  replace r_t7 := r_t7.turn k9 (by omega)
  replace bw0 := cellsAt_turn2 k9 (by omega) bw0
  replace bg0 := cellsAt_turn2 k9 (by omega) bg0
  have K9 := k9.keeps K8 (by omega)
  clear k9
  try simp (disch := omega) [wrap_in, dec_neg, str_same, bw0, cellsAt_app bw0, bg0, cellsAt_app bg0, o2_w0, o5_g0]
  refine awCall_det' (held_Score m_g0 (by omega) (by omega)) (by omega) ?_
  try simp (disch := omega) [wrap_in, dec_neg, str_same, bw0, cellsAt_app bw0, bg0, cellsAt_app bg0, o2_w0, o5_g0]
  refine awCall_ctr ((to_StreamEventS raList eaList).weaken (by omega)) ?_
  rintro _ M10 ⟨r_t10, k10⟩
  have n10 := k10.len
  replace raList := raList.keeps k10
  replace r_t1 := r_t1.keeps k10
  replace r_w0 := r_w0.keeps k10
  replace m_x0 := m_x0.keeps k10
  replace m_g0 := m_g0.keeps k10
  replace r_t7 := r_t7.keeps k10
  have K10 := K9.trans k10
  replace bw0 := cellsAt_keeps k10 bw0
  replace bg0 := cellsAt_keeps k10 bg0
  clear k10
  try simp (disch := omega) [wrap_in, dec_neg, str_same, bw0, cellsAt_app bw0, bg0, cellsAt_app bg0, o2_w0, o5_g0]
  refine awCall_ctr ((ScoreOfStream_il r_t10.rd aDivision eaList).weaken (by omega)) ?_
  rintro _ M11 ⟨v_h0, rfl, r_h0, k11⟩
  have n11 := k11.len
  replace raList := raList.keeps k11
  replace r_t1 := r_t1.keeps k11
  replace r_w0 := r_w0.keeps k11
  replace m_x0 := m_x0.keeps k11
  replace m_g0 := m_g0.keeps k11
  replace r_t7 := r_t7.keeps k11
  replace r_t10 := r_t10.keeps k11
  have K11 := K10.trans k11
  replace bw0 := cellsAt_keeps k11 bw0
  replace bg0 := cellsAt_keeps k11 bg0
  clear k11
  have o11_h0 := r_h0.one
  try simp (disch := omega) [wrap_in, dec_neg, str_same, bw0, cellsAt_app bw0, bg0, cellsAt_app bg0, o2_w0, o5_g0, o11_h0]
  obtain ⟨M12, hM12⟩ : ∃ M' : Mem, M' = M11 ++ [.live ⟨[v_h0], true, true, 26, 1⟩] := ⟨_, rfl⟩
  have bh0 : cellsAt M12 M11.length 0 1 = some [v_h0] := by rw [hM12]; simp
  have k12 : Keeps M11 M12 := by rw [hM12]; exact keeps_app _
  have n12 : M12.length = M11.length + 1 := by rw [hM12]; simp
  rw [← hM12]
  replace raList := raList.keeps k12
  replace r_t1 := r_t1.keeps k12
  replace r_w0 := r_w0.keeps k12
  replace m_x0 := m_x0.keeps k12
  replace m_g0 := m_g0.keeps k12
  replace r_t7 := r_t7.keeps k12
  replace r_t10 := r_t10.keeps k12
  replace r_h0 := r_h0.keeps k12
  have K12 := K11.trans k12
  replace bw0 := cellsAt_keeps k12 bw0
  replace bg0 := cellsAt_keeps k12 bg0
  clear k12 hM12
  try simp (disch := omega) [wrap_in, dec_neg, str_same, bw0, cellsAt_app bw0, bg0, cellsAt_app bg0, bh0, cellsAt_app bh0, o2_w0, o5_g0, o11_h0]
  refine awCall_det' (eq_Score r_h0 r_w0.rd) (by omega) ?_
  try simp (disch := omega) [wrap_in, dec_neg, str_same, bw0, cellsAt_app bw0, bg0, cellsAt_app bg0, bh0, cellsAt_app bh0, o2_w0, o5_g0, o11_h0]
  refine awCall_det' (held_Score m_g0 (by omega) (by omega)) (by omega) ?_
  try simp (disch := omega) [wrap_in, dec_neg, str_same, bw0, cellsAt_app bw0, bg0, cellsAt_app bg0, bh0, cellsAt_app bh0, o2_w0, o5_g0, o11_h0]
  try simp [K12]
set_option maxRecDepth 100000 in
theorem FnExactScoreOfStream_lifted (os : Os) (started : os.Started) (H : Type) (enc : TypeId × Value → H) :
    ReturnsInHanded {} Try.checked os 4 .any (Rows.fnExactScoreOfStreamSpec.pre6 enc Try.prog Try.f4 Rows.fnExactScoreOfStreamRow.domain false) (Rows.fnExactScoreOfStreamSpec.post enc Try.prog Try.f4 false true false false) := by
  refine returnsInHanded_of_change (C := Try.checked) own_knob started (by kernel_rfl) Try.func4
    (ChangeSpec.witness6 (enc := enc) (C := Try.checked) false ⟨#[], #[.slice none 0 0, .int .i64 0], []⟩ 8 (by kernel_rfl) (by kernel_rfl) (by kernel_rfl) (by kernel_rfl)) ?_
  intro W base args ds gs before hval0 hW hcnd _
  have hval : ∀ (j : Nat) t v, Try.f4.params[j]? = some t → args[j]? = some v → Value.okWide Try.prog W .any base t v := hval0
  have hW' := hW
  have hlt := hW.lt
  obtain ⟨p, q, hA0, hV, rfl, hfz, hnd⟩ := hW
  have hA : DataW.TrodAll enc Try.prog W 0 (fun _ => true) true Try.f4.params.toList args.toList ds p := hA0
  rw [Try.params4] at hA hval
  obtain ⟨v0, v1, d0, d1, p0, p1, rfl, rfl, rfl, h0, h1⟩ := trodAll_two hA
  have ar0 := Arg.flats streamEventI Try.underlying38 (by kernel_rfl) (show Try.prog.cellsOf 88 = 5 from by kernel_rfl) (by omega) hlt (hval 0 _ v0 rfl rfl) h0 (fun x hx => by simp [hx])
  obtain ⟨a1, rfl, rfl, rfl, wa1⟩ := open_int Try.underlying2 (hval 1 2 v1 rfl rfl) h1
  have R := AR.nil W
  obtain ⟨L0, μ0, u0, R0, B0, n0, c0, l0, rfl, hn0, hs0, hw0⟩ := R.next ar0
  have K0 := RdL.of_sl hn0 hs0 c0
  obtain ⟨L1, μ1, u1, R1, rfl⟩ := R0.next (Arg.plain (c := iv a1) rfl)
  replace K0 := K0.up L1
  refine (law_end R1 (lawScoreOfStream_a a1 K0 hw0 wa1) ).mono fun e W' ⟨he, hb⟩ => ?_
  subst he
  exact ⟨_, rfl, law_post rfl rfl (by kernel_rfl) rfl hW' hb⟩
theorem FnExactScoreOfStream_holds : Rows.FnExactScoreOfStreamSaid :=
  OpenClaim.holds_of_wide 4 Try.f4 rfl rfl rfl rfl rfl rfl rfl ⟨rfl, rfl, rfl, rfl, rfl⟩ rfl rfl rfl rfl rfl (by kernel_rfl) Try.func4 (by kernel_rfl)
    (of_decide_eq_true (by kernel_rfl)) (by unfold Func.isWrapper; first | (rw [if_pos (by decide +kernel)]; kernel_rfl) | (rw [if_neg (by decide +kernel)]; exact ⟨rfl, rfl⟩))
    (fun os started H enc _ => FnExactScoreOfStream_lifted os started H enc)
#print axioms FnExactScoreOfStream_holds
end Go.Proofs.Ytbpaeonfebmomaa
