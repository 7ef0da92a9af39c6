/- For every input: the program's AllocateVoices returns what the reference's returns, leaves its arguments alone, and hands back memory of its own. No conditions. -/
import Derived.Test.YtdcfofaojalilaaG11
namespace Go.Proofs.Ytdcfofaojalilaa
open Go.ChangeShapes Go.WideShapes Go.ChangeAt Go.RowKit
open Go.RowKit
set_option linter.unusedVariables false
set_option linter.unusedSimpArgs false
set_option maxRecDepth 100000
attribute [local simp] List.getElem?_cons_zero
attribute [local irreducible] awCond awCall awLoop awDraw ow retQ retC resQ Keeps

set_option maxHeartbeats 4000000 in
theorem lawAllocateVoices_a {M : Mem} {vaList : Value} {xaList : List Gate} (aVoices : Int) (raList : RdL gateR 0 M.length M vaList xaList) (waList : ∀ a ∈ xaList, ∃ ys : List Int, a = gateI.of ys ∧ ys.length = 5 ∧ ∀ z ∈ ys, (Lit.int .i64 z).wf = true) (waVoices : (Lit.int .i64 aVoices).wf = true) : Det Try.prog M.length 12 [vaList, iv aVoices] M (.bool true) M := by
  have K0 := Keeps.refl M
  by_cases gaList : (1048576 : Int) < xaList.length
  · first | (refine det_fn Try.func12 rfl Try.ntmps12 Try.results12 rfl rfl rfl (by simp) ?_) | (refine det_fnC Try.func12 rfl Try.ntmps12 Try.results12 rfl rfl (by simp) ?_)
    simp
    refine awCall_det' (sz_GateS_over raList (z := 1048576) (by omega) (by omega) (by omega)) (by omega) ?_
    simp [K0]
  have eaList : xaList.length ≤ 1048576 := by omega
  first | (refine det_fn Try.func12 rfl Try.ntmps12 Try.results12 rfl rfl rfl (by simp) ?_) | (refine det_fnC Try.func12 rfl Try.ntmps12 Try.results12 rfl rfl (by simp) ?_)
  simp
  refine awCall_det' (sz_GateS raList (z := 1048576) (by omega) (by omega) (by omega)) (by omega) ?_
  try simp (disch := omega) [wrap_in, dec_neg, str_same]
  refine awCall_ctr ((to_GateS raList eaList).weaken (by omega)) ?_
  rintro _ M1 ⟨r_t1, k1⟩
  have n1 := k1.len
  replace raList := raList.keeps k1
  have K1 := K0.trans k1
  clear k1
  try simp (disch := omega) [wrap_in, dec_neg, str_same]
  refine awCall_ctr ((AllocateVoices_sl r_t1.rd aVoices eaList).weaken (by omega)) ?_
  rintro _ M2 ⟨v_w0, rfl, r_w0, k2⟩
  have n2 := k2.len
  replace raList := raList.keeps k2
  replace r_t1 := r_t1.keeps k2
  have K2 := K1.trans k2
  clear k2
  try simp (disch := omega) [wrap_in, dec_neg, str_same]
  refine awCall_ctr ((to_GateS raList eaList).weaken (by omega)) ?_
  rintro _ M3 ⟨r_t3, k3⟩
  have n3 := k3.len
  replace raList := raList.keeps k3
  replace r_t1 := r_t1.keeps k3
  replace r_w0 := r_w0.keeps k3
  have K3 := K2.trans k3
  clear k3
  try simp (disch := omega) [wrap_in, dec_neg, str_same]
  refine awCall_ctr ((AllocateVoices_il r_t3.rd aVoices eaList).weaken (by omega)) ?_
  rintro _ M4 ⟨v_g0, rfl, r_g0, k4⟩
  have n4 := k4.len
  replace raList := raList.keeps k4
  replace r_t1 := r_t1.keeps k4
  replace r_w0 := r_w0.keeps k4
  replace r_t3 := r_t3.keeps k4
  have K4 := K3.trans k4
  clear k4
  try simp (disch := omega) [wrap_in, dec_neg, str_same]
  refine awCall_det' (eq_GateS r_g0 r_w0.rd) (by omega) ?_
  try simp (disch := omega) [wrap_in, dec_neg, str_same]
  refine awCall_ctr ((to_GateS raList eaList).weaken (by omega)) ?_
  rintro _ M5 ⟨r_t5, k5⟩
  have n5 := k5.len
  replace raList := raList.keeps k5
  replace r_t1 := r_t1.keeps k5
  replace r_w0 := r_w0.keeps k5
  replace r_t3 := r_t3.keeps k5
  replace r_g0 := r_g0.keeps k5
  have K5 := K4.trans k5
  clear k5
  try simp (disch := omega) [wrap_in, dec_neg, str_same]
  refine awCall_det' (eq_GateS r_t3 r_t5.rd) (by omega) ?_
  try simp (disch := omega) [wrap_in, dec_neg, str_same]
  refine awCall_ctr ((mark_GateS (b := M.length) r_t3 (by omega) (by omega) (by omega)).weaken (Nat.le_refl _)) ?_
  rintro _ M6 ⟨rfl, m_x0, k6⟩
  have n6 := k6.1
  replace raList := raList.turn k6 (by omega)
  replace r_t1 := r_t1.turn k6 (by omega)
  replace r_w0 := r_w0.turn k6 (by omega)
  replace r_g0 := r_g0.turn k6 (by omega)
  replace r_t5 := r_t5.turn k6 (by omega)
  have K6 := k6.keeps K5 (by omega)
  clear k6
  try simp (disch := omega) [wrap_in, dec_neg, str_same]
  refine awCall_det' (eq_GateS r_g0 r_w0.rd) (by omega) ?_
  try simp (disch := omega) [wrap_in, dec_neg, str_same]
  refine awCall_ctr ((mark_GateS (b := M.length) r_g0 (by omega) (by omega) (by omega)).weaken (Nat.le_refl _)) ?_
  rintro _ M7 ⟨rfl, m_g0, k7⟩
  have n7 := k7.1
  replace raList := raList.turn k7 (by omega)
  replace r_t1 := r_t1.turn k7 (by omega)
  replace r_w0 := r_w0.turn k7 (by omega)
  replace m_x0 := m_x0.turn k7 (by omega)
  replace r_t5 := r_t5.turn k7 (by omega)
  have K7 := k7.keeps K6 (by omega)
  clear k7
  try simp (disch := omega) [wrap_in, dec_neg, str_same]
  refine awCall_det' (held_GateS m_g0 (by omega) (by omega)) (by omega) ?_
  try simp (disch := omega) [wrap_in, dec_neg, str_same]
  refine awCall_ctr ((to_GateS raList eaList).weaken (by omega)) ?_
  rintro _ M8 ⟨r_t8, k8⟩
  have n8 := k8.len
  replace raList := raList.keeps k8
  replace r_t1 := r_t1.keeps k8
  replace r_w0 := r_w0.keeps k8
  replace m_x0 := m_x0.keeps k8
  replace m_g0 := m_g0.keeps k8
  replace r_t5 := r_t5.keeps k8
  have K8 := K7.trans k8
  clear k8
  try simp (disch := omega) [wrap_in, dec_neg, str_same]
  refine awCall_ctr ((AllocateVoices_il r_t8.rd aVoices eaList).weaken (by omega)) ?_
  rintro _ M9 ⟨v_h0, rfl, r_h0, k9⟩
  have n9 := k9.len
  replace raList := raList.keeps k9
  replace r_t1 := r_t1.keeps k9
  replace r_w0 := r_w0.keeps k9
  replace m_x0 := m_x0.keeps k9
  replace m_g0 := m_g0.keeps k9
  replace r_t5 := r_t5.keeps k9
  replace r_t8 := r_t8.keeps k9
  have K9 := K8.trans k9
  clear k9
  try simp (disch := omega) [wrap_in, dec_neg, str_same]
  refine awCall_det' (eq_GateS r_h0 r_w0.rd) (by omega) ?_
  try simp (disch := omega) [wrap_in, dec_neg, str_same]
  refine awCall_det' (held_GateS m_g0 (by omega) (by omega)) (by omega) ?_
  try simp (disch := omega) [wrap_in, dec_neg, str_same]
  try simp [K9]
set_option maxRecDepth 100000 in
theorem FnExactAllocateVoices_lifted (os : Os) (started : os.Started) (H : Type) (enc : TypeId × Value → H) :
    ReturnsInHanded {} Try.checked os 12 .any (Rows.fnExactAllocateVoicesSpec.pre6 enc Try.prog Try.f12 Rows.fnExactAllocateVoicesRow.domain false) (Rows.fnExactAllocateVoicesSpec.post enc Try.prog Try.f12 false true false false) := by
  refine returnsInHanded_of_change (C := Try.checked) own_knob started (by kernel_rfl) Try.func12
    (ChangeSpec.witness6 (enc := enc) (C := Try.checked) false ⟨#[], #[.slice none 0 0, .int .i64 0], []⟩ 8 (by kernel_rfl) (by kernel_rfl) (by kernel_rfl) (by kernel_rfl)) ?_
  intro W base args ds gs before hval0 hW hcnd _
  have hval : ∀ (j : Nat) t v, Try.f12.params[j]? = some t → args[j]? = some v → Value.okWide Try.prog W .any base t v := hval0
  have hW' := hW
  have hlt := hW.lt
  obtain ⟨p, q, hA0, hV, rfl, hfz, hnd⟩ := hW
  have hA : DataW.TrodAll enc Try.prog W 0 (fun _ => true) true Try.f12.params.toList args.toList ds p := hA0
  rw [Try.params12] at hA hval
  obtain ⟨v0, v1, d0, d1, p0, p1, rfl, rfl, rfl, h0, h1⟩ := trodAll_two hA
  have ar0 := Arg.flats gateI Try.underlying22 (by kernel_rfl) (show Try.prog.cellsOf 47 = 5 from by kernel_rfl) (by omega) hlt (hval 0 _ v0 rfl rfl) h0 (fun x hx => by simp [hx])
  obtain ⟨a1, rfl, rfl, rfl, wa1⟩ := open_int Try.underlying2 (hval 1 2 v1 rfl rfl) h1
  have R := AR.nil W
  obtain ⟨L0, μ0, u0, R0, B0, n0, c0, l0, rfl, hn0, hs0, hw0⟩ := R.next ar0
  have K0 := RdL.of_sl hn0 hs0 c0
  obtain ⟨L1, μ1, u1, R1, rfl⟩ := R0.next (Arg.plain (c := iv a1) rfl)
  replace K0 := K0.up L1
  refine (law_end R1 (lawAllocateVoices_a a1 K0 hw0 wa1) ).mono fun e W' ⟨he, hb⟩ => ?_
  subst he
  exact ⟨_, rfl, law_post rfl rfl (by kernel_rfl) rfl hW' hb⟩
theorem FnExactAllocateVoices_holds : Rows.FnExactAllocateVoicesSaid :=
  OpenClaim.holds_of_wide 12 Try.f12 rfl rfl rfl rfl rfl rfl rfl ⟨rfl, rfl, rfl, rfl, rfl⟩ rfl rfl rfl rfl rfl (by kernel_rfl) Try.func12 (by kernel_rfl)
    (of_decide_eq_true (by kernel_rfl)) (by unfold Func.isWrapper; first | (rw [if_pos (by decide +kernel)]; kernel_rfl) | (rw [if_neg (by decide +kernel)]; exact ⟨rfl, rfl⟩))
    (fun os started H enc _ => FnExactAllocateVoices_lifted os started H enc)
#print axioms FnExactAllocateVoices_holds
end Go.Proofs.Ytdcfofaojalilaa
