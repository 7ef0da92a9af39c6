/- For every input: the program's NeededVoices returns what the reference's returns, leaves its arguments alone, and hands back memory of its own. No conditions. -/
import Derived.Test.YtdcfofaojalilaaG11
namespace Go.Proofs.Ytdcfofaojalilaa
open Go.ChangeShapes Go.WideShapes Go.ChangeAt Go.RowKit
open Go.RowKit
set_option linter.unusedVariables false
set_option linter.unusedSimpArgs false
set_option maxRecDepth 100000
attribute [local simp] List.getElem?_cons_zero
attribute [local irreducible] awCond awCall awLoop awDraw ow retQ retC resQ Keeps

set_option maxHeartbeats 4000000 in
theorem lawNeededVoices_a {M : Mem} {vaList : Value} {xaList : List Gate} (raList : RdL gateR 0 M.length M vaList xaList) (waList : ∀ a ∈ xaList, ∃ ys : List Int, a = gateI.of ys ∧ ys.length = 5 ∧ ∀ z ∈ ys, (Lit.int .i64 z).wf = true) : Det Try.prog M.length 11 [vaList] M (.bool true) M := by
  have K0 := Keeps.refl M
  by_cases gaList : (1048576 : Int) < xaList.length
  · first | (refine det_fn Try.func11 rfl Try.ntmps11 Try.results11 rfl rfl rfl (by simp) ?_) | (refine det_fnC Try.func11 rfl Try.ntmps11 Try.results11 rfl rfl (by simp) ?_)
    simp
    refine awCall_det' (sz_GateS_over raList (z := 1048576) (by omega) (by omega) (by omega)) (by omega) ?_
    simp [K0]
  have eaList : xaList.length ≤ 1048576 := by omega
  first | (refine det_fn Try.func11 rfl Try.ntmps11 Try.results11 rfl rfl rfl (by simp) ?_) | (refine det_fnC Try.func11 rfl Try.ntmps11 Try.results11 rfl rfl (by simp) ?_)
  simp
  refine awCall_det' (sz_GateS raList (z := 1048576) (by omega) (by omega) (by omega)) (by omega) ?_
  try simp (disch := omega) [wrap_in, dec_neg, str_same]
  refine awCall_ctr ((to_GateS raList eaList).weaken (by omega)) ?_
  rintro _ M1 ⟨r_t1, k1⟩
  have n1 := k1.len
  replace raList := raList.keeps k1
  have K1 := K0.trans k1
  clear k1
  try simp (disch := omega) [wrap_in, dec_neg, str_same]
  refine awCall_det' (NeededVoices_sl r_t1.rd eaList) (by omega) ?_
  try simp (disch := omega) [wrap_in, dec_neg, str_same]
  refine awCall_ctr ((to_GateS raList eaList).weaken (by omega)) ?_
  rintro _ M2 ⟨r_t2, k2⟩
  have n2 := k2.len
  replace raList := raList.keeps k2
  replace r_t1 := r_t1.keeps k2
  have K2 := K1.trans k2
  clear k2
  try simp (disch := omega) [wrap_in, dec_neg, str_same]
  refine awCall_det' (NeededVoices_il r_t2.rd eaList) (by omega) ?_
  try simp (disch := omega) [wrap_in, dec_neg, str_same]
  refine awCall_ctr ((to_GateS raList eaList).weaken (by omega)) ?_
  rintro _ M3 ⟨r_t3, k3⟩
  have n3 := k3.len
  replace raList := raList.keeps k3
  replace r_t1 := r_t1.keeps k3
  replace r_t2 := r_t2.keeps k3
  have K3 := K2.trans k3
  clear k3
  try simp (disch := omega) [wrap_in, dec_neg, str_same]
  refine awCall_det' (eq_GateS r_t2 r_t3.rd) (by omega) ?_
  try simp (disch := omega) [wrap_in, dec_neg, str_same]
  try simp [K3]
set_option maxRecDepth 100000 in
theorem FnExactNeededVoices_lifted (os : Os) (started : os.Started) (H : Type) (enc : TypeId × Value → H) :
    ReturnsInHanded {} Try.checked os 11 .any (Rows.fnExactNeededVoicesSpec.pre6 enc Try.prog Try.f11 Rows.fnExactNeededVoicesRow.domain false) (Rows.fnExactNeededVoicesSpec.post enc Try.prog Try.f11 false true false false) := by
  refine returnsInHanded_of_change (C := Try.checked) own_knob started (by kernel_rfl) Try.func11
    (ChangeSpec.witness6 (enc := enc) (C := Try.checked) false ⟨#[], #[.slice none 0 0], []⟩ 8 (by kernel_rfl) (by kernel_rfl) (by kernel_rfl) (by kernel_rfl)) ?_
  intro W base args ds gs before hval0 hW hcnd _
  have hval : ∀ (j : Nat) t v, Try.f11.params[j]? = some t → args[j]? = some v → Value.okWide Try.prog W .any base t v := hval0
  have hW' := hW
  have hlt := hW.lt
  obtain ⟨p, q, hA0, hV, rfl, hfz, hnd⟩ := hW
  have hA : DataW.TrodAll enc Try.prog W 0 (fun _ => true) true Try.f11.params.toList args.toList ds p := hA0
  rw [Try.params11] at hA hval
  obtain ⟨v0, d0, rfl, rfl, h0⟩ := trodAll_one hA
  have ar0 := Arg.flats gateI Try.underlying22 (by kernel_rfl) (show Try.prog.cellsOf 47 = 5 from by kernel_rfl) (by omega) hlt (hval 0 _ v0 rfl rfl) h0 (fun x hx => by simp [hx])
  have R := AR.nil W
  obtain ⟨L0, μ0, u0, R0, B0, n0, c0, l0, rfl, hn0, hs0, hw0⟩ := R.next ar0
  have K0 := RdL.of_sl hn0 hs0 c0
  refine (law_end R0 (lawNeededVoices_a  K0 hw0) ).mono fun e W' ⟨he, hb⟩ => ?_
  subst he
  exact ⟨_, rfl, law_post rfl rfl (by kernel_rfl) rfl hW' hb⟩
theorem FnExactNeededVoices_holds : Rows.FnExactNeededVoicesSaid :=
  OpenClaim.holds_of_wide 11 Try.f11 rfl rfl rfl rfl rfl rfl rfl ⟨rfl, rfl, rfl, rfl, rfl⟩ rfl rfl rfl rfl rfl (by kernel_rfl) Try.func11 (by kernel_rfl)
    (of_decide_eq_true (by kernel_rfl)) (by unfold Func.isWrapper; first | (rw [if_pos (by decide +kernel)]; kernel_rfl) | (rw [if_neg (by decide +kernel)]; exact ⟨rfl, rfl⟩))
    (fun os started H enc _ => FnExactNeededVoices_lifted os started H enc)
#print axioms FnExactNeededVoices_holds
end Go.Proofs.Ytdcfofaojalilaa
