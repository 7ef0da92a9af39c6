/- For every input: the program's PutVar returns what the reference's returns, leaves its arguments alone, and hands back memory of its own. No conditions. -/
import Derived.Test.YtjfhjmpkiaakhaaLA
import Derived.Test.YtjfhjmpkiaakhaaV3
namespace Go.Proofs.Ytjfhjmpkiaakhaa
open Go.ChangeShapes Go.WideShapes Go.ChangeAt Go.RowKit
open Go.RowKit
set_option linter.unusedVariables false
set_option linter.unusedSimpArgs false
set_option maxRecDepth 100000
attribute [local simp] List.getElem?_cons_zero
attribute [local irreducible] awCond awCall awLoop awDraw ow retQ retC resQ Keeps

set_option maxHeartbeats 4000000 in
theorem lawPutVar_a {M : Mem} (aN : Int) (waN : (Lit.int .i64 aN).wf = true) : Det Try.prog M.length 4 [iv aN] M (.bool true) M := by
  have K0 := Keeps.refl M
  first | (refine det_fn Try.func4 rfl Try.ntmps4 Try.results4 rfl rfl rfl (by simp) ?_) | (refine det_fnC Try.func4 rfl Try.ntmps4 Try.results4 rfl rfl (by simp) ?_)
  simp
  refine awCall_det' (PutVar_s aN ) (by omega) ?_
  try simp (disch := omega) [wrap_in, dec_neg, str_same]
  refine awCall_det' (PutVar_i aN ) (by omega) ?_
  try simp (disch := omega) [wrap_in, dec_neg, str_same]
  try simp [K0]
set_option maxRecDepth 100000 in
theorem FnExactPutVar_lifted (os : Os) (started : os.Started) (H : Type) (enc : TypeId × Value → H) :
    ReturnsInHanded {} Try.checked os 4 .any (Rows.fnExactPutVarSpec.pre6 enc Try.prog Try.f4 Rows.fnExactPutVarRow.domain false) (Rows.fnExactPutVarSpec.post enc Try.prog Try.f4 false true false false) := by
  refine returnsInHanded_of_change (C := Try.checked) own_knob started (by kernel_rfl) Try.func4
    (ChangeSpec.witness6 (enc := enc) (C := Try.checked) false ⟨#[], #[.int .i64 0], []⟩ 8 (by kernel_rfl) (by kernel_rfl) (by kernel_rfl) (by kernel_rfl)) ?_
  intro W base args ds gs before hval0 hW hcnd _
  have hval : ∀ (j : Nat) t v, Try.f4.params[j]? = some t → args[j]? = some v → Value.okWide Try.prog W .any base t v := hval0
  have hW' := hW
  have hlt := hW.lt
  obtain ⟨p, q, hA0, hV, rfl, hfz, hnd⟩ := hW
  have hA : DataW.TrodAll enc Try.prog W 0 (fun _ => true) true Try.f4.params.toList args.toList ds p := hA0
  rw [Try.params4] at hA hval
  obtain ⟨v0, d0, rfl, rfl, h0⟩ := trodAll_one hA
  obtain ⟨a0, rfl, rfl, rfl, wa0⟩ := open_int Try.underlying2 (hval 0 2 v0 rfl rfl) h0
  have R := AR.nil W
  obtain ⟨L0, μ0, u0, R0, rfl⟩ := R.next (Arg.plain (c := iv a0) rfl)
  refine (law_end R0 (lawPutVar_a a0 wa0) ).mono fun e W' ⟨he, hb⟩ => ?_
  subst he
  exact ⟨_, rfl, law_post rfl rfl (by kernel_rfl) rfl hW' hb⟩
theorem FnExactPutVar_holds : Rows.FnExactPutVarSaid :=
  OpenClaim.holds_of_wide 4 Try.f4 rfl rfl rfl rfl rfl rfl rfl ⟨rfl, rfl, rfl, rfl, rfl⟩ rfl rfl rfl rfl rfl (by kernel_rfl) Try.func4 (by kernel_rfl)
    (of_decide_eq_true (by kernel_rfl)) (by unfold Func.isWrapper; first | (rw [if_pos (by decide +kernel)]; kernel_rfl) | (rw [if_neg (by decide +kernel)]; exact ⟨rfl, rfl⟩))
    (fun os started H enc _ => FnExactPutVar_lifted os started H enc)
#print axioms FnExactPutVar_holds
end Go.Proofs.Ytjfhjmpkiaakhaa
