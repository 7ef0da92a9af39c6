/- For every input: the program's GetVar returns what the reference's returns, leaves its arguments alone, and hands back memory of its own. No conditions. -/
import Derived.Test.YtjfhjmpkiaakhaaLA
import Derived.Test.YtjfhjmpkiaakhaaV1
import Derived.ChangeMaps5
namespace Go.Proofs.Ytjfhjmpkiaakhaa
open Go.ChangeShapes Go.WideShapes Go.ChangeAt Go.RowKit
open Go.RowKit
set_option linter.unusedVariables false
set_option linter.unusedSimpArgs false
set_option maxRecDepth 100000
attribute [local simp] List.getElem?_cons_zero
attribute [local irreducible] awCond awCall awLoop awDraw ow retQ retC resQ Keeps

set_option maxHeartbeats 4000000 in
theorem lawGetVar_a {M : Mem} (aS : ByteArray) (aAt : Int) (waAt : (Lit.int .i64 aAt).wf = true) : Det Try.prog M.length 5 [.string aS, iv aAt] M (.bool true) M := by
  have K0 := Keeps.refl M
  first | (refine det_fn Try.func5 rfl Try.ntmps5 Try.results5 rfl rfl rfl (by simp) ?_) | (refine det_fnC Try.func5 rfl Try.ntmps5 Try.results5 rfl rfl (by simp) ?_)
  simp
  refine awCond_split ?_ ?_ <;> intro hq
  · simp [K0]
  have eaS : aS.size ≤ 1048576 := by simp at hq; omega
  clear hq
  try simp (disch := omega) [wrap_in]
  refine awCall_det' (GetVar_s aS aAt (by omega)) (by omega) ?_
  try simp (disch := omega) [wrap_in]
  refine awCall_det' (GetVar_i aS aAt (by omega)) (by omega) ?_
  try simp (disch := omega) [wrap_in]
  try simp [K0]
set_option maxRecDepth 100000 in
theorem FnExactGetVar_lifted (os : Os) (started : os.Started) (H : Type) (enc : TypeId × Value → H) :
    ReturnsInHanded {} Try.checked os 5 .any (Rows.fnExactGetVarSpec.pre6 enc Try.prog Try.f5 Rows.fnExactGetVarRow.domain false) (Rows.fnExactGetVarSpec.post enc Try.prog Try.f5 false true false false) := by
  refine returnsInHanded_of_change (C := Try.checked) own_knob started (by kernel_rfl) Try.func5
    (ChangeSpec.witness6 (enc := enc) (C := Try.checked) false ⟨#[], #[.string ByteArray.empty, .int .i64 0], []⟩ 8 (by kernel_rfl) (by kernel_rfl) (by kernel_rfl) (by kernel_rfl)) ?_
  intro W base args ds gs before hval0 hW hcnd _
  have hval : ∀ (j : Nat) t v, Try.f5.params[j]? = some t → args[j]? = some v → Value.okWide Try.prog W .any base t v := hval0
  have hW' := hW
  have hlt := hW.lt
  obtain ⟨p, q, hA0, hV, rfl, hfz, hnd⟩ := hW
  have hA : DataW.TrodAll enc Try.prog W 0 (fun _ => true) true Try.f5.params.toList args.toList ds p := hA0
  rw [Try.params5] at hA hval
  obtain ⟨v0, v1, d0, d1, p0, p1, rfl, rfl, rfl, h0, h1⟩ := trodAll_two hA
  obtain ⟨s0, rfl, rfl, rfl, hs0⟩ := Go.ChangeMaps.open_string Try.underlying9 (hval 0 9 v0 rfl rfl) h0
  obtain ⟨a1, rfl, rfl, rfl, wa1⟩ := open_int Try.underlying2 (hval 1 2 v1 rfl rfl) h1
  have R := AR.nil W
  obtain ⟨L0, μ0, u0, R0, rfl⟩ := R.next (Arg.plain (c := .string s0) rfl)
  obtain ⟨L1, μ1, u1, R1, rfl⟩ := R0.next (Arg.plain (c := iv a1) rfl)
  refine (law_end R1 (lawGetVar_a s0 a1 wa1) ).mono fun e W' ⟨he, hb⟩ => ?_
  subst he
  exact ⟨_, rfl, law_post rfl rfl (by kernel_rfl) rfl hW' hb⟩
theorem FnExactGetVar_holds : Rows.FnExactGetVarSaid :=
  OpenClaim.holds_of_wide 5 Try.f5 rfl rfl rfl rfl rfl rfl rfl ⟨rfl, rfl, rfl, rfl, rfl⟩ rfl rfl rfl rfl rfl (by kernel_rfl) Try.func5 (by kernel_rfl)
    (of_decide_eq_true (by kernel_rfl)) (by unfold Func.isWrapper; first | (rw [if_pos (by decide +kernel)]; kernel_rfl) | (rw [if_neg (by decide +kernel)]; exact ⟨rfl, rfl⟩))
    (fun os started H enc _ => FnExactGetVar_lifted os started H enc)
#print axioms FnExactGetVar_holds
end Go.Proofs.Ytjfhjmpkiaakhaa
