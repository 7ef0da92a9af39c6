/- For every input: the program's CanonicalStream returns what the reference's returns, leaves its arguments alone, and hands back memory of its own. No conditions. -/
import Derived.Test.YtdpglbhiaebnoaaD4
import Derived.ChangeMaps5
namespace Go.Proofs.Ytdpglbhiaebnoaa
open Go.ChangeShapes Go.WideShapes Go.ChangeAt Go.RowKit
open Go.RowKit
set_option linter.unusedVariables false
set_option linter.unusedSimpArgs false
set_option maxRecDepth 100000
attribute [local simp] List.getElem?_cons_zero
attribute [local irreducible] awCond awCall awLoop awDraw ow retQ retC resQ Keeps

set_option maxHeartbeats 4000000 in
theorem lawCanonicalStream_a {M : Mem} (aS : ByteArray)  : Det Try.prog M.length 7 [.string aS] M (.bool true) M := by
  have K0 := Keeps.refl M
  first | (refine det_fn Try.func7 rfl Try.ntmps7 Try.results7 rfl rfl rfl (by simp) ?_) | (refine det_fnC Try.func7 rfl Try.ntmps7 Try.results7 rfl rfl (by simp) ?_)
  simp
  refine awCond_split ?_ ?_ <;> intro hq
  · simp [K0]
  have eaS : aS.size ≤ 1048576 := by simp at hq; omega
  clear hq
  try simp (disch := omega) [wrap_in, dec_neg, str_same]
  refine awCall_det' (CanonicalStream_s aS eaS) (by omega) ?_
  try simp (disch := omega) [wrap_in, dec_neg, str_same]
  refine awCall_det' (CanonicalStream_i aS eaS) (by omega) ?_
  try simp (disch := omega) [wrap_in, dec_neg, str_same]
  try simp [K0]
set_option maxRecDepth 100000 in
theorem FnExactCanonicalStream_lifted (os : Os) (started : os.Started) (H : Type) (enc : TypeId × Value → H) :
    ReturnsInHanded {} Try.checked os 7 .any (Rows.fnExactCanonicalStreamSpec.pre6 enc Try.prog Try.f7 Rows.fnExactCanonicalStreamRow.domain false) (Rows.fnExactCanonicalStreamSpec.post enc Try.prog Try.f7 false true false false) := by
  refine returnsInHanded_of_change (C := Try.checked) own_knob started (by kernel_rfl) Try.func7
    (ChangeSpec.witness6 (enc := enc) (C := Try.checked) false ⟨#[], #[.string ByteArray.empty], []⟩ 8 (by kernel_rfl) (by kernel_rfl) (by kernel_rfl) (by kernel_rfl)) ?_
  intro W base args ds gs before hval0 hW hcnd _
  have hval : ∀ (j : Nat) t v, Try.f7.params[j]? = some t → args[j]? = some v → Value.okWide Try.prog W .any base t v := hval0
  have hW' := hW
  have hlt := hW.lt
  obtain ⟨p, q, hA0, hV, rfl, hfz, hnd⟩ := hW
  have hA : DataW.TrodAll enc Try.prog W 0 (fun _ => true) true Try.f7.params.toList args.toList ds p := hA0
  rw [Try.params7] at hA hval
  obtain ⟨v0, d0, rfl, rfl, h0⟩ := trodAll_one hA
  obtain ⟨s0, rfl, rfl, rfl, hs0⟩ := Go.ChangeMaps.open_string Try.underlying9 (hval 0 9 v0 rfl rfl) h0
  have R := AR.nil W
  obtain ⟨L0, μ0, u0, R0, rfl⟩ := R.next (Arg.plain (c := .string s0) rfl)
  refine (law_end R0 (lawCanonicalStream_a s0 ) ).mono fun e W' ⟨he, hb⟩ => ?_
  subst he
  exact ⟨_, rfl, law_post rfl rfl (by kernel_rfl) rfl hW' hb⟩
theorem FnExactCanonicalStream_holds : Rows.FnExactCanonicalStreamSaid :=
  OpenClaim.holds_of_wide 7 Try.f7 rfl rfl rfl rfl rfl rfl rfl ⟨rfl, rfl, rfl, rfl, rfl⟩ rfl rfl rfl rfl rfl (by kernel_rfl) Try.func7 (by kernel_rfl)
    (of_decide_eq_true (by kernel_rfl)) (by unfold Func.isWrapper; first | (rw [if_pos (by decide +kernel)]; kernel_rfl) | (rw [if_neg (by decide +kernel)]; exact ⟨rfl, rfl⟩))
    (fun os started H enc _ => FnExactCanonicalStream_lifted os started H enc)
#print axioms FnExactCanonicalStream_holds
end Go.Proofs.Ytdpglbhiaebnoaa
