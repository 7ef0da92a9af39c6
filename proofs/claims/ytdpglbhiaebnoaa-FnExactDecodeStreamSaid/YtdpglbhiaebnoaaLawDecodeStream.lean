/- For every input: the program's DecodeStream returns what the reference's returns, leaves its arguments alone, and hands back memory of its own. No conditions. -/
import Derived.Test.YtdpglbhiaebnoaaD3
import Derived.ChangeMaps5
namespace Go.Proofs.Ytdpglbhiaebnoaa
open Go.ChangeShapes Go.WideShapes Go.ChangeAt Go.RowKit
open Go.RowKit
set_option linter.unusedVariables false
set_option linter.unusedSimpArgs false
set_option maxRecDepth 100000
attribute [local simp] List.getElem?_cons_zero
attribute [local irreducible] awCond awCall awLoop awDraw ow retQ retC resQ Keeps

set_option maxHeartbeats 4000000 in
theorem lawDecodeStream_a {M : Mem} (aS : ByteArray)  : Det Try.prog M.length 6 [.string aS] M (.bool true) M := by
  have K0 := Keeps.refl M
  first | (refine det_fn Try.func6 rfl Try.ntmps6 Try.results6 rfl rfl rfl (by simp) ?_) | (refine det_fnC Try.func6 rfl Try.ntmps6 Try.results6 rfl rfl (by simp) ?_)
  simp
  refine awCond_split ?_ ?_ <;> intro hq
  · simp [K0]
  have eaS : aS.size ≤ 1048576 := by simp at hq; omega
  clear hq
  try simp (disch := omega) [wrap_in, dec_neg, str_same]
  refine awCall_ctr ((DecodeStream_s aS eaS).weaken (by omega)) ?_
  rintro _ M1 ⟨v_w0, rfl, r_w0, k1⟩
  have n1 := k1.len
  have K1 := K0.trans k1
  clear k1
  try simp (disch := omega) [wrap_in, dec_neg, str_same]
  refine awCall_ctr ((DecodeStream_i aS eaS).weaken (by omega)) ?_
  rintro _ M2 ⟨v_g0, rfl, r_g0, k2⟩
  have n2 := k2.len
  replace r_w0 := r_w0.keeps k2
  have K2 := K1.trans k2
  clear k2
  try simp (disch := omega) [wrap_in, dec_neg, str_same]
  refine awCall_det' (eq_StreamEventS r_g0 r_w0.rd) (by omega) ?_
  try simp (disch := omega) [wrap_in, dec_neg, str_same]
  refine awCall_ctr ((mark_StreamEventS (b := M.length) r_g0 (by omega) (by omega) (by omega)).weaken (Nat.le_refl _)) ?_
  rintro _ M3 ⟨rfl, m_g0, k3⟩
  have n3 := k3.1
  replace r_w0 := r_w0.turn k3 (by omega)
  have K3 := k3.keeps K2 (by omega)
  clear k3
  try simp (disch := omega) [wrap_in, dec_neg, str_same]
  refine awCall_det' (held_StreamEventS m_g0 (by omega) (by omega)) (by omega) ?_
  try simp (disch := omega) [wrap_in, dec_neg, str_same]
  refine awCall_ctr ((DecodeStream_i aS eaS).weaken (by omega)) ?_
  rintro _ M4 ⟨v_h0, rfl, r_h0, k4⟩
  have n4 := k4.len
  replace r_w0 := r_w0.keeps k4
  replace m_g0 := m_g0.keeps k4
  have K4 := K3.trans k4
  clear k4
  try simp (disch := omega) [wrap_in, dec_neg, str_same]
  refine awCall_det' (eq_StreamEventS r_h0 r_w0.rd) (by omega) ?_
  try simp (disch := omega) [wrap_in, dec_neg, str_same]
  refine awCall_det' (held_StreamEventS m_g0 (by omega) (by omega)) (by omega) ?_
  try simp (disch := omega) [wrap_in, dec_neg, str_same]
  try simp [K4]
set_option maxRecDepth 100000 in
theorem FnExactDecodeStream_lifted (os : Os) (started : os.Started) (H : Type) (enc : TypeId × Value → H) :
    ReturnsInHanded {} Try.checked os 6 .any (Rows.fnExactDecodeStreamSpec.pre6 enc Try.prog Try.f6 Rows.fnExactDecodeStreamRow.domain false) (Rows.fnExactDecodeStreamSpec.post enc Try.prog Try.f6 false true false false) := by
  refine returnsInHanded_of_change (C := Try.checked) own_knob started (by kernel_rfl) Try.func6
    (ChangeSpec.witness6 (enc := enc) (C := Try.checked) false ⟨#[], #[.string ByteArray.empty], []⟩ 8 (by kernel_rfl) (by kernel_rfl) (by kernel_rfl) (by kernel_rfl)) ?_
  intro W base args ds gs before hval0 hW hcnd _
  have hval : ∀ (j : Nat) t v, Try.f6.params[j]? = some t → args[j]? = some v → Value.okWide Try.prog W .any base t v := hval0
  have hW' := hW
  have hlt := hW.lt
  obtain ⟨p, q, hA0, hV, rfl, hfz, hnd⟩ := hW
  have hA : DataW.TrodAll enc Try.prog W 0 (fun _ => true) true Try.f6.params.toList args.toList ds p := hA0
  rw [Try.params6] at hA hval
  obtain ⟨v0, d0, rfl, rfl, h0⟩ := trodAll_one hA
  obtain ⟨s0, rfl, rfl, rfl, hs0⟩ := Go.ChangeMaps.open_string Try.underlying9 (hval 0 9 v0 rfl rfl) h0
  have R := AR.nil W
  obtain ⟨L0, μ0, u0, R0, rfl⟩ := R.next (Arg.plain (c := .string s0) rfl)
  refine (law_end R0 (lawDecodeStream_a s0 ) ).mono fun e W' ⟨he, hb⟩ => ?_
  subst he
  exact ⟨_, rfl, law_post rfl rfl (by kernel_rfl) rfl hW' hb⟩
theorem FnExactDecodeStream_holds : Rows.FnExactDecodeStreamSaid :=
  OpenClaim.holds_of_wide 6 Try.f6 rfl rfl rfl rfl rfl rfl rfl ⟨rfl, rfl, rfl, rfl, rfl⟩ rfl rfl rfl rfl rfl (by kernel_rfl) Try.func6 (by kernel_rfl)
    (of_decide_eq_true (by kernel_rfl)) (by unfold Func.isWrapper; first | (rw [if_pos (by decide +kernel)]; kernel_rfl) | (rw [if_neg (by decide +kernel)]; exact ⟨rfl, rfl⟩))
    (fun os started H enc _ => FnExactDecodeStream_lifted os started H enc)
#print axioms FnExactDecodeStream_holds
end Go.Proofs.Ytdpglbhiaebnoaa
