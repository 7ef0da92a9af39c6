/- For every input: the program's SmoothWindow returns what the reference's returns, leaves its arguments alone, and hands back memory of its own. No conditions. -/
import Derived.Test.YtjfhjmpkiaakhaaLine
import Derived.Test.YtjfhjmpkiaakhaaLaw
namespace Go.Proofs.Ytjfhjmpkiaakhaa
open Go.ChangeShapes Go.WideShapes Go.ChangeAt Go.RowKit
set_option linter.unusedVariables false
set_option linter.unusedSimpArgs false

theorem lineR_short (f : Int → Int → Int) (n : Int) : (lineR f n).length ≤ 256 := by
  unfold lineR
  split
  · rename_i h
    have := inB_iff.1 h
    rw [lineL_len]; omega
  · simp
theorem I_SmoothWindow {n : Int} {w : World} : Calls Try.prog 25 #[iv n] w fun e w' => ∃ g, e = .returned (.tuple #[g, iv (lineC n)]) ∧ HelI w' w.heap.size w'.heap.size g (lineR smoV n) ∧ Below w.heap.size w w' :=
  (smo_impl n w).mono fun e w' ⟨g, he, ho, hb⟩ => ⟨g, he, ho.hel, hb⟩
theorem S_SmoothWindow {n : Int} {w : World} : Calls Try.prog 24 #[iv n] w fun e w' => ∃ g, e = .returned (.tuple #[g, iv (lineC n)]) ∧ HelI w' w.heap.size w'.heap.size g (lineR smoV n) ∧ Below w.heap.size w w' :=
  (smo_spec n w).mono fun e w' ⟨g, he, ho, hb⟩ => ⟨g, he, ho.hel, hb⟩

set_option maxHeartbeats 2000000 in
theorem lawSmoothWindow (aN : Int) (w : World)  :
    Calls Try.prog 8 #[iv aN] w fun e w' => e = .returned (.bool true) ∧ Below w.heap.size w w' := by
  have hs := lineR_short smoV aN
  have B := Below.refl w.heap.size w
  go_enter Try.func8, Try.ntmps8
  go_wp2_with fail
  refine (S_SmoothWindow ).mono ?_; rintro e w1 ⟨w0, rfl, o_w0', hb⟩
  have s1 := hb.size
  replace B := B.trans (hb.mono B.size)
  clear hb
  have o_w0 := o_w0'
  clear o_w0'
  go_wp2_with fail
  refine (I_SmoothWindow ).mono ?_; rintro e w2 ⟨g0, rfl, o_g0', hb⟩
  have s2 := hb.size
  replace o_w0 := o_w0.below hb o_w0.top
  replace B := B.trans (hb.mono B.size)
  clear hb
  have o_g0 := o_g0'
  clear o_g0'
  go_wp2_with fail
  refine (eq_I o_g0.rdI o_w0.rdI).mono ?_; rintro e w3 ⟨rfl, hb⟩
  have s3 := hb.size
  replace o_w0 := o_w0.below hb o_w0.top
  replace o_g0 := o_g0.below hb o_g0.top
  replace B := B.trans (hb.mono B.size)
  clear hb
  go_wp2_with fail
  refine (mark_I o_g0 (by omega) (by omega)).mono ?_; rintro e w4 ⟨rfl, o_g0', ho⟩
  have s4 := ho.size
  replace o_w0 := o_w0.outside ho (by omega)
  replace B := B.trans (ho.below (by omega) B.size)
  replace o_g0 := o_g0'
  clear o_g0' ho
  go_wp2_with fail
  refine (held_I o_g0 (by omega) (by omega)).mono ?_; rintro e w5 ⟨rfl, hb⟩
  have s5 := hb.size
  replace o_w0 := o_w0.below hb o_w0.top
  replace o_g0 := o_g0.below hb o_g0.top
  replace B := B.trans (hb.mono B.size)
  clear hb
  go_wp2_with fail
  refine (I_SmoothWindow ).mono ?_; rintro e w6 ⟨h0, rfl, o_h0', hb⟩
  have s6 := hb.size
  replace o_w0 := o_w0.below hb o_w0.top
  replace o_g0 := o_g0.below hb o_g0.top
  replace B := B.trans (hb.mono B.size)
  clear hb
  have o_h0 := o_h0'
  clear o_h0'
  go_wp2_with fail
  refine (eq_I o_h0.rdI o_w0.rdI).mono ?_; rintro e w7 ⟨rfl, hb⟩
  have s7 := hb.size
  replace o_w0 := o_w0.below hb o_w0.top
  replace o_g0 := o_g0.below hb o_g0.top
  replace o_h0 := o_h0.below hb o_h0.top
  replace B := B.trans (hb.mono B.size)
  clear hb
  go_wp2_with fail
  refine (held_I o_g0 (by omega) (by omega)).mono ?_; rintro e w8 ⟨rfl, hb⟩
  have s8 := hb.size
  replace o_w0 := o_w0.below hb o_w0.top
  replace o_g0 := o_g0.below hb o_g0.top
  replace o_h0 := o_h0.below hb o_h0.top
  replace B := B.trans (hb.mono B.size)
  clear hb
  go_wp2
  go_ret
  exact ⟨rfl, B⟩

set_option maxRecDepth 100000 in
theorem FnExactSmoothWindow_lifted (os : Os) (started : os.Started) (H : Type) (enc : TypeId × Value → H) :
    ReturnsInHanded {} Try.checked os 8 .any (Rows.fnExactSmoothWindowSpec.pre6 enc Try.prog Try.f8 Rows.fnExactSmoothWindowRow.domain false) (Rows.fnExactSmoothWindowSpec.post enc Try.prog Try.f8 false true false false) := by
  refine returnsInHanded_of_change (C := Try.checked) own_knob started (by kernel_rfl) Try.func8
    (ChangeSpec.witness6 (enc := enc) (C := Try.checked) false ⟨#[], #[.int .i64 0], []⟩ 8 (by kernel_rfl) (by kernel_rfl) (by kernel_rfl) (by kernel_rfl)) ?_
  intro W base args ds gs before hval0 hW hcnd _
  have hval : ∀ (j : Nat) t v, Try.f8.params[j]? = some t → args[j]? = some v → Value.okWide Try.prog W .any base t v := hval0
  have hW' := hW
  have hlt := hW.lt
  obtain ⟨p, q, hA0, hV, rfl, hfz, hnd⟩ := hW
  have hA : DataW.TrodAll enc Try.prog W 0 (fun _ => true) true Try.f8.params.toList args.toList ds p := hA0
  rw [Try.params8] at hA hval
  obtain ⟨v0, d0, rfl, rfl, h0⟩ := trodAll_one hA
  obtain ⟨a0, rfl, rfl, rfl, wa0⟩ := open_int Try.underlying2 (hval 0 2 v0 rfl rfl) h0
  refine (lawSmoothWindow a0 W).mono fun e W' ⟨he, hb⟩ => ?_
  subst he
  exact ⟨_, rfl, law_post rfl rfl (by kernel_rfl) rfl hW' hb⟩
theorem FnExactSmoothWindow_holds : Rows.FnExactSmoothWindowSaid :=
  OpenClaim.holds_of_wide 8 Try.f8 rfl rfl rfl rfl rfl rfl rfl ⟨rfl, rfl, rfl, rfl, rfl⟩ rfl rfl rfl rfl rfl (by kernel_rfl) Try.func8 (by kernel_rfl)
    (of_decide_eq_true (by kernel_rfl)) (by unfold Func.isWrapper; first | (rw [if_pos (by decide +kernel)]; kernel_rfl) | (rw [if_neg (by decide +kernel)]; exact ⟨rfl, rfl⟩))
    (fun os started H enc _ => FnExactSmoothWindow_lifted os started H enc)
#print axioms FnExactSmoothWindow_holds
end Go.Proofs.Ytjfhjmpkiaakhaa
