/- For every input: the program's ReverseWindow returns what the reference's returns, leaves its arguments alone, and hands back memory of its own. No conditions. -/
import Derived.Test.YtoanpdoiigjehaaFade
import Derived.Test.YtoanpdoiigjehaaLaw
namespace Go.Proofs.Ytoanpdoiigjehaa
open Go.ChangeShapes Go.WideShapes Go.ChangeAt Go.RowKit
set_option linter.unusedVariables false
set_option linter.unusedSimpArgs false

def ReverseWindowR (l : List Int) : List Int := if winB l then l.reverse else []
theorem ReverseWindowR_short (l : List Int) : (ReverseWindowR l).length ≤ 256 := by
  unfold ReverseWindowR
  split
  · rename_i h
    have := (winB_len h).2
    simp [compL]; omega
  · simp
theorem I_ReverseWindow {v : Value} {x : List Int} {w : World} (hx : RdI w v x) :
    Calls Try.prog 19 #[v] w fun e w' => ∃ g, e = .returned g ∧ HelI w' w.heap.size w'.heap.size g (ReverseWindowR x) ∧ Below w.heap.size w w' := by
  obtain ⟨_, _, _, rfl, hx⟩ := hx
  exact (ReverseWindow_impl _ _ _ _ _ hx).mono fun e w' ⟨g, he, ho, hb⟩ => ⟨g, he, ho.hel, hb⟩
theorem S_ReverseWindow {v : Value} {x : List Int} {w : World} (hx : RdI w v x) :
    Calls Try.prog 18 #[v] w fun e w' => ∃ g, e = .returned g ∧ HelI w' w.heap.size w'.heap.size g (ReverseWindowR x) ∧ Below w.heap.size w w' := by
  obtain ⟨_, _, _, rfl, hx⟩ := hx
  exact (ReverseWindow_spec _ _ _ _ _ hx).mono fun e w' ⟨g, he, ho, hb⟩ => ⟨g, he, ho.hel, hb⟩

set_option maxHeartbeats 2000000 in
theorem lawReverseWindow (vaW : Value) (daW : List Int) (w : World) (raW : RdI w vaW daW) :
    Calls Try.prog 4 #[vaW] w fun e w' => e = .returned (.bool true) ∧ Below w.heap.size w w' := by
  obtain ⟨AaW, naW, caW, rfl, qaW⟩ := raW
  have eaW : Hid (daW.length = naW) := by have := qaW.1; rw [ints_len] at this; show _ = _; omega
  have raW : RdI w (.slice AaW naW caW) daW := ⟨_, _, _, rfl, qaW⟩
  by_cases gaW : 1048576 < naW
  · go_enter Try.func4, Try.ntmps4
    go_wp2_with fail
    go_ret
    exact ⟨rfl, Below.refl _ _⟩
  have baW : daW.length ≤ 1048576 := by rw [eaW.out]; omega
  have hs := ReverseWindowR_short daW
  have B := Below.refl w.heap.size w
  go_enter Try.func4, Try.ntmps4
  go_wp2_with fail
  refine (to_I (raW.below B) (by omega)).mono ?_; rintro e w1 ⟨t1, rfl, o_t1', hb⟩
  have s1 := hb.size
  replace B := B.trans (hb.mono B.size)
  clear hb
  have o_t1 := o_t1'
  clear o_t1'
  go_wp2_with fail
  refine (S_ReverseWindow o_t1.rdI).mono ?_; rintro e w2 ⟨w0, rfl, o_w0', hb⟩
  have s2 := hb.size
  replace o_t1 := o_t1.below hb o_t1.top
  replace B := B.trans (hb.mono B.size)
  clear hb
  have o_w0 := o_w0'
  clear o_w0'
  go_wp2_with fail
  refine (to_I (raW.below B) (by omega)).mono ?_; rintro e w3 ⟨t3, rfl, o_t3', hb⟩
  have s3 := hb.size
  replace o_t1 := o_t1.below hb o_t1.top
  replace o_w0 := o_w0.below hb o_w0.top
  replace B := B.trans (hb.mono B.size)
  clear hb
  have o_t3 := o_t3'
  clear o_t3'
  have o_x0 := o_t3
  clear o_t3
  go_wp2_with fail
  refine (I_ReverseWindow o_x0.rdI).mono ?_; rintro e w4 ⟨g0, rfl, o_g0', hb⟩
  have s4 := hb.size
  replace o_t1 := o_t1.below hb o_t1.top
  replace o_w0 := o_w0.below hb o_w0.top
  replace o_x0 := o_x0.below hb o_x0.top
  replace B := B.trans (hb.mono B.size)
  clear hb
  have o_g0 := o_g0'
  clear o_g0'
  go_wp2_with fail
  refine (eq_I o_g0.rdI o_w0.rdI).mono ?_; rintro e w5 ⟨rfl, hb⟩
  have s5 := hb.size
  replace o_t1 := o_t1.below hb o_t1.top
  replace o_w0 := o_w0.below hb o_w0.top
  replace o_x0 := o_x0.below hb o_x0.top
  replace o_g0 := o_g0.below hb o_g0.top
  replace B := B.trans (hb.mono B.size)
  clear hb
  go_wp2_with fail
  refine (to_I (raW.below B) (by omega)).mono ?_; rintro e w6 ⟨t5, rfl, o_t5', hb⟩
  have s6 := hb.size
  replace o_t1 := o_t1.below hb o_t1.top
  replace o_w0 := o_w0.below hb o_w0.top
  replace o_x0 := o_x0.below hb o_x0.top
  replace o_g0 := o_g0.below hb o_g0.top
  replace B := B.trans (hb.mono B.size)
  clear hb
  have o_t5 := o_t5'
  clear o_t5'
  go_wp2_with fail
  refine (eq_I o_x0.rdI o_t5.rdI).mono ?_; rintro e w7 ⟨rfl, hb⟩
  have s7 := hb.size
  replace o_t1 := o_t1.below hb o_t1.top
  replace o_w0 := o_w0.below hb o_w0.top
  replace o_x0 := o_x0.below hb o_x0.top
  replace o_g0 := o_g0.below hb o_g0.top
  replace o_t5 := o_t5.below hb o_t5.top
  replace B := B.trans (hb.mono B.size)
  clear hb
  go_wp2_with fail
  refine (mark_I o_x0 (by omega) (by omega)).mono ?_; rintro e w8 ⟨rfl, o_x0', ho⟩
  have s8 := ho.size
  replace o_t1 := o_t1.outside ho (by omega)
  replace o_w0 := o_w0.outside ho (by omega)
  replace o_g0 := o_g0.outside ho (by omega)
  replace o_t5 := o_t5.outside ho (by omega)
  replace B := B.trans (ho.below (by omega) B.size)
  replace o_x0 := o_x0'
  clear o_x0' ho
  go_wp2_with fail
  refine (eq_I o_g0.rdI o_w0.rdI).mono ?_; rintro e w9 ⟨rfl, hb⟩
  have s9 := hb.size
  replace o_t1 := o_t1.below hb o_t1.top
  replace o_w0 := o_w0.below hb o_w0.top
  replace o_x0 := o_x0.below hb o_x0.top
  replace o_g0 := o_g0.below hb o_g0.top
  replace o_t5 := o_t5.below hb o_t5.top
  replace B := B.trans (hb.mono B.size)
  clear hb
  go_wp2_with fail
  refine (mark_I o_g0 (by omega) (by omega)).mono ?_; rintro e w10 ⟨rfl, o_g0', ho⟩
  have s10 := ho.size
  replace o_t1 := o_t1.outside ho (by omega)
  replace o_w0 := o_w0.outside ho (by omega)
  replace o_x0 := o_x0.outside ho (by omega)
  replace o_t5 := o_t5.outside ho (by omega)
  replace B := B.trans (ho.below (by omega) B.size)
  replace o_g0 := o_g0'
  clear o_g0' ho
  go_wp2_with fail
  refine (held_I o_g0 (by omega) (by omega)).mono ?_; rintro e w11 ⟨rfl, hb⟩
  have s11 := hb.size
  replace o_t1 := o_t1.below hb o_t1.top
  replace o_w0 := o_w0.below hb o_w0.top
  replace o_x0 := o_x0.below hb o_x0.top
  replace o_g0 := o_g0.below hb o_g0.top
  replace o_t5 := o_t5.below hb o_t5.top
  replace B := B.trans (hb.mono B.size)
  clear hb
  go_wp2_with fail
  refine (to_I (raW.below B) (by omega)).mono ?_; rintro e w12 ⟨t6, rfl, o_t6', hb⟩
  have s12 := hb.size
  replace o_t1 := o_t1.below hb o_t1.top
  replace o_w0 := o_w0.below hb o_w0.top
  replace o_x0 := o_x0.below hb o_x0.top
  replace o_g0 := o_g0.below hb o_g0.top
  replace o_t5 := o_t5.below hb o_t5.top
  replace B := B.trans (hb.mono B.size)
  clear hb
  have o_t6 := o_t6'
  clear o_t6'
  go_wp2_with fail
  refine (I_ReverseWindow o_t6.rdI).mono ?_; rintro e w13 ⟨h0, rfl, o_h0', hb⟩
  have s13 := hb.size
  replace o_t1 := o_t1.below hb o_t1.top
  replace o_w0 := o_w0.below hb o_w0.top
  replace o_x0 := o_x0.below hb o_x0.top
  replace o_g0 := o_g0.below hb o_g0.top
  replace o_t5 := o_t5.below hb o_t5.top
  replace o_t6 := o_t6.below hb o_t6.top
  replace B := B.trans (hb.mono B.size)
  clear hb
  have o_h0 := o_h0'
  clear o_h0'
  go_wp2_with fail
  refine (eq_I o_h0.rdI o_w0.rdI).mono ?_; rintro e w14 ⟨rfl, hb⟩
  have s14 := hb.size
  replace o_t1 := o_t1.below hb o_t1.top
  replace o_w0 := o_w0.below hb o_w0.top
  replace o_x0 := o_x0.below hb o_x0.top
  replace o_g0 := o_g0.below hb o_g0.top
  replace o_t5 := o_t5.below hb o_t5.top
  replace o_t6 := o_t6.below hb o_t6.top
  replace o_h0 := o_h0.below hb o_h0.top
  replace B := B.trans (hb.mono B.size)
  clear hb
  go_wp2_with fail
  refine (held_I o_g0 (by omega) (by omega)).mono ?_; rintro e w15 ⟨rfl, hb⟩
  have s15 := hb.size
  replace o_t1 := o_t1.below hb o_t1.top
  replace o_w0 := o_w0.below hb o_w0.top
  replace o_x0 := o_x0.below hb o_x0.top
  replace o_g0 := o_g0.below hb o_g0.top
  replace o_t5 := o_t5.below hb o_t5.top
  replace o_t6 := o_t6.below hb o_t6.top
  replace o_h0 := o_h0.below hb o_h0.top
  replace B := B.trans (hb.mono B.size)
  clear hb
  go_wp2
  go_ret
  exact ⟨rfl, B⟩

set_option maxRecDepth 100000 in
theorem FnExactReverseWindow_lifted (os : Os) (started : os.Started) (H : Type) (enc : TypeId × Value → H) :
    ReturnsInHanded {} Try.checked os 4 .any (Rows.fnExactReverseWindowSpec.pre6 enc Try.prog Try.f4 Rows.fnExactReverseWindowRow.domain false) (Rows.fnExactReverseWindowSpec.post enc Try.prog Try.f4 false true false false) := by
  refine returnsInHanded_of_change (C := Try.checked) own_knob started (by kernel_rfl) Try.func4
    (ChangeSpec.witness6 (enc := enc) (C := Try.checked) false ⟨#[], #[.slice none 0 0], []⟩ 8 (by kernel_rfl) (by kernel_rfl) (by kernel_rfl) (by kernel_rfl)) ?_
  intro W base args ds gs before hval0 hW hcnd _
  have hval : ∀ (j : Nat) t v, Try.f4.params[j]? = some t → args[j]? = some v → Value.okWide Try.prog W .any base t v := hval0
  have hW' := hW
  have hlt := hW.lt
  obtain ⟨p, q, hA0, hV, rfl, hfz, hnd⟩ := hW
  have hA : DataW.TrodAll enc Try.prog W 0 (fun _ => true) true Try.f4.params.toList args.toList ds p := hA0
  rw [Try.params4] at hA hval
  obtain ⟨v0, d0, rfl, rfl, h0⟩ := trodAll_one hA
  obtain ⟨x0, hx0⟩ := open_I hlt (hval 0 _ v0 rfl rfl) h0 (fun x hx => by simp [hx])
  refine (lawReverseWindow v0 x0 W hx0).mono fun e W' ⟨he, hb⟩ => ?_
  subst he
  exact ⟨_, rfl, law_post rfl rfl (by kernel_rfl) rfl hW' hb⟩
theorem FnExactReverseWindow_holds : Rows.FnExactReverseWindowSaid :=
  OpenClaim.holds_of_wide 4 Try.f4 rfl rfl rfl rfl rfl rfl rfl ⟨rfl, rfl, rfl, rfl, rfl⟩ rfl rfl rfl rfl rfl (by kernel_rfl) Try.func4 (by kernel_rfl)
    (of_decide_eq_true (by kernel_rfl)) (by unfold Func.isWrapper; first | (rw [if_pos (by decide +kernel)]; kernel_rfl) | (rw [if_neg (by decide +kernel)]; exact ⟨rfl, rfl⟩))
    (fun os started H enc _ => FnExactReverseWindow_lifted os started H enc)
#print axioms FnExactReverseWindow_holds
end Go.Proofs.Ytoanpdoiigjehaa
