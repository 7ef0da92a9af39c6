/- For every input: the program's FadeRest returns what the reference's returns, leaves its arguments alone, and hands back memory of its own. No conditions. -/
import Derived.Test.YtoanpdoiigjehaaFade3
import Derived.Test.YtoanpdoiigjehaaLaw
namespace Go.Proofs.Ytoanpdoiigjehaa
open Go.ChangeShapes Go.WideShapes Go.ChangeAt Go.RowKit
set_option linter.unusedVariables false
set_option linter.unusedSimpArgs false

theorem restR_short (x m : List Int) (f : Int) : (restR x m f).length ≤ 4000 := by
  rcases askC_cases x m f with h | ⟨h0, sx, sm, h1, h2⟩
  · rcases h with h | h <;> simp [restR, h]
  · have := sigB_len sx
    simp only [restR, h0, if_true, addL, addK_len, fadeK_len]
    first | omega | (rw [fadeK_len]; omega)
theorem I_FadeRest {v u : Value} {x m : List Int} {f : Int} {w : World} (hx : RdI w v x) (hm : RdI w u m) :
    Calls Try.prog 29 #[v, u, iv f] w fun e w' => ∃ g, e = .returned (.tuple #[g, iv (askC x m f)]) ∧ HelI w' w.heap.size w'.heap.size g (restR x m f) ∧ Below w.heap.size w w' := by
  obtain ⟨_, _, _, rfl, hx⟩ := hx
  obtain ⟨_, _, _, rfl, hm⟩ := hm
  exact (FadeRest_impl _ _ _ _ _ _ _ _ _ _ hx hm).mono fun e w' ⟨g, he, ho, hb⟩ => ⟨g, he, ho.hel, hb⟩
theorem S_FadeRest {v u : Value} {x m : List Int} {f : Int} {w : World} (hx : RdI w v x) (hm : RdI w u m) :
    Calls Try.prog 28 #[v, u, iv f] w fun e w' => ∃ g, e = .returned (.tuple #[g, iv (askC x m f)]) ∧ HelI w' w.heap.size w'.heap.size g (restR x m f) ∧ Below w.heap.size w w' := by
  obtain ⟨_, _, _, rfl, hx⟩ := hx
  obtain ⟨_, _, _, rfl, hm⟩ := hm
  exact (FadeRest_spec _ _ _ _ _ _ _ _ _ _ hx hm).mono fun e w' ⟨g, he, ho, hb⟩ => ⟨g, he, ho.hel, hb⟩

set_option maxHeartbeats 2000000 in
theorem lawFadeRest (vaA : Value) (daA : List Int) (vaW : Value) (daW : List Int) (aFrom : Int) (w : World) (raA : RdI w vaA daA) (raW : RdI w vaW daW) :
    Calls Try.prog 9 #[vaA, vaW, iv aFrom] w fun e w' => e = .returned (.bool true) ∧ Below w.heap.size w w' := by
  obtain ⟨AaA, naA, caA, rfl, qaA⟩ := raA
  have eaA : Hid (daA.length = naA) := by have := qaA.1; rw [ints_len] at this; show _ = _; omega
  have raA : RdI w (.slice AaA naA caA) daA := ⟨_, _, _, rfl, qaA⟩
  by_cases gaA : 1048576 < naA
  · go_enter Try.func9, Try.ntmps9
    go_wp2_with fail
    go_ret
    exact ⟨rfl, Below.refl _ _⟩
  have baA : daA.length ≤ 1048576 := by rw [eaA.out]; omega
  obtain ⟨AaW, naW, caW, rfl, qaW⟩ := raW
  have eaW : Hid (daW.length = naW) := by have := qaW.1; rw [ints_len] at this; show _ = _; omega
  have raW : RdI w (.slice AaW naW caW) daW := ⟨_, _, _, rfl, qaW⟩
  by_cases gaW : 1048576 < naW
  · go_enter Try.func9, Try.ntmps9
    go_wp2_with fail
    go_ret
    exact ⟨rfl, Below.refl _ _⟩
  have baW : daW.length ≤ 1048576 := by rw [eaW.out]; omega
  have hs := restR_short daA daW aFrom
  have B := Below.refl w.heap.size w
  go_enter Try.func9, Try.ntmps9
  go_wp2_with fail
  refine (to_I (raA.below B) (by omega)).mono ?_; rintro e w1 ⟨t1, rfl, o_t1', hb⟩
  have s1 := hb.size
  replace B := B.trans (hb.mono B.size)
  clear hb
  have o_t1 := o_t1'
  clear o_t1'
  go_wp2_with fail
  refine (to_I (raW.below B) (by omega)).mono ?_; rintro e w2 ⟨t2, rfl, o_t2', hb⟩
  have s2 := hb.size
  replace o_t1 := o_t1.below hb o_t1.top
  replace B := B.trans (hb.mono B.size)
  clear hb
  have o_t2 := o_t2'
  clear o_t2'
  go_wp2_with fail
  refine (S_FadeRest o_t1.rdI o_t2.rdI).mono ?_; rintro e w3 ⟨w0, rfl, o_w0', hb⟩
  have s3 := hb.size
  replace o_t1 := o_t1.below hb o_t1.top
  replace o_t2 := o_t2.below hb o_t2.top
  replace B := B.trans (hb.mono B.size)
  clear hb
  have o_w0 := o_w0'
  clear o_w0'
  go_wp2_with fail
  refine (to_I (raA.below B) (by omega)).mono ?_; rintro e w4 ⟨t4, rfl, o_t4', hb⟩
  have s4 := hb.size
  replace o_t1 := o_t1.below hb o_t1.top
  replace o_t2 := o_t2.below hb o_t2.top
  replace o_w0 := o_w0.below hb o_w0.top
  replace B := B.trans (hb.mono B.size)
  clear hb
  have o_t4 := o_t4'
  clear o_t4'
  have o_x0 := o_t4
  clear o_t4
  go_wp2_with fail
  refine (to_I (raW.below B) (by omega)).mono ?_; rintro e w5 ⟨t5, rfl, o_t5', hb⟩
  have s5 := hb.size
  replace o_t1 := o_t1.below hb o_t1.top
  replace o_t2 := o_t2.below hb o_t2.top
  replace o_w0 := o_w0.below hb o_w0.top
  replace o_x0 := o_x0.below hb o_x0.top
  replace B := B.trans (hb.mono B.size)
  clear hb
  have o_t5 := o_t5'
  clear o_t5'
  have o_x1 := o_t5
  clear o_t5
  go_wp2_with fail
  refine (I_FadeRest o_x0.rdI o_x1.rdI).mono ?_; rintro e w6 ⟨g0, rfl, o_g0', hb⟩
  have s6 := hb.size
  replace o_t1 := o_t1.below hb o_t1.top
  replace o_t2 := o_t2.below hb o_t2.top
  replace o_w0 := o_w0.below hb o_w0.top
  replace o_x0 := o_x0.below hb o_x0.top
  replace o_x1 := o_x1.below hb o_x1.top
  replace B := B.trans (hb.mono B.size)
  clear hb
  have o_g0 := o_g0'
  clear o_g0'
  go_wp2_with fail
  refine (eq_I o_g0.rdI o_w0.rdI).mono ?_; rintro e w7 ⟨rfl, hb⟩
  have s7 := hb.size
  replace o_t1 := o_t1.below hb o_t1.top
  replace o_t2 := o_t2.below hb o_t2.top
  replace o_w0 := o_w0.below hb o_w0.top
  replace o_x0 := o_x0.below hb o_x0.top
  replace o_x1 := o_x1.below hb o_x1.top
  replace o_g0 := o_g0.below hb o_g0.top
  replace B := B.trans (hb.mono B.size)
  clear hb
  go_wp2_with fail
  refine (to_I (raA.below B) (by omega)).mono ?_; rintro e w8 ⟨t7, rfl, o_t7', hb⟩
  have s8 := hb.size
  replace o_t1 := o_t1.below hb o_t1.top
  replace o_t2 := o_t2.below hb o_t2.top
  replace o_w0 := o_w0.below hb o_w0.top
  replace o_x0 := o_x0.below hb o_x0.top
  replace o_x1 := o_x1.below hb o_x1.top
  replace o_g0 := o_g0.below hb o_g0.top
  replace B := B.trans (hb.mono B.size)
  clear hb
  have o_t7 := o_t7'
  clear o_t7'
  go_wp2_with fail
  refine (eq_I o_x0.rdI o_t7.rdI).mono ?_; rintro e w9 ⟨rfl, hb⟩
  have s9 := hb.size
  replace o_t1 := o_t1.below hb o_t1.top
  replace o_t2 := o_t2.below hb o_t2.top
  replace o_w0 := o_w0.below hb o_w0.top
  replace o_x0 := o_x0.below hb o_x0.top
  replace o_x1 := o_x1.below hb o_x1.top
  replace o_g0 := o_g0.below hb o_g0.top
  replace o_t7 := o_t7.below hb o_t7.top
  replace B := B.trans (hb.mono B.size)
  clear hb
  go_wp2_with fail
  refine (to_I (raW.below B) (by omega)).mono ?_; rintro e w10 ⟨t8, rfl, o_t8', hb⟩
  have s10 := hb.size
  replace o_t1 := o_t1.below hb o_t1.top
  replace o_t2 := o_t2.below hb o_t2.top
  replace o_w0 := o_w0.below hb o_w0.top
  replace o_x0 := o_x0.below hb o_x0.top
  replace o_x1 := o_x1.below hb o_x1.top
  replace o_g0 := o_g0.below hb o_g0.top
  replace o_t7 := o_t7.below hb o_t7.top
  replace B := B.trans (hb.mono B.size)
  clear hb
  have o_t8 := o_t8'
  clear o_t8'
  go_wp2_with fail
  refine (eq_I o_x1.rdI o_t8.rdI).mono ?_; rintro e w11 ⟨rfl, hb⟩
  have s11 := hb.size
  replace o_t1 := o_t1.below hb o_t1.top
  replace o_t2 := o_t2.below hb o_t2.top
  replace o_w0 := o_w0.below hb o_w0.top
  replace o_x0 := o_x0.below hb o_x0.top
  replace o_x1 := o_x1.below hb o_x1.top
  replace o_g0 := o_g0.below hb o_g0.top
  replace o_t7 := o_t7.below hb o_t7.top
  replace o_t8 := o_t8.below hb o_t8.top
  replace B := B.trans (hb.mono B.size)
  clear hb
  go_wp2_with fail
  refine (mark_I o_x0 (by omega) (by omega)).mono ?_; rintro e w12 ⟨rfl, o_x0', ho⟩
  have s12 := ho.size
  replace o_t1 := o_t1.outside ho (by omega)
  replace o_t2 := o_t2.outside ho (by omega)
  replace o_w0 := o_w0.outside ho (by omega)
  replace o_x1 := o_x1.outside ho (by omega)
  replace o_g0 := o_g0.outside ho (by omega)
  replace o_t7 := o_t7.outside ho (by omega)
  replace o_t8 := o_t8.outside ho (by omega)
  replace B := B.trans (ho.below (by omega) B.size)
  replace o_x0 := o_x0'
  clear o_x0' ho
  go_wp2_with fail
  refine (mark_I o_x1 (by omega) (by omega)).mono ?_; rintro e w13 ⟨rfl, o_x1', ho⟩
  have s13 := ho.size
  replace o_t1 := o_t1.outside ho (by omega)
  replace o_t2 := o_t2.outside ho (by omega)
  replace o_w0 := o_w0.outside ho (by omega)
  replace o_x0 := o_x0.outside ho (by omega)
  replace o_g0 := o_g0.outside ho (by omega)
  replace o_t7 := o_t7.outside ho (by omega)
  replace o_t8 := o_t8.outside ho (by omega)
  replace B := B.trans (ho.below (by omega) B.size)
  replace o_x1 := o_x1'
  clear o_x1' ho
  go_wp2_with fail
  refine (eq_I o_g0.rdI o_w0.rdI).mono ?_; rintro e w14 ⟨rfl, hb⟩
  have s14 := hb.size
  replace o_t1 := o_t1.below hb o_t1.top
  replace o_t2 := o_t2.below hb o_t2.top
  replace o_w0 := o_w0.below hb o_w0.top
  replace o_x0 := o_x0.below hb o_x0.top
  replace o_x1 := o_x1.below hb o_x1.top
  replace o_g0 := o_g0.below hb o_g0.top
  replace o_t7 := o_t7.below hb o_t7.top
  replace o_t8 := o_t8.below hb o_t8.top
  replace B := B.trans (hb.mono B.size)
  clear hb
  go_wp2_with fail
  refine (mark_I o_g0 (by omega) (by omega)).mono ?_; rintro e w15 ⟨rfl, o_g0', ho⟩
  have s15 := ho.size
  replace o_t1 := o_t1.outside ho (by omega)
  replace o_t2 := o_t2.outside ho (by omega)
  replace o_w0 := o_w0.outside ho (by omega)
  replace o_x0 := o_x0.outside ho (by omega)
  replace o_x1 := o_x1.outside ho (by omega)
  replace o_t7 := o_t7.outside ho (by omega)
  replace o_t8 := o_t8.outside ho (by omega)
  replace B := B.trans (ho.below (by omega) B.size)
  replace o_g0 := o_g0'
  clear o_g0' ho
  go_wp2_with fail
  refine (held_I o_g0 (by omega) (by omega)).mono ?_; rintro e w16 ⟨rfl, hb⟩
  have s16 := hb.size
  replace o_t1 := o_t1.below hb o_t1.top
  replace o_t2 := o_t2.below hb o_t2.top
  replace o_w0 := o_w0.below hb o_w0.top
  replace o_x0 := o_x0.below hb o_x0.top
  replace o_x1 := o_x1.below hb o_x1.top
  replace o_g0 := o_g0.below hb o_g0.top
  replace o_t7 := o_t7.below hb o_t7.top
  replace o_t8 := o_t8.below hb o_t8.top
  replace B := B.trans (hb.mono B.size)
  clear hb
  go_wp2_with fail
  refine (to_I (raA.below B) (by omega)).mono ?_; rintro e w17 ⟨t9, rfl, o_t9', hb⟩
  have s17 := hb.size
  replace o_t1 := o_t1.below hb o_t1.top
  replace o_t2 := o_t2.below hb o_t2.top
  replace o_w0 := o_w0.below hb o_w0.top
  replace o_x0 := o_x0.below hb o_x0.top
  replace o_x1 := o_x1.below hb o_x1.top
  replace o_g0 := o_g0.below hb o_g0.top
  replace o_t7 := o_t7.below hb o_t7.top
  replace o_t8 := o_t8.below hb o_t8.top
  replace B := B.trans (hb.mono B.size)
  clear hb
  have o_t9 := o_t9'
  clear o_t9'
  go_wp2_with fail
  refine (to_I (raW.below B) (by omega)).mono ?_; rintro e w18 ⟨t10, rfl, o_t10', hb⟩
  have s18 := hb.size
  replace o_t1 := o_t1.below hb o_t1.top
  replace o_t2 := o_t2.below hb o_t2.top
  replace o_w0 := o_w0.below hb o_w0.top
  replace o_x0 := o_x0.below hb o_x0.top
  replace o_x1 := o_x1.below hb o_x1.top
  replace o_g0 := o_g0.below hb o_g0.top
  replace o_t7 := o_t7.below hb o_t7.top
  replace o_t8 := o_t8.below hb o_t8.top
  replace o_t9 := o_t9.below hb o_t9.top
  replace B := B.trans (hb.mono B.size)
  clear hb
  have o_t10 := o_t10'
  clear o_t10'
  go_wp2_with fail
  refine (I_FadeRest o_t9.rdI o_t10.rdI).mono ?_; rintro e w19 ⟨h0, rfl, o_h0', hb⟩
  have s19 := hb.size
  replace o_t1 := o_t1.below hb o_t1.top
  replace o_t2 := o_t2.below hb o_t2.top
  replace o_w0 := o_w0.below hb o_w0.top
  replace o_x0 := o_x0.below hb o_x0.top
  replace o_x1 := o_x1.below hb o_x1.top
  replace o_g0 := o_g0.below hb o_g0.top
  replace o_t7 := o_t7.below hb o_t7.top
  replace o_t8 := o_t8.below hb o_t8.top
  replace o_t9 := o_t9.below hb o_t9.top
  replace o_t10 := o_t10.below hb o_t10.top
  replace B := B.trans (hb.mono B.size)
  clear hb
  have o_h0 := o_h0'
  clear o_h0'
  go_wp2_with fail
  refine (eq_I o_h0.rdI o_w0.rdI).mono ?_; rintro e w20 ⟨rfl, hb⟩
  have s20 := hb.size
  replace o_t1 := o_t1.below hb o_t1.top
  replace o_t2 := o_t2.below hb o_t2.top
  replace o_w0 := o_w0.below hb o_w0.top
  replace o_x0 := o_x0.below hb o_x0.top
  replace o_x1 := o_x1.below hb o_x1.top
  replace o_g0 := o_g0.below hb o_g0.top
  replace o_t7 := o_t7.below hb o_t7.top
  replace o_t8 := o_t8.below hb o_t8.top
  replace o_t9 := o_t9.below hb o_t9.top
  replace o_t10 := o_t10.below hb o_t10.top
  replace o_h0 := o_h0.below hb o_h0.top
  replace B := B.trans (hb.mono B.size)
  clear hb
  go_wp2_with fail
  refine (held_I o_g0 (by omega) (by omega)).mono ?_; rintro e w21 ⟨rfl, hb⟩
  have s21 := hb.size
  replace o_t1 := o_t1.below hb o_t1.top
  replace o_t2 := o_t2.below hb o_t2.top
  replace o_w0 := o_w0.below hb o_w0.top
  replace o_x0 := o_x0.below hb o_x0.top
  replace o_x1 := o_x1.below hb o_x1.top
  replace o_g0 := o_g0.below hb o_g0.top
  replace o_t7 := o_t7.below hb o_t7.top
  replace o_t8 := o_t8.below hb o_t8.top
  replace o_t9 := o_t9.below hb o_t9.top
  replace o_t10 := o_t10.below hb o_t10.top
  replace o_h0 := o_h0.below hb o_h0.top
  replace B := B.trans (hb.mono B.size)
  clear hb
  go_wp2
  go_ret
  exact ⟨rfl, B⟩

set_option maxRecDepth 100000 in
theorem FnExactFadeRest_lifted (os : Os) (started : os.Started) (H : Type) (enc : TypeId × Value → H) :
    ReturnsInHanded {} Try.checked os 9 .any (Rows.fnExactFadeRestSpec.pre6 enc Try.prog Try.f9 Rows.fnExactFadeRestRow.domain false) (Rows.fnExactFadeRestSpec.post enc Try.prog Try.f9 false true false false) := by
  refine returnsInHanded_of_change (C := Try.checked) own_knob started (by kernel_rfl) Try.func9
    (ChangeSpec.witness6 (enc := enc) (C := Try.checked) false ⟨#[], #[.slice none 0 0, .slice none 0 0, .int .i64 0], []⟩ 8 (by kernel_rfl) (by kernel_rfl) (by kernel_rfl) (by kernel_rfl)) ?_
  intro W base args ds gs before hval0 hW hcnd _
  have hval : ∀ (j : Nat) t v, Try.f9.params[j]? = some t → args[j]? = some v → Value.okWide Try.prog W .any base t v := hval0
  have hW' := hW
  have hlt := hW.lt
  obtain ⟨p, q, hA0, hV, rfl, hfz, hnd⟩ := hW
  have hA : DataW.TrodAll enc Try.prog W 0 (fun _ => true) true Try.f9.params.toList args.toList ds p := hA0
  rw [Try.params9] at hA hval
  obtain ⟨v0, v1, v2, d0, d1, d2, p0, p1, p2, rfl, rfl, rfl, h0, h1, h2⟩ := trodAll_three hA
  obtain ⟨x0, hx0⟩ := open_I hlt (hval 0 _ v0 rfl rfl) h0 (fun x hx => by simp [hx])
  obtain ⟨x1, hx1⟩ := open_I hlt (hval 1 _ v1 rfl rfl) h1 (fun x hx => by simp [hx])
  obtain ⟨a2, rfl, rfl, rfl, wa2⟩ := open_int Try.underlying2 (hval 2 2 v2 rfl rfl) h2
  refine (lawFadeRest v0 x0 v1 x1 a2 W hx0 hx1).mono fun e W' ⟨he, hb⟩ => ?_
  subst he
  exact ⟨_, rfl, law_post rfl rfl (by kernel_rfl) rfl hW' hb⟩
theorem FnExactFadeRest_holds : Rows.FnExactFadeRestSaid :=
  OpenClaim.holds_of_wide 9 Try.f9 rfl rfl rfl rfl rfl rfl rfl ⟨rfl, rfl, rfl, rfl, rfl⟩ rfl rfl rfl rfl rfl (by kernel_rfl) Try.func9 (by kernel_rfl)
    (of_decide_eq_true (by kernel_rfl)) (by unfold Func.isWrapper; first | (rw [if_pos (by decide +kernel)]; kernel_rfl) | (rw [if_neg (by decide +kernel)]; exact ⟨rfl, rfl⟩))
    (fun os started H enc _ => FnExactFadeRest_lifted os started H enc)
#print axioms FnExactFadeRest_holds
end Go.Proofs.Ytoanpdoiigjehaa
