/- For every input: the program's ValidWindow returns what the reference's returns and leaves its arguments alone. No conditions. -/
import Derived.Test.YtjfhjmpkiaakhaaWin
import Derived.Test.YtjfhjmpkiaakhaaLaw
namespace Go.Proofs.Ytjfhjmpkiaakhaa
open Go.ChangeShapes Go.WideShapes Go.ChangeAt Go.RowKit
set_option linter.unusedVariables false
set_option linter.unusedSimpArgs false
theorem I_ValidWindow {v : Value} {x : List Int} {w : World} (hx : RdI w v x) :
    Calls Try.prog 18 #[v] w fun e w' => e = .returned (.bool (winB x)) ∧ Below w.heap.size w w' := by
  obtain ⟨_, _, _, rfl, hx⟩ := hx
  go_enter Try.func18, Try.ntmps18
  go_wp2_with fail
  refine (isWindow_any _ _ _ _ _ hx).mono ?_; rintro e w' ⟨rfl, rfl⟩
  go_wp2
  go_ret
  exact ⟨rfl, Below.refl _ _⟩
theorem S_ValidWindow {v : Value} {x : List Int} {w : World} (hx : RdI w v x) :
    Calls Try.prog 16 #[v] w fun e w' => e = .returned (.bool (winB x)) ∧ Below w.heap.size w w' := by
  obtain ⟨_, _, _, rfl, hx⟩ := hx
  go_enter Try.func16, Try.ntmps16
  go_wp2_with fail
  refine (l24Ok_any _ _ _ _ _ hx).mono ?_; rintro e w' ⟨rfl, rfl⟩
  go_wp2
  go_ret
  exact ⟨rfl, Below.refl _ _⟩

set_option maxHeartbeats 2000000 in
theorem lawValidWindow (vaW : Value) (daW : List Int) (w : World) (raW : RdI w vaW daW) :
    Calls Try.prog 6 #[vaW] w fun e w' => e = .returned (.bool true) ∧ Below w.heap.size w w' := by
  obtain ⟨AaW, naW, caW, rfl, qaW⟩ := raW
  have eaW : Hid (daW.length = naW) := by have := qaW.1; rw [ints_len] at this; show _ = _; omega
  have raW : RdI w (.slice AaW naW caW) daW := ⟨_, _, _, rfl, qaW⟩
  by_cases gaW : 1048576 < naW
  · go_enter Try.func6, Try.ntmps6
    go_wp2_with fail
    go_ret
    exact ⟨rfl, Below.refl _ _⟩
  have baW : daW.length ≤ 1048576 := by rw [eaW.out]; omega
  have B := Below.refl w.heap.size w
  go_enter Try.func6, Try.ntmps6
  go_wp2_with fail
  refine (to_I (raW.below B) (by omega)).mono ?_; rintro e w1 ⟨t1, rfl, o_t1', hb⟩
  have s1 := hb.size
  replace B := B.trans (hb.mono B.size)
  clear hb
  have o_t1 := o_t1'
  clear o_t1'
  go_wp2_with fail
  refine (S_ValidWindow o_t1.rdI).mono ?_; rintro e w2 ⟨rfl, hb⟩
  have s2 := hb.size
  replace o_t1 := o_t1.below hb o_t1.top
  replace B := B.trans (hb.mono B.size)
  clear hb
  go_wp2_with fail
  refine (to_I (raW.below B) (by omega)).mono ?_; rintro e w3 ⟨t2, rfl, o_t2', hb⟩
  have s3 := hb.size
  replace o_t1 := o_t1.below hb o_t1.top
  replace B := B.trans (hb.mono B.size)
  clear hb
  have o_t2 := o_t2'
  clear o_t2'
  have o_x0 := o_t2
  clear o_t2
  go_wp2_with fail
  refine (I_ValidWindow o_x0.rdI).mono ?_; rintro e w4 ⟨rfl, hb⟩
  have s4 := hb.size
  replace o_t1 := o_t1.below hb o_t1.top
  replace o_x0 := o_x0.below hb o_x0.top
  replace B := B.trans (hb.mono B.size)
  clear hb
  go_wp2_with fail
  refine (to_I (raW.below B) (by omega)).mono ?_; rintro e w5 ⟨t3, rfl, o_t3', hb⟩
  have s5 := hb.size
  replace o_t1 := o_t1.below hb o_t1.top
  replace o_x0 := o_x0.below hb o_x0.top
  replace B := B.trans (hb.mono B.size)
  clear hb
  have o_t3 := o_t3'
  clear o_t3'
  go_wp2_with fail
  refine (eq_I o_x0.rdI o_t3.rdI).mono ?_; rintro e w6 ⟨rfl, hb⟩
  have s6 := hb.size
  replace o_t1 := o_t1.below hb o_t1.top
  replace o_x0 := o_x0.below hb o_x0.top
  replace o_t3 := o_t3.below hb o_t3.top
  replace B := B.trans (hb.mono B.size)
  clear hb
  go_wp2
  go_ret
  exact ⟨rfl, B⟩

set_option maxRecDepth 100000 in
theorem FnExactValidWindow_lifted (os : Os) (started : os.Started) (H : Type) (enc : TypeId × Value → H) :
    ReturnsInHanded {} Try.checked os 6 .any (Rows.fnExactValidWindowSpec.pre6 enc Try.prog Try.f6 Rows.fnExactValidWindowRow.domain false) (Rows.fnExactValidWindowSpec.post enc Try.prog Try.f6 false true false false) := by
  refine returnsInHanded_of_change (C := Try.checked) own_knob started (by kernel_rfl) Try.func6
    (ChangeSpec.witness6 (enc := enc) (C := Try.checked) false ⟨#[], #[.slice none 0 0], []⟩ 8 (by kernel_rfl) (by kernel_rfl) (by kernel_rfl) (by kernel_rfl)) ?_
  intro W base args ds gs before hval0 hW hcnd _
  have hval : ∀ (j : Nat) t v, Try.f6.params[j]? = some t → args[j]? = some v → Value.okWide Try.prog W .any base t v := hval0
  have hW' := hW
  have hlt := hW.lt
  obtain ⟨p, q, hA0, hV, rfl, hfz, hnd⟩ := hW
  have hA : DataW.TrodAll enc Try.prog W 0 (fun _ => true) true Try.f6.params.toList args.toList ds p := hA0
  rw [Try.params6] at hA hval
  obtain ⟨v0, d0, rfl, rfl, h0⟩ := trodAll_one hA
  obtain ⟨x0, hx0⟩ := open_I hlt (hval 0 _ v0 rfl rfl) h0 (fun x hx => by simp [hx])
  refine (lawValidWindow v0 x0 W hx0).mono fun e W' ⟨he, hb⟩ => ?_
  subst he
  exact ⟨_, rfl, law_post rfl rfl (by kernel_rfl) rfl hW' hb⟩
theorem FnExactValidWindow_holds : Rows.FnExactValidWindowSaid :=
  OpenClaim.holds_of_wide 6 Try.f6 rfl rfl rfl rfl rfl rfl rfl ⟨rfl, rfl, rfl, rfl, rfl⟩ rfl rfl rfl rfl rfl (by kernel_rfl) Try.func6 (by kernel_rfl)
    (of_decide_eq_true (by kernel_rfl)) (by unfold Func.isWrapper; first | (rw [if_pos (by decide +kernel)]; kernel_rfl) | (rw [if_neg (by decide +kernel)]; exact ⟨rfl, rfl⟩))
    (fun os started H enc _ => FnExactValidWindow_lifted os started H enc)
#print axioms FnExactValidWindow_holds
end Go.Proofs.Ytjfhjmpkiaakhaa
