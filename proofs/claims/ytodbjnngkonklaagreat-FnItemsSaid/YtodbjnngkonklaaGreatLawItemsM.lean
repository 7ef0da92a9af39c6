/- For every input: items of a score play its notes of a channel, folded items are the same without groups and not more of them; the law leaves its arguments alone. No conditions. -/
import Derived.Test.YtodbjnngkonklaaGreatZzI19
namespace Go.Proofs.YtodbjnngkonklaaGreat
open Go.ChangeShapes Go.WideShapes Go.ChangeAt Go.RowKit
open Go.RowKit
set_option linter.unusedVariables false
set_option linter.unusedSimpArgs false
set_option maxRecDepth 100000
attribute [local simp] List.getElem?_cons_zero
attribute [local irreducible] awCond awCall awLoop awDraw ow retQ retC resQ Keeps
set_option maxRecDepth 100000 in
theorem FnItems_lifted (os : Os) (started : os.Started) (H : Type) (enc : TypeId × Value → H) :
    ReturnsInHanded {} Tryz.checked os 3 .any (Rows.fnItemsSpec.pre6 enc Tryz.prog Tryz.f3 Rows.fnItemsRow.domain false) (Rows.fnItemsSpec.post enc Tryz.prog Tryz.f3 false true false false) := by
  refine returnsInHanded_of_change (C := Tryz.checked) own_knob started (by kernel_rfl) Tryz.func3
    (ChangeSpec.witness6 (enc := enc) (C := Tryz.checked) false ⟨#[], #[.slice none 0 0, .slice none 0 0], []⟩ 8 (by kernel_rfl) (by kernel_rfl) (by kernel_rfl) (by kernel_rfl)) ?_
  intro W base args ds gs before hval0 hW hcnd _
  have hval : ∀ (j : Nat) t v, Tryz.f3.params[j]? = some t → args[j]? = some v → Value.okWide Tryz.prog W .any base t v := hval0
  have hW' := hW
  have hlt := hW.lt
  obtain ⟨p, q, hA0, hV, rfl, hfz, hnd⟩ := hW
  have hA : DataW.TrodAll enc Tryz.prog W 0 (fun _ => true) true Tryz.f3.params.toList args.toList ds p := hA0
  rw [Tryz.params3] at hA hval
  obtain ⟨v0, v1, d0, d1, p0, p1, rfl, rfl, rfl, h0, h1⟩ := trodAll_two hA
  have ar0 := Arg.code Tryz.underlying22 (by kernel_rfl) (by kernel_rfl) hlt (hval 0 _ v0 rfl rfl) h0 (fun x hx => by simp [hx])
  have ar1 := Arg.code Tryz.underlying22 (by kernel_rfl) (by kernel_rfl) hlt (hval 1 _ v1 rfl rfl) h1 (fun x hx => by simp [hx])
  have R := AR.nil W
  obtain ⟨L0, μ0, u0, R0, B0, n0, c0, l0, rfl, hn0, hs0, hw0⟩ := R.next ar0
  obtain ⟨L1, μ1, u1, R1, B1, n1, c1, l1, rfl, hn1, hs1, hw1⟩ := R0.next ar1
  refine (law_end R1 (lawItems_a (hs0.app L1) hw0 hs1 hw1) ).mono fun e W' ⟨he, hb⟩ => ?_
  subst he
  exact ⟨_, rfl, law_post rfl rfl (by kernel_rfl) rfl hW' hb⟩
theorem FnItems_holds : Rows.FnItemsSaid :=
  OpenClaim.holds_of_wide 3 Tryz.f3 rfl rfl rfl rfl rfl rfl rfl ⟨rfl, rfl, rfl, rfl, rfl⟩ rfl rfl rfl rfl rfl (by kernel_rfl) Tryz.func3 (by kernel_rfl)
    (of_decide_eq_true (by kernel_rfl)) (by unfold Func.isWrapper; first | (rw [if_pos (by decide +kernel)]; kernel_rfl) | (rw [if_neg (by decide +kernel)]; exact ⟨rfl, rfl⟩))
    (fun os started H enc _ => FnItems_lifted os started H enc)
#print axioms FnItems_holds
end Go.Proofs.YtodbjnngkonklaaGreat
