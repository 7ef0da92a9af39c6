/- For every input: the program's LinearWindow returns what the reference's returns, and its result is memory of its own. No conditions. -/
import Derived.Test.YtjfhjmpkiaakhaaLine
import Derived.Test.YtjfhjmpkiaakhaaLaw
namespace Go.Proofs.Ytjfhjmpkiaakhaa
open Go.ChangeShapes Go.WideShapes Go.ChangeAt Go.RowKit
set_option linter.unusedVariables false
set_option linter.unusedSimpArgs false

theorem lineR_short (f : Int → Int → Int) (n : Int) : (lineR f n).length ≤ 256 := by
  unfold lineR
  split
  · rename_i h
    have := inB_iff.1 h
    rw [lineL_len]; omega
  · simp

set_option maxHeartbeats 1000000 in
theorem lawLinearWindow (n : Int) (w : World) :
    Calls Try.prog 7 #[iv n] w fun e w' => e = .returned (.bool true) ∧ Below w.heap.size w w' := by
  have hs := lineR_short linV n
  obtain ⟨l, Hl⟩ : ∃ l, Hid (lineR linV n = l) := ⟨_, rfl⟩
  have C1 := lin_spec n
  have C2 := lin_impl n
  rw [Hl.out] at hs C1 C2
  go_enter Try.func7, Try.ntmps7
  go_wp2_with fail
  refine (C1 _).mono ?_; rintro e w1 ⟨v1, rfl, ho1, hb1⟩
  go_wp2_with fail
  refine (C2 _).mono ?_; rintro e w2 ⟨v2, rfl, ho2, hb2⟩
  go_wp2_with fail
  refine (eqI_true v2 v1 l _ ho2.rd (ho1.rd.below hb2)).mono ?_; rintro e w3 ⟨rfl, k3, rfl⟩
  go_wp2_with fail
  refine (markInt64S_any v2 l 1 w1.heap.size (w2.drewN k3) (ho2.drewN k3) (by omega) (by omega)).mono ?_; rintro e w4 ⟨rfl, ho4, hg4⟩
  have hk1 := (ho1.below hb2).grown (w := w2.drewN k3) hg4 ho1.within ho2.within (Nat.le_refl _)
  have hB4 := below_grownBy (below_drewN (hb1.trans (hb2.mono hb1.size)) k3) hg4 ho2.within (Nat.le_trans hb1.size hb2.size) hb1.size
  go_wp2_with fail
  refine (heldInt64S_any v2 l.length 1 w1.heap.size _ ho4 (by omega) (by omega)).mono ?_; rintro e w5 ⟨rfl, rfl⟩
  go_wp2_with fail
  refine (C2 _).mono ?_; rintro e w6 ⟨v3, rfl, ho3, hb3⟩
  go_wp2_with fail
  refine (eqI_true v3 v1 l _ ho3.rd (hk1.rd.below hb3)).mono ?_; rintro e w7 ⟨rfl, k7, rfl⟩
  go_wp2_with fail
  refine (heldInt64S_any v2 l.length 1 w1.heap.size _ ((ho4.below hb3).drewN k7) (by omega) (by omega)).mono ?_; rintro e w8 ⟨rfl, rfl⟩
  go_wp2
  go_ret
  exact ⟨rfl, below_drewN (hB4.trans (hb3.mono hB4.size)) _⟩


set_option maxRecDepth 100000 in
theorem FnExactLinearWindow_lifted (os : Os) (started : os.Started) (H : Type) (enc : TypeId × Value → H) :
    ReturnsInHanded {} Try.checked os 7 .any (Rows.fnExactLinearWindowSpec.pre6 enc Try.prog Try.f7 Rows.fnExactLinearWindowRow.domain false) (Rows.fnExactLinearWindowSpec.post enc Try.prog Try.f7 false true false false) := by
  refine returnsInHanded_of_change (C := Try.checked) own_knob started (by kernel_rfl) Try.func7
    (ChangeSpec.witness6 (enc := enc) (C := Try.checked) false ⟨#[], #[.int .i64 0], []⟩ 8 (by kernel_rfl) (by kernel_rfl) (by kernel_rfl) (by kernel_rfl)) ?_
  intro W base args ds gs before hval0 hW hcnd _
  have hval : ∀ (j : Nat) t v, Try.f7.params[j]? = some t → args[j]? = some v → Value.okWide Try.prog W .any base t v := hval0
  have hW' := hW
  have hlt := hW.lt
  obtain ⟨p, q, hA0, hV, rfl, hfz, hnd⟩ := hW
  have hA : DataW.TrodAll enc Try.prog W 0 (fun _ => true) true Try.f7.params.toList args.toList ds p := hA0
  rw [Try.params7] at hA hval
  obtain ⟨v0, d0, rfl, rfl, h0⟩ := trodAll_one hA
  obtain ⟨a0, rfl, rfl, rfl, wa0⟩ := open_int Try.underlying2 (hval 0 2 v0 rfl rfl) h0
  refine (lawLinearWindow a0 W).mono fun e W' ⟨he, hb⟩ => ?_
  subst he
  exact ⟨_, rfl, law_post rfl rfl (by kernel_rfl) rfl hW' hb⟩
theorem FnExactLinearWindow_holds : Rows.FnExactLinearWindowSaid :=
  OpenClaim.holds_of_wide 7 Try.f7 rfl rfl rfl rfl rfl rfl rfl ⟨rfl, rfl, rfl, rfl, rfl⟩ rfl rfl rfl rfl rfl (by kernel_rfl) Try.func7 (by kernel_rfl)
    (of_decide_eq_true (by kernel_rfl)) (by unfold Func.isWrapper; first | (rw [if_pos (by decide +kernel)]; kernel_rfl) | (rw [if_neg (by decide +kernel)]; exact ⟨rfl, rfl⟩))
    (fun os started H enc _ => FnExactLinearWindow_lifted os started H enc)
#print axioms FnExactLinearWindow_holds
end Go.Proofs.Ytjfhjmpkiaakhaa
