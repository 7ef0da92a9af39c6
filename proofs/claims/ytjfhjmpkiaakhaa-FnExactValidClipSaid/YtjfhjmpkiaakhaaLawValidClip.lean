/- For every input: the program's ValidClip returns what the reference's returns and leaves its arguments alone. No conditions. -/
import Derived.Test.YtjfhjmpkiaakhaaClip
import Derived.Test.YtjfhjmpkiaakhaaLaw
namespace Go.Proofs.Ytjfhjmpkiaakhaa
open Go.ChangeShapes Go.WideShapes Go.ChangeAt Go.RowKit
set_option linter.unusedVariables false
set_option linter.unusedSimpArgs false
theorem I_ValidClip {c : Clip} {w : World} : Calls Try.prog 11 #[c.v] w fun e w' => e = .returned (.bool (clipB c)) ∧ Below w.heap.size w w' := ValidClip_impl c w
theorem S_ValidClip {c : Clip} {w : World} : Calls Try.prog 9 #[c.v] w fun e w' => e = .returned (.bool (clipB c)) ∧ Below w.heap.size w w' := ValidClip_spec c w

set_option maxHeartbeats 2000000 in
theorem lawValidClip (aC : Clip) (w : World)  :
    Calls Try.prog 3 #[aC.v] w fun e w' => e = .returned (.bool true) ∧ Below w.heap.size w w' := by
  have B := Below.refl w.heap.size w
  go_enter Try.func3, Try.ntmps3
  go_wp2_with fail
  refine (toClip_any _ _).mono ?_; rintro e w1 ⟨rfl, hb⟩
  have s1 := hb.size
  replace B : Below w.heap.size w w1 := below_through (by repeat (first | exact Below.refl _ _ | assumption | (refine Below.alloc ?_ (by simp <;> omega) _) | (refine Below.setCell ?_ (by simp <;> omega) _) | (refine Below.drew ?_))) hb (by simp <;> omega)
  have sB : w.heap.size + 1 ≤ w1.heap.size := Nat.le_trans (by simp <;> omega) hb.size
  have kaC0 : w1.cell? ⟨w.heap.size, 0, none⟩ = some (iv (gi aC.row 0)) := (hb.cell (p := ⟨w.heap.size, 0, none⟩) (by simp <;> omega)).trans (by go_simp <;> rfl)
  have kaC1 : w1.cell? ⟨w.heap.size, 1, none⟩ = some (iv (gi aC.row 1)) := (hb.cell (p := ⟨w.heap.size, 1, none⟩) (by simp <;> omega)).trans (by go_simp <;> rfl)
  have kaC2 : w1.cell? ⟨w.heap.size, 2, none⟩ = some (iv (gi aC.row 2)) := (hb.cell (p := ⟨w.heap.size, 2, none⟩) (by simp <;> omega)).trans (by go_simp <;> rfl)
  have kaC3 : w1.cell? ⟨w.heap.size, 3, none⟩ = some (iv (gi aC.row 3)) := (hb.cell (p := ⟨w.heap.size, 3, none⟩) (by simp <;> omega)).trans (by go_simp <;> rfl)
  have kaC4 : w1.cell? ⟨w.heap.size, 4, none⟩ = some (iv (gi aC.row 4)) := (hb.cell (p := ⟨w.heap.size, 4, none⟩) (by simp <;> omega)).trans (by go_simp <;> rfl)
  clear hb
  go_wp2_with fail
  refine (S_ValidClip ).mono ?_; rintro e w2 ⟨rfl, hb⟩
  have s2 := hb.size
  replace B := B.trans (hb.mono B.size)
  replace kaC0 := (hb.cell (p := ⟨w.heap.size, 0, none⟩) (by simp <;> omega)).trans kaC0
  replace kaC1 := (hb.cell (p := ⟨w.heap.size, 1, none⟩) (by simp <;> omega)).trans kaC1
  replace kaC2 := (hb.cell (p := ⟨w.heap.size, 2, none⟩) (by simp <;> omega)).trans kaC2
  replace kaC3 := (hb.cell (p := ⟨w.heap.size, 3, none⟩) (by simp <;> omega)).trans kaC3
  replace kaC4 := (hb.cell (p := ⟨w.heap.size, 4, none⟩) (by simp <;> omega)).trans kaC4
  replace sB := Nat.le_trans sB hb.size
  clear hb
  go_wp2_with fail
  refine (toClip_any _ _).mono ?_; rintro e w3 ⟨rfl, hb⟩
  have s3 := hb.size
  replace B := B.trans (hb.mono B.size)
  replace kaC0 := (hb.cell (p := ⟨w.heap.size, 0, none⟩) (by simp <;> omega)).trans kaC0
  replace kaC1 := (hb.cell (p := ⟨w.heap.size, 1, none⟩) (by simp <;> omega)).trans kaC1
  replace kaC2 := (hb.cell (p := ⟨w.heap.size, 2, none⟩) (by simp <;> omega)).trans kaC2
  replace kaC3 := (hb.cell (p := ⟨w.heap.size, 3, none⟩) (by simp <;> omega)).trans kaC3
  replace kaC4 := (hb.cell (p := ⟨w.heap.size, 4, none⟩) (by simp <;> omega)).trans kaC4
  replace sB := Nat.le_trans sB hb.size
  clear hb
  go_wp2_with fail
  refine (I_ValidClip ).mono ?_; rintro e w4 ⟨rfl, hb⟩
  have s4 := hb.size
  replace B := B.trans (hb.mono B.size)
  replace kaC0 := (hb.cell (p := ⟨w.heap.size, 0, none⟩) (by simp <;> omega)).trans kaC0
  replace kaC1 := (hb.cell (p := ⟨w.heap.size, 1, none⟩) (by simp <;> omega)).trans kaC1
  replace kaC2 := (hb.cell (p := ⟨w.heap.size, 2, none⟩) (by simp <;> omega)).trans kaC2
  replace kaC3 := (hb.cell (p := ⟨w.heap.size, 3, none⟩) (by simp <;> omega)).trans kaC3
  replace kaC4 := (hb.cell (p := ⟨w.heap.size, 4, none⟩) (by simp <;> omega)).trans kaC4
  replace sB := Nat.le_trans sB hb.size
  clear hb
  go_wp2
  go_ret
  exact ⟨rfl, B⟩

set_option maxRecDepth 100000 in
theorem FnExactValidClip_lifted (os : Os) (started : os.Started) (H : Type) (enc : TypeId × Value → H) :
    ReturnsInHanded {} Try.checked os 3 .any (Rows.fnExactValidClipSpec.pre6 enc Try.prog Try.f3 Rows.fnExactValidClipRow.domain false) (Rows.fnExactValidClipSpec.post enc Try.prog Try.f3 false true false false) := by
  refine returnsInHanded_of_change (C := Try.checked) own_knob started (by kernel_rfl) Try.func3
    (ChangeSpec.witness6 (enc := enc) (C := Try.checked) false ⟨#[], #[.agg #[.int .i64 0, .int .i64 0, .int .i64 0, .int .i64 0, .int .i64 0]], []⟩ 8 (by kernel_rfl) (by kernel_rfl) (by kernel_rfl) (by kernel_rfl)) ?_
  intro W base args ds gs before hval0 hW hcnd _
  have hval : ∀ (j : Nat) t v, Try.f3.params[j]? = some t → args[j]? = some v → Value.okWide Try.prog W .any base t v := hval0
  have hW' := hW
  have hlt := hW.lt
  obtain ⟨p, q, hA0, hV, rfl, hfz, hnd⟩ := hW
  have hA : DataW.TrodAll enc Try.prog W 0 (fun _ => true) true Try.f3.params.toList args.toList ds p := hA0
  rw [Try.params3] at hA hval
  obtain ⟨v0, d0, rfl, rfl, h0⟩ := trodAll_one hA
  obtain ⟨zs0, e0, hl0, hw0⟩ := open_flat Try.underlying23 (by kernel_rfl) (hval 0 _ v0 rfl rfl) h0
  obtain ⟨x0, rfl⟩ : ∃ x : Clip, zs0 = x.row := ⟨clipR.make zs0, (clipR.row_make zs0 (hl0.trans (by kernel_rfl))).symm⟩
  subst e0
  refine (lawValidClip x0 W).mono fun e W' ⟨he, hb⟩ => ?_
  subst he
  exact ⟨_, rfl, law_post rfl rfl (by kernel_rfl) rfl hW' hb⟩
theorem FnExactValidClip_holds : Rows.FnExactValidClipSaid :=
  OpenClaim.holds_of_wide 3 Try.f3 rfl rfl rfl rfl rfl rfl rfl ⟨rfl, rfl, rfl, rfl, rfl⟩ rfl rfl rfl rfl rfl (by kernel_rfl) Try.func3 (by kernel_rfl)
    (of_decide_eq_true (by kernel_rfl)) (by unfold Func.isWrapper; first | (rw [if_pos (by decide +kernel)]; kernel_rfl) | (rw [if_neg (by decide +kernel)]; exact ⟨rfl, rfl⟩))
    (fun os started H enc _ => FnExactValidClip_lifted os started H enc)
#print axioms FnExactValidClip_holds
end Go.Proofs.Ytjfhjmpkiaakhaa
