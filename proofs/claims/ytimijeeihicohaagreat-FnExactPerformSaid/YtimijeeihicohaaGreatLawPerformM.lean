/- For every input: the program's Perform returns what the reference's returns, leaves its arguments alone, and hands back memory of its own. No conditions. -/
import Derived.Test.YtimijeeihicohaaGreatZzPf25
namespace Go.Proofs.YtimijeeihicohaaGreat
open Go.ChangeShapes Go.WideShapes Go.ChangeAt Go.RowKit
open Go.RowKit
set_option linter.unusedVariables false
set_option linter.unusedSimpArgs false
set_option maxRecDepth 100000
attribute [local simp] List.getElem?_cons_zero
attribute [local irreducible] awCond awCall awLoop awDraw ow retQ retC resQ Keeps
section
variable {H : Type} {enc : TypeId × Value → H} {P : Program} {w : World} {base : Nat} {spare : Nat → Bool} {held : Bool}
/-- Five parameters. -/
theorem trodAll_five {t0 t1 t2 t3 t4 : TypeId} {args : Array Value} {ds : List (DataW H)} {ps : List MemPlace} (h : DataW.TrodAll enc P w base spare held [t0, t1, t2, t3, t4] args.toList ds ps) :
    ∃ v0 v1 v2 v3 v4 d0 d1 d2 d3 d4 p0 p1 p2 p3 p4, args = #[v0, v1, v2, v3, v4] ∧ ds = [d0, d1, d2, d3, d4] ∧ ps = p0 ++ p1 ++ p2 ++ p3 ++ p4 ∧ DataW.Trod enc P w base spare held t0 v0 d0 p0 ∧ DataW.Trod enc P w base spare held t1 v1 d1 p1 ∧
      DataW.Trod enc P w base spare held t2 v2 d2 p2 ∧ DataW.Trod enc P w base spare held t3 v3 d3 p3 ∧ DataW.Trod enc P w base spare held t4 v4 d4 p4 := by
  obtain ⟨v0, r0, d0, e0, p0, q0, ha, rfl, rfl, h0, h⟩ := trodAll_cons h
  obtain ⟨v1, r1, d1, e1, p1, q1, rfl, rfl, rfl, h1, h⟩ := trodAll_cons h
  obtain ⟨v2, r2, d2, e2, p2, q2, rfl, rfl, rfl, h2, h⟩ := trodAll_cons h
  obtain ⟨v3, r3, d3, e3, p3, q3, rfl, rfl, rfl, h3, h⟩ := trodAll_cons h
  obtain ⟨v4, r4, d4, e4, p4, q4, rfl, rfl, rfl, h4, h⟩ := trodAll_cons h
  obtain ⟨rfl, rfl, rfl⟩ := trodAll_nil h
  exact ⟨v0, v1, v2, v3, v4, d0, d1, d2, d3, d4, p0, p1, p2, p3, p4, by cases args; simp_all, rfl, by simp, h0, h1, h2, h3, h4⟩
end
set_option maxRecDepth 100000 in
theorem FnExactPerform_lifted (os : Os) (started : os.Started) (H : Type) (enc : TypeId × Value → H) :
    ReturnsInHanded {} Tryz.checked os 6 .any (Rows.fnExactPerformSpec.pre6 enc Tryz.prog Tryz.f6 Rows.fnExactPerformRow.domain false) (Rows.fnExactPerformSpec.post enc Tryz.prog Tryz.f6 false true false false) := by
  refine returnsInHanded_of_change (C := Tryz.checked) own_knob started (by kernel_rfl) Tryz.func6
    (ChangeSpec.witness6 (enc := enc) (C := Tryz.checked) false ⟨#[], #[.agg #[.int .i64 0, .slice none 0 0, .slice none 0 0, .slice none 0 0, .int .i64 0, .slice none 0 0, .int .i64 0, .slice none 0 0], .agg #[.slice none 0 0], .agg #[.slice none 0 0], .int .i64 0, .int .i64 0], []⟩ 8 (by kernel_rfl) (by kernel_rfl) (by kernel_rfl) (by kernel_rfl)) ?_
  intro W base args ds gs before hval0 hW hcnd _
  have hval : ∀ (j : Nat) t v, Tryz.f6.params[j]? = some t → args[j]? = some v → Value.okWide Tryz.prog W .any base t v := hval0
  have hW' := hW
  have hlt := hW.lt
  obtain ⟨p, q, hA0, hV, rfl, hfz, hnd⟩ := hW
  have hA : DataW.TrodAll enc Tryz.prog W 0 (fun _ => true) true Tryz.f6.params.toList args.toList ds p := hA0
  rw [Tryz.params6] at hA hval
  obtain ⟨v0, v1, v2, v3, v4, d0, d1, d2, d3, d4, p0, p1, p2, p3, p4, rfl, rfl, rfl, h0, h1, h2, h3, h4⟩ := trodAll_five hA
  have ar0 := (good_inst (enc := enc)).arg Tryz.underlying31 hlt (hval 0 _ v0 rfl rfl) h0 (fun x hx => by simp [hx])
  have ar1 := Arg.wrap noteI Tryz.underlying61 ⟨rfl, rfl⟩ (by kernel_rfl) (by kernel_rfl) Tryz.underlying59 (by kernel_rfl) (show Tryz.prog.cellsOf 167 = 7 from by kernel_rfl) (by omega) hlt (hval 1 _ v1 rfl rfl) h1 (fun x hx => by simp [hx])
  have ar2 := Arg.wrap tempoI Tryz.underlying64 ⟨rfl, rfl⟩ (by kernel_rfl) (by kernel_rfl) Tryz.underlying62 (by kernel_rfl) (show Tryz.prog.cellsOf 172 = 3 from by kernel_rfl) (by omega) hlt (hval 2 _ v2 rfl rfl) h2 (fun x hx => by simp [hx])
  obtain ⟨a3, rfl, rfl, rfl, wa3⟩ := open_int Tryz.underlying2 (hval 3 2 v3 rfl rfl) h3
  obtain ⟨a4, rfl, rfl, rfl, wa4⟩ := open_int Tryz.underlying2 (hval 4 2 v4 rfl rfl) h4
  have R := AR.nil W
  obtain ⟨L0, μ0, _, R0, x0, us0, rfl, K0⟩ := R.next ar0
  obtain ⟨L1, μ1, _, R1, u1, rfl, B1, n1, c1, l1, rfl, hn1, hs1, hw1⟩ := R0.next ar1
  have K1 := RdL.of_sl hn1 hs1 c1
  replace K0 := instP.up K0 L1
  obtain ⟨L2, μ2, _, R2, u2, rfl, B2, n2, c2, l2, rfl, hn2, hs2, hw2⟩ := R1.next ar2
  have K2 := RdL.of_sl hn2 hs2 c2
  replace K0 := instP.up K0 L2
  replace K1 := K1.up L2
  obtain ⟨L3, μ3, u3, R3, rfl⟩ := R2.next (Arg.plain (c := iv a3) rfl)
  replace K0 := instP.up K0 L3
  replace K1 := K1.up L3
  replace K2 := K2.up L3
  obtain ⟨L4, μ4, u4, R4, rfl⟩ := R3.next (Arg.plain (c := iv a4) rfl)
  replace K0 := instP.up K0 L4
  replace K1 := K1.up L4
  replace K2 := K2.up L4
  refine (law_end R4 (lawPerform_a a3 a4 K0 K1 K2)).mono fun e W' ⟨he, hb⟩ => ?_
  subst he
  exact ⟨_, rfl, law_post rfl rfl (by kernel_rfl) rfl hW' hb⟩
theorem FnExactPerform_holds : Rows.FnExactPerformSaid :=
  OpenClaim.holds_of_wide 6 Tryz.f6 rfl rfl rfl rfl rfl rfl rfl ⟨rfl, rfl, rfl, rfl, rfl⟩ rfl rfl rfl rfl rfl (by kernel_rfl) Tryz.func6 (by kernel_rfl)
    (of_decide_eq_true (by kernel_rfl)) (by unfold Func.isWrapper; first | (rw [if_pos (by decide +kernel)]; kernel_rfl) | (rw [if_neg (by decide +kernel)]; exact ⟨rfl, rfl⟩))
    (fun os started H enc _ => FnExactPerform_lifted os started H enc)
#print axioms FnExactPerform_holds
end Go.Proofs.YtimijeeihicohaaGreat
