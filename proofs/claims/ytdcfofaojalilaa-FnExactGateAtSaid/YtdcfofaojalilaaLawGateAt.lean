/- For every input: the program's GateAt returns what the reference's returns, leaves its arguments alone, and hands back memory of its own. No conditions. -/
import Derived.Test.YtdcfofaojalilaaG4
namespace Go.Proofs.Ytdcfofaojalilaa
open Go.ChangeShapes Go.WideShapes Go.ChangeAt Go.RowKit
open Go.RowKit
set_option linter.unusedVariables false
set_option linter.unusedSimpArgs false
attribute [local simp] List.getElem?_cons_zero
attribute [local irreducible] awCond awCall awLoop awDraw ow retQ retC resQ Keeps

theorem lawGateAt_a {M : Mem} {vaList : Value} {xaList : List Gate} (aVoice : Int) (aAt : Int) (raList : RdL gateR 0 M.length M vaList xaList) (waList : ∀ a ∈ xaList, ∃ ys : List Int, a = gateI.of ys ∧ ys.length = 5 ∧ ∀ z ∈ ys, (Lit.int .i64 z).wf = true) (waVoice : (Lit.int .i64 aVoice).wf = true) (waAt : (Lit.int .i64 aAt).wf = true) : Det Try.prog M.length 6 [vaList, iv aVoice, iv aAt] M (.bool true) M := by
  have K0 := Keeps.refl M
  by_cases gaList : (1048576 : Int) < xaList.length
  · first | (refine det_fn Try.func6 rfl Try.ntmps6 Try.results6 rfl rfl rfl (by simp) ?_) | (refine det_fnC Try.func6 rfl Try.ntmps6 Try.results6 rfl rfl (by simp) ?_)
    simp
    refine awCall_det' (sz_GateS_over raList (z := 1048576) (by omega) (by omega) (by omega)) (Nat.le_refl _) ?_
    simp [Keeps.refl]
  have eaList : xaList.length ≤ 1048576 := by omega
  first | (refine det_fn Try.func6 rfl Try.ntmps6 Try.results6 rfl rfl rfl (by simp) ?_) | (refine det_fnC Try.func6 rfl Try.ntmps6 Try.results6 rfl rfl (by simp) ?_)
  simp
  refine awCall_det' (sz_GateS raList (z := 1048576) (by omega) (by omega) (by omega)) (Nat.le_refl _) ?_
  try simp (disch := omega) [wrap_in]
  refine awCond_split ?_ ?_ <;> intro hq
  · simp at hq
    omega
  clear hq
  try simp (disch := omega) [wrap_in]
  refine awCall_ctr ((to_GateS raList eaList).weaken (by omega)) ?_
  rintro _ M1 ⟨r_t1, k1⟩
  have n1 := k1.len
  replace raList := raList.keeps k1
  have K1 := K0.trans k1
  clear k1
  try simp (disch := omega) [wrap_in]
  refine awCall_det' (GateAt_sl r_t1.rd eaList) (by omega) ?_
  try simp (disch := omega) [wrap_in]
  refine awCall_ctr ((to_GateS raList eaList).weaken (by omega)) ?_
  rintro _ M2 ⟨r_t2, k2⟩
  have n2 := k2.len
  replace raList := raList.keeps k2
  replace r_t1 := r_t1.keeps k2
  have K2 := K1.trans k2
  clear k2
  try simp (disch := omega) [wrap_in]
  refine awCall_det' (GateAt_il r_t2.rd eaList) (by omega) ?_
  try simp (disch := omega) [wrap_in]
  refine awCall_ctr ((to_GateS raList eaList).weaken (by omega)) ?_
  rintro _ M3 ⟨r_t3, k3⟩
  have n3 := k3.len
  replace raList := raList.keeps k3
  replace r_t1 := r_t1.keeps k3
  replace r_t2 := r_t2.keeps k3
  have K3 := K2.trans k3
  clear k3
  try simp (disch := omega) [wrap_in]
  refine awCall_det' (eq_GateS r_t2 r_t3.rd) (by omega) ?_
  try simp (disch := omega) [wrap_in]
  try simp [K3]
set_option maxRecDepth 100000 in
theorem FnExactGateAt_lifted (os : Os) (started : os.Started) (H : Type) (enc : TypeId × Value → H) :
    ReturnsInHanded {} Try.checked os 6 .any (Rows.fnExactGateAtSpec.pre6 enc Try.prog Try.f6 Rows.fnExactGateAtRow.domain false) (Rows.fnExactGateAtSpec.post enc Try.prog Try.f6 false true false false) := by
  refine returnsInHanded_of_change (C := Try.checked) own_knob started (by kernel_rfl) Try.func6
    (ChangeSpec.witness6 (enc := enc) (C := Try.checked) false ⟨#[], #[.slice none 0 0, .int .i64 0, .int .i64 0], []⟩ 8 (by kernel_rfl) (by kernel_rfl) (by kernel_rfl) (by kernel_rfl)) ?_
  intro W base args ds gs before hval0 hW hcnd _
  have hval : ∀ (j : Nat) t v, Try.f6.params[j]? = some t → args[j]? = some v → Value.okWide Try.prog W .any base t v := hval0
  have hW' := hW
  have hlt := hW.lt
  obtain ⟨p, q, hA0, hV, rfl, hfz, hnd⟩ := hW
  have hA : DataW.TrodAll enc Try.prog W 0 (fun _ => true) true Try.f6.params.toList args.toList ds p := hA0
  rw [Try.params6] at hA hval
  obtain ⟨v0, v1, v2, d0, d1, d2, p0, p1, p2, rfl, rfl, rfl, h0, h1, h2⟩ := trodAll_three hA
  have ar0 := Arg.flats gateI Try.underlying22 (by kernel_rfl) (show Try.prog.cellsOf 47 = 5 from by kernel_rfl) (by omega) hlt (hval 0 _ v0 rfl rfl) h0 (fun x hx => by simp [hx])
  obtain ⟨a1, rfl, rfl, rfl, wa1⟩ := open_int Try.underlying2 (hval 1 2 v1 rfl rfl) h1
  obtain ⟨a2, rfl, rfl, rfl, wa2⟩ := open_int Try.underlying2 (hval 2 2 v2 rfl rfl) h2
  have R := AR.nil W
  obtain ⟨L0, μ0, u0, R0, B0, n0, c0, l0, rfl, hn0, hs0, hw0⟩ := R.next ar0
  have K0 := RdL.of_sl hn0 hs0 c0
  obtain ⟨L1, μ1, u1, R1, rfl⟩ := R0.next (Arg.plain (c := iv a1) rfl)
  replace K0 := K0.up L1
  obtain ⟨L2, μ2, u2, R2, rfl⟩ := R1.next (Arg.plain (c := iv a2) rfl)
  replace K0 := K0.up L2
  refine (law_end R2 (lawGateAt_a a1 a2 K0 hw0 wa1 wa2) ).mono fun e W' ⟨he, hb⟩ => ?_
  subst he
  exact ⟨_, rfl, law_post rfl rfl (by kernel_rfl) rfl hW' hb⟩
theorem FnExactGateAt_holds : Rows.FnExactGateAtSaid :=
  OpenClaim.holds_of_wide 6 Try.f6 rfl rfl rfl rfl rfl rfl rfl ⟨rfl, rfl, rfl, rfl, rfl⟩ rfl rfl rfl rfl rfl (by kernel_rfl) Try.func6 (by kernel_rfl)
    (of_decide_eq_true (by kernel_rfl)) (by unfold Func.isWrapper; first | (rw [if_pos (by decide +kernel)]; kernel_rfl) | (rw [if_neg (by decide +kernel)]; exact ⟨rfl, rfl⟩))
    (fun os started H enc _ => FnExactGateAt_lifted os started H enc)
#print axioms FnExactGateAt_holds
end Go.Proofs.Ytdcfofaojalilaa
