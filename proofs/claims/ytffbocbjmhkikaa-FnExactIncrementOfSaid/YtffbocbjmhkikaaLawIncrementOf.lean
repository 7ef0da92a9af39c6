/- For every input: the program's IncrementOf returns what the reference's returns, and leaves its arguments alone. No conditions. -/
import Derived.Test.YtffbocbjmhkikaaI13
import Derived.Test.YtffbocbjmhkikaaI2
namespace Go.Proofs.Ytffbocbjmhkikaa
open Go.ChangeShapes Go.WideShapes Go.ChangeAt Go.RowKit
open Go.RowKit
set_option linter.unusedVariables false
set_option linter.unusedSimpArgs false
set_option maxRecDepth 100000
attribute [local simp] List.getElem?_cons_zero
attribute [local irreducible] awCond awCall awLoop awDraw ow retQ retC resQ Keeps
set_option maxHeartbeats 4000000 in
theorem lawIncrementOf_a {M : Mem} {us : List Value} {x : Inst} (key : Int) (rx : instP.rd 0 M.length M x us) (wkey : (Lit.int .i64 key).wf = true) : Det Try.prog M.length 5 [.agg us.toArray, iv key] M (.bool true) M := by
  have hu := instP.len rx
  have tu : us.take 8 = us := List.take_of_length_le (by omega)
  first | (refine det_fn Try.func5 rfl Try.ntmps5 Try.results5 rfl rfl rfl (by simp) ?_) | (refine det_fnC Try.func5 rfl Try.ntmps5 Try.results5 rfl rfl (by simp) ?_)
  simp [hu, tu]
  obtain ⟨M0, hM0⟩ : ∃ M0 : Mem, M0 = M ++ [Slot.live ⟨us, true, true, 31, 8⟩] := ⟨_, rfl⟩
  have kb : Keeps M M0 := by rw [hM0]; exact keeps_app _
  have qb : M0.length = M.length + 1 := by rw [hM0]; simp
  have baA : cellsAt M0 M.length 0 8 = some us := by rw [hM0]; simp [hu, tu]
  rw [← hM0]
  clear hM0
  replace rx := instP.keeps rx kb
  refine awCall_det' (szInstrument_x rx (z := 1048576) (by omega) (by omega)) (by omega) ?_
  by_cases g1 : (1048576 : Int) - wtInst x < 0
  · simp [g1]; exact kb
  have sx := wtInst_small g1 (by omega)
  simp (disch := omega) [g1, baA]
  clear g1
  obtain ⟨v1, N1, d1, r1⟩ := toInstrument_x rx sx
  refine awCall_det' d1 (by omega) ?_
  try simp (disch := omega)
  refine awCall_det' (IncrementOf_s key r1) (by simp; omega) ?_
  simp (disch := omega) [cellsAt_app baA]
  replace baA := cellsAt_app baA N1
  replace rx := instP.app rx N1
  replace kb := kb.app N1
  replace qb : M.length + 1 ≤ (M0 ++ N1).length := by simp; omega
  clear d1 r1
  generalize M0 ++ N1 = M1 at *
  obtain ⟨v3, N3, d3, r3⟩ := toInstrument_x rx sx
  refine awCall_det' d3 (by omega) ?_
  refine inst_box r3 (by simp; omega) rfl ?_
  have bx : cellsAt (M1 ++ N3 ++ [Slot.live ⟨v3, true, true, 41, 8⟩]) (M1 ++ N3).length 0 8 = some v3 := cells_own (instP.len r3)
  have qp : M.length + 1 ≤ (M1 ++ N3).length := by simp; omega
  replace r3 := instP.app r3 [Slot.live ⟨v3, true, true, 41, 8⟩]
  replace baA := cellsAt_app (cellsAt_app baA N3) [Slot.live ⟨v3, true, true, 41, 8⟩]
  replace rx := instP.app (instP.app rx N3) [Slot.live ⟨v3, true, true, 41, 8⟩]
  replace kb := (kb.app N3).app [Slot.live ⟨v3, true, true, 41, 8⟩]
  have qq : (M1 ++ N3).length < (M1 ++ N3 ++ [Slot.live ⟨v3, true, true, 41, 8⟩]).length := by simp
  generalize (M1 ++ N3 ++ [Slot.live ⟨v3, true, true, 41, 8⟩]) = M2 at *
  generalize (M1 ++ N3).length = p at *
  clear d3 qb
  rw [bx, ow_some]
  refine awCall_det' (IncrementOf_i key r3) (by omega) ?_
  simp
  refine awDraw_D 3 [[],[],[1],[0,2,1],[3,0,2,1]] (by kernel_rfl) (by decide +kernel) ?_
  simp (disch := omega) [baA, bx]
  obtain ⟨v5, N5, d5, r5⟩ := toInstrument_x rx sx
  refine awCall_det' (d := true) d5 (by omega) ?_
  try simp (disch := omega)
  refine awCall_det' (eqInstrument_x (instP.app r3 N5) r5 sx.segs) (by simp <;> omega) ?_
  simp
  exact kb.app N5
set_option maxRecDepth 100000 in
theorem FnExactIncrementOf_lifted (os : Os) (started : os.Started) (H : Type) (enc : TypeId × Value → H) :
    ReturnsInHanded {} Try.checked os 5 .any (Rows.fnExactIncrementOfSpec.pre6 enc Try.prog Try.f5 Rows.fnExactIncrementOfRow.domain false) (Rows.fnExactIncrementOfSpec.post enc Try.prog Try.f5 false true false false) := by
  refine returnsInHanded_of_change (C := Try.checked) own_knob started (by kernel_rfl) Try.func5
    (ChangeSpec.witness6 (enc := enc) (C := Try.checked) false ⟨#[], #[.agg #[.int .i64 0, .slice none 0 0, .slice none 0 0, .slice none 0 0, .int .i64 0, .slice none 0 0, .int .i64 0, .slice none 0 0], .int .i64 0], []⟩ 8 (by kernel_rfl) (by kernel_rfl) (by kernel_rfl) (by kernel_rfl)) ?_
  intro W base args ds gs before hval0 hW hcnd _
  have hval : ∀ (j : Nat) t v, Try.f5.params[j]? = some t → args[j]? = some v → Value.okWide Try.prog W .any base t v := hval0
  have hW' := hW
  have hlt := hW.lt
  obtain ⟨p, q, hA0, hV, rfl, hfz, hnd⟩ := hW
  have hA : DataW.TrodAll enc Try.prog W 0 (fun _ => true) true Try.f5.params.toList args.toList ds p := hA0
  rw [Try.params5] at hA hval
  obtain ⟨v0, v1, d0, d1, p0, p1, rfl, rfl, rfl, h0, h1⟩ := trodAll_two hA
  have ar0 := (good_inst (enc := enc)).arg Try.underlying31 hlt (hval 0 _ v0 rfl rfl) h0 (fun x hx => by simp [hx])
  obtain ⟨a1, rfl, rfl, rfl, wa1⟩ := open_int Try.underlying2 (hval 1 2 v1 rfl rfl) h1
  have R := AR.nil W
  obtain ⟨L0, μ0, _, R0, x0, us0, rfl, K0⟩ := R.next ar0
  obtain ⟨L1, μ1, u1, R1, rfl⟩ := R0.next (Arg.plain (c := iv a1) rfl)
  replace K0 := instP.up K0 L1
  refine (law_end R1 (lawIncrementOf_a a1 K0 wa1)).mono fun e W' ⟨he, hb⟩ => ?_
  subst he
  exact ⟨_, rfl, law_post rfl rfl (by kernel_rfl) rfl hW' hb⟩
theorem FnExactIncrementOf_holds : Rows.FnExactIncrementOfSaid :=
  OpenClaim.holds_of_wide 5 Try.f5 rfl rfl rfl rfl rfl rfl rfl ⟨rfl, rfl, rfl, rfl, rfl⟩ rfl rfl rfl rfl rfl (by kernel_rfl) Try.func5 (by kernel_rfl)
    (of_decide_eq_true (by kernel_rfl)) (by unfold Func.isWrapper; first | (rw [if_pos (by decide +kernel)]; kernel_rfl) | (rw [if_neg (by decide +kernel)]; exact ⟨rfl, rfl⟩))
    (fun os started H enc _ => FnExactIncrementOf_lifted os started H enc)
#print axioms FnExactIncrementOf_holds
end Go.Proofs.Ytffbocbjmhkikaa
