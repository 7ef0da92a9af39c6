/- For every input: the program's SameInstrument returns what the reference's returns, and leaves its arguments alone. No conditions. -/
import Derived.Test.YtffbocbjmhkikaaI2
namespace Go.Proofs.Ytffbocbjmhkikaa
open Go.ChangeShapes Go.WideShapes Go.ChangeAt Go.RowKit
open Go.RowKit
set_option linter.unusedVariables false
set_option linter.unusedSimpArgs false
set_option maxRecDepth 100000
attribute [local simp] List.getElem?_cons_zero
attribute [local irreducible] awCond awCall awLoop awDraw ow retQ retC resQ Keeps
set_option maxHeartbeats 4000000 in
theorem lawSameInstrument_a {M : Mem} {us vs : List Value} {x y : Inst} (rx : instP.rd 0 M.length M x us) (ry : instP.rd 0 M.length M y vs) : Det Try.prog M.length 3 [.agg us.toArray, .agg vs.toArray] M (.bool true) M := by
  have hu := instP.len rx
  have hv := instP.len ry
  have K0 := Keeps.refl M
  have tu : us.take 8 = us := List.take_of_length_le (by omega)
  have tv : vs.take 8 = vs := List.take_of_length_le (by omega)
  first | (refine det_fn Try.func3 rfl Try.ntmps3 Try.results3 rfl rfl rfl (by simp) ?_) | (refine det_fnC Try.func3 rfl Try.ntmps3 Try.results3 rfl rfl (by simp) ?_)
  simp [hu, hv, tu, tv]
  obtain ⟨M0, hM0⟩ : ∃ M0 : Mem, M0 = M ++ [Slot.live ⟨us, true, true, 31, 8⟩, .live ⟨vs, true, true, 31, 8⟩] := ⟨_, rfl⟩
  have kb : Keeps M M0 := by rw [hM0]; exact keeps_app _
  have qb : M0.length = M.length + 2 := by rw [hM0]; simp
  have baA : cellsAt M0 M.length 0 8 = some us := by rw [hM0]; simp [hu, tu]
  have baB : cellsAt M0 (M.length + 1) 0 8 = some vs := by rw [hM0]; simp [hv, tv]
  rw [← hM0]
  clear hM0
  replace rx := instP.keeps rx kb
  replace ry := instP.keeps ry kb
  refine awCall_det' (szInstrument_x rx (z := 1048576) (by omega) (by omega)) (by omega) ?_
  by_cases g1 : (1048576 : Int) - wtInst x < 0
  · simp [g1]; exact kb
  have sx := wtInst_small g1 (by omega)
  simp (disch := omega) [g1, baA, baB]
  refine awCall_det' (szInstrument_x ry (z := 1048576 - wtInst x) (by omega) (by omega)) (by omega) ?_
  by_cases g2 : (1048576 : Int) - wtInst x - wtInst y < 0
  · simp [g2]; exact kb
  have sy := wtInst_small g2 (by omega)
  simp (disch := omega) [g2, baA, baB]
  clear g1 g2
  refine awDraw_D 3 [[],[0],[],[2,1,0],[1,0,3,2],[4,1,0,3,2]] (by kernel_rfl) (by decide +kernel) ?_
  simp (disch := omega) [baA, baB]
  obtain ⟨v1, N1, d1, r1⟩ := toInstrument_x rx sx
  refine awCall_det' (d := true) d1 (by omega) ?_
  simp (disch := omega) [cellsAt_app baA, cellsAt_app baB]
  have l1 : M0.length ≤ (M0 ++ N1).length := by simp
  obtain ⟨v2, N2, d2, r2⟩ := toInstrument_x (M := M0 ++ N1) (instP.app ry N1) sy
  refine awCall_det' d2 (by omega) ?_
  replace r1 := instP.app r1 N2
  replace baA := cellsAt_app (cellsAt_app baA N1) N2
  replace baB := cellsAt_app (cellsAt_app baB N1) N2
  replace rx := instP.app (instP.app rx N1) N2
  replace ry := instP.app (instP.app ry N1) N2
  replace kb := (kb.app N1).app N2
  replace qb : M.length + 2 ≤ (M0 ++ N1 ++ N2).length := by simp; omega
  generalize M0 ++ N1 ++ N2 = M1 at *
  refine awCall_det' (SameInstrument_s r1 r2) (by omega) ?_
  clear d1 d2 r1 r2 l1
  simp (disch := omega) [baA, baB]
  obtain ⟨v3, N3, d3, r3⟩ := toInstrument_x rx sx
  refine awCall_det' d3 (by omega) ?_
  refine inst_box r3 (by simp; omega) rfl ?_
  have bx : cellsAt (M1 ++ N3 ++ [Slot.live ⟨v3, true, true, 41, 8⟩]) (M1 ++ N3).length 0 8 = some v3 := cells_own (instP.len r3)
  have qp : M.length + 2 ≤ (M1 ++ N3).length := by simp; omega
  replace r3 := instP.app r3 [Slot.live ⟨v3, true, true, 41, 8⟩]
  replace baA := cellsAt_app (cellsAt_app baA N3) [Slot.live ⟨v3, true, true, 41, 8⟩]
  replace baB := cellsAt_app (cellsAt_app baB N3) [Slot.live ⟨v3, true, true, 41, 8⟩]
  replace rx := instP.app (instP.app rx N3) [Slot.live ⟨v3, true, true, 41, 8⟩]
  replace ry := instP.app (instP.app ry N3) [Slot.live ⟨v3, true, true, 41, 8⟩]
  replace kb := (kb.app N3).app [Slot.live ⟨v3, true, true, 41, 8⟩]
  have qq : (M1 ++ N3).length < (M1 ++ N3 ++ [Slot.live ⟨v3, true, true, 41, 8⟩]).length := by simp
  generalize (M1 ++ N3 ++ [Slot.live ⟨v3, true, true, 41, 8⟩]) = M2 at *
  generalize (M1 ++ N3).length = p at *
  clear d3 qb
  rw [baB, ow_some]
  obtain ⟨v4, N4, d4, r4⟩ := toInstrument_x ry sy
  refine awCall_det' d4 (by omega) ?_
  refine inst_box r4 (by simp; omega) rfl ?_
  have by_ : cellsAt (M2 ++ N4 ++ [Slot.live ⟨v4, true, true, 41, 8⟩]) (M2 ++ N4).length 0 8 = some v4 := cells_own (instP.len r4)
  have qp2 : M.length + 2 ≤ (M2 ++ N4).length := by simp; omega
  replace r3 := instP.app (instP.app r3 N4) [Slot.live ⟨v4, true, true, 41, 8⟩]
  replace r4 := instP.app r4 [Slot.live ⟨v4, true, true, 41, 8⟩]
  replace bx := cellsAt_app (cellsAt_app bx N4) [Slot.live ⟨v4, true, true, 41, 8⟩]
  replace baA := cellsAt_app (cellsAt_app baA N4) [Slot.live ⟨v4, true, true, 41, 8⟩]
  replace baB := cellsAt_app (cellsAt_app baB N4) [Slot.live ⟨v4, true, true, 41, 8⟩]
  replace rx := instP.app (instP.app rx N4) [Slot.live ⟨v4, true, true, 41, 8⟩]
  replace ry := instP.app (instP.app ry N4) [Slot.live ⟨v4, true, true, 41, 8⟩]
  replace kb := (kb.app N4).app [Slot.live ⟨v4, true, true, 41, 8⟩]
  have qq2 : (M2 ++ N4).length < (M2 ++ N4 ++ [Slot.live ⟨v4, true, true, 41, 8⟩]).length := by simp
  generalize (M2 ++ N4 ++ [Slot.live ⟨v4, true, true, 41, 8⟩]) = M3 at *
  generalize (M2 ++ N4).length = p2 at *
  clear d4 qq
  rw [bx, ow_some, by_, ow_some]
  refine awCall_det' (SameInstrument_i r3 r4) (by omega) ?_
  simp
  refine awDraw_D 3 [[],[],[1],[0,2,1],[3,0,2,1]] (by kernel_rfl) (by decide +kernel) ?_
  simp (disch := omega) [baA, baB, bx, by_]
  obtain ⟨v5, N5, d5, r5⟩ := toInstrument_x rx sx
  refine awCall_det' (d := true) d5 (by omega) ?_
  simp (disch := omega) [cellsAt_app baA, cellsAt_app baB, cellsAt_app bx, cellsAt_app by_]
  refine awCall_det' (eqInstrument_x (instP.app r3 N5) r5 sx.segs) (by simp <;> omega) ?_
  simp
  refine awDraw_D 3 [[],[],[1],[0,2,1],[3,0,2,1]] (by kernel_rfl) (by decide +kernel) ?_
  simp (disch := omega) [cellsAt_app baA, cellsAt_app baB, cellsAt_app bx, cellsAt_app by_]
  obtain ⟨v6, N6, d6, r6⟩ := toInstrument_x (M := M3 ++ N5) (instP.app ry N5) sy
  refine awCall_det' (d := true) d6 (by simp <;> omega) ?_
  try simp (disch := omega)
  rw [← List.append_assoc]
  refine awCall_det' (eqInstrument_x (M := M3 ++ N5 ++ N6) (instP.app (instP.app r4 N5) N6) r6 sy.segs) (by simp <;> omega) ?_
  simp
  rw [← List.append_assoc]
  exact (kb.app N5).app N6
set_option maxRecDepth 100000 in
theorem FnExactSameInstrument_lifted (os : Os) (started : os.Started) (H : Type) (enc : TypeId × Value → H) :
    ReturnsInHanded {} Try.checked os 3 .any (Rows.fnExactSameInstrumentSpec.pre6 enc Try.prog Try.f3 Rows.fnExactSameInstrumentRow.domain false) (Rows.fnExactSameInstrumentSpec.post enc Try.prog Try.f3 false true false false) := by
  refine returnsInHanded_of_change (C := Try.checked) own_knob started (by kernel_rfl) Try.func3
    (ChangeSpec.witness6 (enc := enc) (C := Try.checked) false ⟨#[], #[.agg #[.int .i64 0, .slice none 0 0, .slice none 0 0, .slice none 0 0, .int .i64 0, .slice none 0 0, .int .i64 0, .slice none 0 0], .agg #[.int .i64 0, .slice none 0 0, .slice none 0 0, .slice none 0 0, .int .i64 0, .slice none 0 0, .int .i64 0, .slice none 0 0]], []⟩ 8 (by kernel_rfl) (by kernel_rfl) (by kernel_rfl) (by kernel_rfl)) ?_
  intro W base args ds gs before hval0 hW hcnd _
  have hval : ∀ (j : Nat) t v, Try.f3.params[j]? = some t → args[j]? = some v → Value.okWide Try.prog W .any base t v := hval0
  have hW' := hW
  have hlt := hW.lt
  obtain ⟨p, q, hA0, hV, rfl, hfz, hnd⟩ := hW
  have hA : DataW.TrodAll enc Try.prog W 0 (fun _ => true) true Try.f3.params.toList args.toList ds p := hA0
  rw [Try.params3] at hA hval
  obtain ⟨v0, v1, d0, d1, p0, p1, rfl, rfl, rfl, h0, h1⟩ := trodAll_two hA
  have ar0 := (good_inst (enc := enc)).arg Try.underlying31 hlt (hval 0 _ v0 rfl rfl) h0 (fun x hx => by simp [hx])
  have ar1 := (good_inst (enc := enc)).arg Try.underlying31 hlt (hval 1 _ v1 rfl rfl) h1 (fun x hx => by simp [hx])
  have R := AR.nil W
  obtain ⟨L0, μ0, _, R0, x0, us0, rfl, K0⟩ := R.next ar0
  obtain ⟨L1, μ1, _, R1, x1, us1, rfl, K1⟩ := R0.next ar1
  replace K0 := instP.up K0 L1
  refine (law_end R1 (lawSameInstrument_a K0 K1)).mono fun e W' ⟨he, hb⟩ => ?_
  subst he
  exact ⟨_, rfl, law_post rfl rfl (by kernel_rfl) rfl hW' hb⟩
theorem FnExactSameInstrument_holds : Rows.FnExactSameInstrumentSaid :=
  OpenClaim.holds_of_wide 3 Try.f3 rfl rfl rfl rfl rfl rfl rfl ⟨rfl, rfl, rfl, rfl, rfl⟩ rfl rfl rfl rfl rfl (by kernel_rfl) Try.func3 (by kernel_rfl)
    (of_decide_eq_true (by kernel_rfl)) (by unfold Func.isWrapper; first | (rw [if_pos (by decide +kernel)]; kernel_rfl) | (rw [if_neg (by decide +kernel)]; exact ⟨rfl, rfl⟩))
    (fun os started H enc _ => FnExactSameInstrument_lifted os started H enc)
#print axioms FnExactSameInstrument_holds
end Go.Proofs.Ytffbocbjmhkikaa
