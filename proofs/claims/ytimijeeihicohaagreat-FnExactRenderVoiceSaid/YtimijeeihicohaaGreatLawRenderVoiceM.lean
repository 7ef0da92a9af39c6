/- For every input: the program's RenderVoice returns what the reference's returns, leaves its arguments alone, and hands back memory of its own. No conditions. -/
import Derived.Test.YtimijeeihicohaaGreatZzRv20
namespace Go.Proofs.YtimijeeihicohaaGreat
open Go.ChangeShapes Go.WideShapes Go.ChangeAt Go.RowKit
open Go.RowKit
set_option linter.unusedVariables false
set_option linter.unusedSimpArgs false
set_option maxRecDepth 100000
attribute [local simp] List.getElem?_cons_zero
attribute [local irreducible] awCond awCall awLoop awDraw ow retQ retC resQ Keeps
set_option maxHeartbeats 4000000 in
theorem lawRenderVoice_a {M : Mem} {us : List Value} {vt : Value} {x : Inst} {gl : List Gate} (aN : Int) (rs : instP.rd 0 M.length M x us) (rt : RdL gateR 0 M.length M vt gl) (wgl : ∀ a ∈ gl, ∃ ys : List Int, a = gateI.of ys ∧ ys.length = 5 ∧ ∀ z ∈ ys, (Lit.int .i64 z).wf = true) (waN : (Lit.int .i64 aN).wf = true) : Det Tryz.prog M.length 4 [.agg us.toArray, vt, iv aN] M (.bool true) M := by
  have hu := instP.len rs
  have tu : us.take 8 = us := List.take_of_length_le (by omega)
  first | (refine det_fn Tryz.func4 rfl Tryz.ntmps4 Tryz.results4 rfl rfl rfl (by simp) ?_) | (refine det_fnC Tryz.func4 rfl Tryz.ntmps4 Tryz.results4 rfl rfl (by simp) ?_)
  simp [hu, tu]
  obtain ⟨M0, hM0⟩ : ∃ M0 : Mem, M0 = M ++ [Slot.live ⟨us, true, true, 31, 8⟩] := ⟨_, rfl⟩
  have kb : Keeps M M0 := by rw [hM0]; exact keeps_app _
  have qb : M0.length = M.length + 1 := by rw [hM0]; simp
  have baT : cellsAt M0 M.length 0 8 = some us := by rw [hM0]; simp [hu, tu]
  rw [← hM0]
  clear hM0
  replace rs := instP.keeps rs kb
  replace rt := rt.keeps kb
  refine awCall_det' (szInstrument_x rs (z := 1048576) (by omega) (by omega)) (by omega) ?_
  by_cases g1 : (1048576 : Int) - wtInst x < 0
  · simp [g1]; exact kb
  have sx := wtInst_small g1 (by omega)
  simp (disch := omega) [g1, baT]
  by_cases g2 : (1048576 : Int) - wtInst x < gl.length
  · refine awCall_det' (sz_GateS_over rt (z := 1048576 - wtInst x) (by omega) (by omega) (by omega)) (by omega) ?_
    simp; exact kb
  refine awCall_det' (sz_GateS rt (z := 1048576 - wtInst x) (by omega) (by omega) (by omega)) (by omega) ?_
  have g3 : ¬ (1048576 : Int) - wtInst x - gl.length < 0 := by omega
  simp (disch := omega) [g3, baT]
  have wx : wtInst x ≤ 1048576 := by omega
  have sg : gl.length ≤ 1048576 := by omega
  clear g1 g2 g3
  -- the reference's answer
  obtain ⟨v1, N1, d1, r1, -⟩ := toInstrument_w rs sx
  refine awCall_det' d1 (by omega) ?_
  replace baT := cellsAt_app baT N1
  replace rs := instP.app rs N1
  replace rt := rt.keeps (keeps_app N1)
  replace kb := kb.app N1
  have n1 : M0.length ≤ (M0 ++ N1).length := by simp
  clear d1
  generalize M0 ++ N1 = M1 at *
  refine awCall_ctr ((to_GateS rt sg).weaken (by omega)) ?_
  rintro w1 M2 ⟨ow1, k2⟩
  have n2 := k2.len
  replace baT := cellsAt_keeps k2 baT
  replace rs := instP.keeps rs k2
  replace rt := rt.keeps k2
  replace r1 := instP.keeps r1 k2
  replace kb := kb.trans k2
  clear k2
  refine awCall_ctr (RenderVoice_sl aN r1 ow1.rd sg (by omega)) ?_
  rintro _ M3 ⟨w, rfl, aw, hS3⟩
  clear r1 ow1
  have k3 : Keeps M2 M3 := slt hS3
  have n3 := k3.len
  replace baT := cellsAt_keeps k3 baT
  replace rs := instP.keeps rs k3
  replace rt := rt.keeps k3
  replace kb := kb.trans k3
  clear hS3 k3
  have hok := voV_len (x := x) (l := gl) (N := aN)
  generalize ho : (voV x gl aN).1 = out at *
  generalize hco : (voV x gl aN).2 = code at *
  have aws := VoO.slv aw hok
  clear aw
  simp (disch := omega) [baT]
  -- the program's arguments
  obtain ⟨v3, N3, d3, r3, q3⟩ := toInstrument_w rs sx
  refine awCall_det' d3 (by omega) ?_
  refine inst_box r3 (by simp; omega) rfl ?_
  have bx : cellsAt (M3 ++ N3 ++ [Slot.live ⟨v3, true, true, 44, 8⟩]) (M3 ++ N3).length 0 8 = some v3 := cells_own (instP.len r3)
  have ow3 : OwnR M3.length (M3 ++ N3).length (M3 ++ N3 ++ [Slot.live ⟨v3, true, true, 44, 8⟩]) := q3.r.app (Nat.le_refl _) _
  replace r3 := instP.app r3 [Slot.live ⟨v3, true, true, 44, 8⟩]
  replace baT := cellsAt_app (cellsAt_app baT N3) [Slot.live ⟨v3, true, true, 44, 8⟩]
  replace rs := instP.app (instP.app rs N3) [Slot.live ⟨v3, true, true, 44, 8⟩]
  replace rt := (rt.keeps (keeps_app N3)).keeps (keeps_app [Slot.live ⟨v3, true, true, 44, 8⟩])
  replace aws := (aws.app N3).app [Slot.live ⟨v3, true, true, 44, 8⟩]
  replace kb := (kb.app N3).app [Slot.live ⟨v3, true, true, 44, 8⟩]
  have qq : (M3 ++ N3).length < (M3 ++ N3 ++ [Slot.live ⟨v3, true, true, 44, 8⟩]).length := by simp
  have qs : M3.length ≤ (M3 ++ N3).length := by simp
  generalize (M3 ++ N3 ++ [Slot.live ⟨v3, true, true, 44, 8⟩]) = M4 at *
  generalize (M3 ++ N3).length = p at *
  generalize M3.length = s at *
  clear d3 q3
  try simp (disch := omega)
  refine awCall_ctr ((to_GateS rt sg).weaken (by omega)) ?_
  rintro x1 M5 ⟨r4, k5⟩
  have n5 := k5.len
  replace baT := cellsAt_keeps k5 baT
  replace bx := cellsAt_keeps k5 bx
  replace ow3 := ow3.agree k5.agree (by omega)
  replace r3 := instP.keeps r3 k5
  replace rs := instP.keeps rs k5
  replace rt := rt.keeps k5
  replace aws := aws.keeps k5
  replace kb := kb.trans k5
  clear k5
  simp (disch := omega) [bx]
  refine awCall_ctr (RenderVoice_il aN r3 r4.rd sg (by omega)) ?_
  rintro _ M6 ⟨g, rfl, ag, hS6⟩
  rw [ho] at ag
  rw [hco]
  have k6 : Keeps M5 M6 := slt hS6
  have n6 := k6.len
  replace baT := cellsAt_keeps k6 baT
  replace bx := cellsAt_keeps k6 bx
  replace ow3 := ow3.agree k6.agree (by omega)
  replace r3 := instP.keeps r3 k6
  replace r4 := r4.keeps k6
  replace rs := instP.keeps rs k6
  replace rt := rt.keeps k6
  replace aws := aws.keeps k6
  replace kb := kb.trans k6
  clear hS6 k6
  try simp (disch := omega)
  refine awCall_det' (eqInt64S_x (VoO.slv ag hok) aws) (by omega) ?_
  simp (disch := omega) [baT]
  refine awDraw_D 3 [[],[],[1],[0,2,1],[3,0,2,1]] (by kernel_rfl) (by decide +kernel) ?_
  simp (disch := omega) [baT, bx]
  obtain ⟨v7, N7, d7, r7⟩ := toInstrument_x rs sx
  refine awCall_det' (d := true) d7 (by omega) ?_
  simp (disch := omega) [cellsAt_app baT, cellsAt_app bx]
  refine awCall_det' (eqInstrument_x (instP.app r3 N7) r7 sx.segs) (by simp <;> omega) ?_
  simp
  replace baT := cellsAt_app baT N7
  replace bx := cellsAt_app bx N7
  replace ow3 := ow3.app (by omega) N7
  replace r3 := instP.app r3 N7
  replace r4 := r4.keeps (keeps_app N7)
  replace rs := instP.app rs N7
  replace rt := rt.keeps (keeps_app N7)
  replace aws := aws.app N7
  replace ag := VoO.keeps ag (keeps_app N7)
  replace kb := kb.app N7
  have n7 : M6.length ≤ (M6 ++ N7).length := by simp
  clear d7 r7
  generalize M6 ++ N7 = M7 at *
  refine awCall_ctr ((to_GateS rt sg).weaken (by omega)) ?_
  rintro w8 M8 ⟨r8, k8⟩
  have n8 := k8.len
  replace baT := cellsAt_keeps k8 baT
  replace bx := cellsAt_keeps k8 bx
  replace ow3 := ow3.agree k8.agree (by omega)
  replace r3 := instP.keeps r3 k8
  replace r4 := r4.keeps k8
  replace rs := instP.keeps rs k8
  replace rt := rt.keeps k8
  replace aws := aws.keeps k8
  replace ag := VoO.keeps ag k8
  replace kb := kb.trans k8
  clear k8
  refine awCall_det' (eq_GateS r4 r8.rd) (by omega) ?_
  simp (disch := omega) [bx]
  clear r8
  -- marks on the arguments
  refine awCall_ctr (markInstrument_k 1 r3 ow3 (by omega) (by omega) (by omega) (by omega) (by omega) (by omega)) ?_
  rintro _ M9 ⟨rfl, m9⟩
  have t9 := m9.turn
  clear r3 ow3 bx m9
  have n9 := t9.1
  have a9 : Agree 0 s M8 M9 := t9.agree (.inl (Nat.le_refl _))
  replace baT := a9.cells (Nat.zero_le _) (by omega) baT
  replace rs := instP.agree rs (a9.thin (Nat.le_refl _) (by omega))
  replace rt := rt.turn t9 (.inl (by omega))
  replace aws := aws.agree (a9.thin (Nat.zero_le _) (Nat.le_refl _))
  replace r4 := r4.turn t9 (.inr (by omega))
  replace ag := VoO.turn ag t9 (by omega)
  replace kb := t9.keeps kb (by omega)
  clear a9 t9
  try simp (disch := omega)
  have hmk := mkInst_le wx
  refine awCall_ctr (mark_GateS r4 (by omega) (by omega) (by omega)) ?_
  rintro _ M10 ⟨rfl, -, t10⟩
  clear r4
  have n10 := t10.1
  have a10 : Agree 0 s M9 M10 := t10.agree (.inl (by omega))
  replace baT := a10.cells (Nat.zero_le _) (by omega) baT
  replace rs := instP.agree rs (a10.thin (Nat.le_refl _) (by omega))
  replace rt := rt.turn t10 (.inl (by omega))
  replace aws := aws.agree (a10.thin (Nat.zero_le _) (Nat.le_refl _))
  replace ag := VoO.turn ag t10 (by omega)
  replace kb := t10.keeps kb (by omega)
  clear a10 t10
  have hneg : ¬ (1 + (mkInst x : Int) + gl.length * 5 < 0) := by omega
  simp [hneg]
  refine awCall_det' (eqInt64S_x (VoO.slv ag hok) aws) (by omega) ?_
  try simp (disch := omega)
  -- the result is one's own
  refine awCall_ctr (mark_VoO ag (by omega) hok) ?_
  clear ag
  rintro _ M11 ⟨rfl, ag, t11⟩
  have n11 := t11.1
  have a11 : Agree 0 M4.length M10 M11 := t11.agree (.inl (by omega))
  replace baT := a11.cells (Nat.zero_le _) (by omega) baT
  replace rs := instP.agree rs (a11.thin (Nat.le_refl _) (by omega))
  replace rt := rt.turn t11 (.inl (by omega))
  replace aws := aws.agree (a11.thin (Nat.zero_le _) (by omega))
  replace kb := t11.keeps kb (by omega)
  clear a11 t11
  try simp (disch := omega)
  refine awCall_det' (held_VoO ag hok) (by omega) ?_
  generalize htot : totI out = tot at *
  have hneg2 : ¬ (1 + (tot : Int) < 0) := by omega
  simp (disch := omega) [hneg2, wrap_in, baT]
  -- once more
  obtain ⟨v1, N1, d1, r1, -⟩ := toInstrument_w rs sx
  refine awCall_det' d1 (by omega) ?_
  replace rt := rt.keeps (keeps_app N1)
  replace aws := aws.app N1
  replace ag := VoO.keeps ag (keeps_app N1)
  replace kb := kb.app N1
  have n12 : M11.length ≤ (M11 ++ N1).length := by simp
  clear d1 rs baT
  generalize M11 ++ N1 = M12 at *
  refine awCall_ctr ((to_GateS rt sg).weaken (by omega)) ?_
  rintro w1 M13 ⟨ow1, k13⟩
  have n13 := k13.len
  replace aws := aws.keeps k13
  replace ag := VoO.keeps ag k13
  replace kb := kb.trans k13
  replace r1 := instP.keeps r1 k13
  clear rt k13
  refine awCall_ctr (RenderVoice_il aN r1 ow1.rd sg (by omega)) ?_
  rintro _ M14 ⟨h, rfl, ah, hS14⟩
  clear r1 ow1
  have k14 : Keeps M13 M14 := slt hS14
  have n14 := k14.len
  replace aws := aws.keeps k14
  replace ag := VoO.keeps ag k14
  replace kb := kb.trans k14
  rw [ho] at ah
  rw [hco]
  clear hS14 k14
  try simp (disch := omega)
  refine awCall_det' (eqInt64S_x (VoO.slv ah hok) aws) (by omega) ?_
  try simp (disch := omega)
  refine awCall_det' (held_VoO ag hok) (by omega) ?_
  rw [htot]
  simp (disch := omega) [hneg2, wrap_in]
  exact kb
set_option maxRecDepth 100000 in
theorem FnExactRenderVoice_lifted (os : Os) (started : os.Started) (H : Type) (enc : TypeId × Value → H) :
    ReturnsInHanded {} Tryz.checked os 4 .any (Rows.fnExactRenderVoiceSpec.pre6 enc Tryz.prog Tryz.f4 Rows.fnExactRenderVoiceRow.domain false) (Rows.fnExactRenderVoiceSpec.post enc Tryz.prog Tryz.f4 false true false false) := by
  refine returnsInHanded_of_change (C := Tryz.checked) own_knob started (by kernel_rfl) Tryz.func4
    (ChangeSpec.witness6 (enc := enc) (C := Tryz.checked) false ⟨#[], #[.agg #[.int .i64 0, .slice none 0 0, .slice none 0 0, .slice none 0 0, .int .i64 0, .slice none 0 0, .int .i64 0, .slice none 0 0], .slice none 0 0, .int .i64 0], []⟩ 8 (by kernel_rfl) (by kernel_rfl) (by kernel_rfl) (by kernel_rfl)) ?_
  intro W base args ds gs before hval0 hW hcnd _
  have hval : ∀ (j : Nat) t v, Tryz.f4.params[j]? = some t → args[j]? = some v → Value.okWide Tryz.prog W .any base t v := hval0
  have hW' := hW
  have hlt := hW.lt
  obtain ⟨p, q, hA0, hV, rfl, hfz, hnd⟩ := hW
  have hA : DataW.TrodAll enc Tryz.prog W 0 (fun _ => true) true Tryz.f4.params.toList args.toList ds p := hA0
  rw [Tryz.params4] at hA hval
  obtain ⟨v0, v1, v2, d0, d1, d2, p0, p1, p2, rfl, rfl, rfl, h0, h1, h2⟩ := trodAll_three hA
  have ar0 := (good_inst (enc := enc)).arg Tryz.underlying31 hlt (hval 0 _ v0 rfl rfl) h0 (fun x hx => by simp [hx])
  have ar1 := Arg.flats gateI Tryz.underlying32 (by kernel_rfl) (show Tryz.prog.cellsOf 92 = 5 from by kernel_rfl) (by omega) hlt (hval 1 _ v1 rfl rfl) h1 (fun x hx => by simp [hx])
  obtain ⟨a2, rfl, rfl, rfl, wa2⟩ := open_int Tryz.underlying2 (hval 2 2 v2 rfl rfl) h2
  have R := AR.nil W
  obtain ⟨L0, μ0, _, R0, x0, us0, rfl, K0⟩ := R.next ar0
  obtain ⟨L1, μ1, u1, R1, B1, n1, c1, l1, rfl, hn1, hs1, hw1⟩ := R0.next ar1
  have K1 := RdL.of_sl hn1 hs1 c1
  replace K0 := instP.up K0 L1
  obtain ⟨L2, μ2, u2, R2, rfl⟩ := R1.next (Arg.plain (c := iv a2) rfl)
  replace K0 := instP.up K0 L2
  replace K1 := K1.up L2
  refine (law_end R2 (lawRenderVoice_a a2 K0 K1 hw1 wa2)).mono fun e W' ⟨he, hb⟩ => ?_
  subst he
  exact ⟨_, rfl, law_post rfl rfl (by kernel_rfl) rfl hW' hb⟩
theorem FnExactRenderVoice_holds : Rows.FnExactRenderVoiceSaid :=
  OpenClaim.holds_of_wide 4 Tryz.f4 rfl rfl rfl rfl rfl rfl rfl ⟨rfl, rfl, rfl, rfl, rfl⟩ rfl rfl rfl rfl rfl (by kernel_rfl) Tryz.func4 (by kernel_rfl)
    (of_decide_eq_true (by kernel_rfl)) (by unfold Func.isWrapper; first | (rw [if_pos (by decide +kernel)]; kernel_rfl) | (rw [if_neg (by decide +kernel)]; exact ⟨rfl, rfl⟩))
    (fun os started H enc _ => FnExactRenderVoice_lifted os started H enc)
#print axioms FnExactRenderVoice_holds
end Go.Proofs.YtimijeeihicohaaGreat
