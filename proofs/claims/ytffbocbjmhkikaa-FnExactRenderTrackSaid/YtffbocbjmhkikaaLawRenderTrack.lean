/- For every input: the program's RenderTrack returns what the reference's returns, leaves its arguments alone, and hands back memory of its own. No conditions. -/
import Derived.Test.YtffbocbjmhkikaaJ3
import Derived.Test.YtffbocbjmhkikaaM2
namespace Go.Proofs.Ytffbocbjmhkikaa
open Go.ChangeShapes Go.WideShapes Go.ChangeAt Go.RowKit
open Go.RowKit
set_option linter.unusedVariables false
set_option linter.unusedSimpArgs false
set_option maxRecDepth 100000
attribute [local simp] List.getElem?_cons_zero
attribute [local irreducible] awCond awCall awLoop awDraw ow retQ retC resQ Keeps
theorem RenderTrack_sl {M : Mem} {b lo hi lo' hi' : Nat} {u v : Value} {ss : List (List Int)} {cl : List Clip} (k : Int) (hs : SlV tabP lo hi M u ss) (ht : RdL clipR lo' hi' M v cl) (hc : cl.length ≤ 1048576) (hb : b ≤ M.length) :
    Ctr Try.prog b 21 [u, .agg #[v], iv k] M fun r M' => RtR ss cl k M r M' := by
  obtain ⟨A, n, c, rfl, hn, hS, -⟩ := ht
  exact RenderTrack_s k hs hS (by have := hS.1; omega) hb
theorem RenderTrack_il {M : Mem} {b lo hi lo' hi' : Nat} {u v : Value} {ss : List (List Int)} {cl : List Clip} (k : Int) (hs : SlV tabP lo hi M u ss) (ht : RdL clipR lo' hi' M v cl) (hc : cl.length ≤ 1048576) (hb : b ≤ M.length) :
    Ctr Try.prog b 24 [u, .agg #[v], iv k] M fun r M' => RtR ss cl k M r M' := by
  obtain ⟨A, n, c, rfl, hn, hS, -⟩ := ht
  exact RenderTrack_i k hs hS (by have := hS.1; omega) hb
theorem Acc.turn {α : Type} {k : Nat} {R : RecV α k} {e : TypeId} {B lo hi : Nat} {M M' : Mem} {v : Value} {l : List α} (h : Acc R e B M v l) (ht : Turn lo hi M M') (hb : hi ≤ B) : Acc R e B M' v l := by
  obtain ⟨A, n, c, h1, h2, h3⟩ := h
  refine ⟨A, n, c, h1, h2, ?_⟩
  rcases h3 with h3 | ⟨id, t, h4, h5, h6⟩
  · exact .inl h3
  · exact .inr ⟨id, t, h4, h5, ht.2 id _ h6 (.inr (by omega))⟩
theorem rtC_len {ss : List (List Int)} {cl : List Clip} {k : Int} : (rtC ss cl k).1.length ≤ 4000 := by
  unfold rtC
  split
  · split
    · split
      · rename_i h _
        have := inB_iff.1 h
        show (rendT ss cl k.toNat cl.length).length ≤ 4000
        rw [rendT_len]
        omega
      · exact Nat.zero_le _
    · exact Nat.zero_le _
  · exact Nat.zero_le _
set_option maxHeartbeats 4000000 in
theorem lawRenderTrack_a {M : Mem} {u vt : Value} {ss : List (List Int)} {cl : List Clip} (aN : Int) (rs : SlV tabP 0 M.length M u ss) (rt : RdL clipR 0 M.length M vt cl) (wcl : ∀ a ∈ cl, ∃ ys : List Int, a = clipI.of ys ∧ ys.length = 5 ∧ ∀ z ∈ ys, (Lit.int .i64 z).wf = true) (waN : (Lit.int .i64 aN).wf = true) : Det Try.prog M.length 6 [u, .agg #[vt], iv aN] M (.bool true) M := by
  first | (refine det_fn Try.func6 rfl Try.ntmps6 Try.results6 rfl rfl rfl (by simp) ?_) | (refine det_fnC Try.func6 rfl Try.ntmps6 Try.results6 rfl rfl (by simp) ?_)
  simp
  obtain ⟨M0, hM0⟩ : ∃ M0 : Mem, M0 = M ++ [Slot.live ⟨[vt], true, true, 51, 1⟩] := ⟨_, rfl⟩
  have kb : Keeps M M0 := by rw [hM0]; exact keeps_app _
  have qb : M0.length = M.length + 1 := by rw [hM0]; simp
  have baT : cellsAt M0 M.length 0 1 = some [vt] := by rw [hM0]; simp
  rw [← hM0]
  clear hM0
  replace rs := rs.keeps kb
  replace rt := rt.keeps kb
  refine awCall_det' (szInt64SS_x rs (z := 1048576) (by omega) (by omega)) (by omega) ?_
  by_cases g1 : (1048576 : Int) - wtInt64SS ss < 0
  · simp [g1]; exact kb
  simp (disch := omega) [g1, baT]
  by_cases g2 : (1048576 : Int) - wtInt64SS ss < cl.length
  · refine awCall_det' (sz_Track_over rt (z := 1048576 - wtInt64SS ss) (by omega) (by omega) (by omega)) (by omega) ?_
    simp; exact kb
  refine awCall_det' (sz_Track rt (z := 1048576 - wtInt64SS ss) (by omega) (by omega) (by omega)) (by omega) ?_
  have g3 : ¬ (1048576 : Int) - wtInt64SS ss - cl.length < 0 := by omega
  simp (disch := omega) [g3, baT]
  have sl1 : ss.length ≤ 1048576 := by have : wtInt64SS ss = ss.length + sumW wtInt64S ss ss.length := rfl; omega
  have sw : sumW wtInt64S ss ss.length ≤ 1048576 := by have : wtInt64SS ss = ss.length + sumW wtInt64S ss ss.length := rfl; omega
  have sx : ∀ x, x ∈ ss → x.length ≤ 1048576 := fun x hx => by have := sumW_mem wtInt64S hx; have : wtInt64S x = x.length := rfl; omega
  have sc : cl.length ≤ 1048576 := by omega
  clear g1 g2 g3
  refine awDraw_M 5 [[],[0],[],[2,1,0],[],[1,0,3,2,4],[5,1,0,3,2,4],[6,5,1,0,3,2,4],[6,5,1,0,3,2,4],[7,6,5,1,0,3,2,4],[8,6,5,1,0,3,2,4,9,7]] [7,8] (by kernel_rfl) (by decide +kernel) (by decide +kernel) ?_
  simp (disch := omega) [baT]
  obtain ⟨v1, N1, d1, r1⟩ := toInt64SS_o rs sl1 sx
  refine awCall_det' (d := true) d1 (by omega) ?_
  simp (disch := omega) [cellsAt_app baT]
  obtain ⟨v2, N2, d2, r2⟩ := to_Track_d (M := M0 ++ N1) (rt.keeps (keeps_app N1)) sc
  refine awCall_det' (d := true) d2 (by simp <;> omega) ?_
  try simp (disch := omega)
  replace r1 := (r1.keeps (keeps_app N2)).slv sx
  replace r2 := r2.rd
  replace baT := cellsAt_app (cellsAt_app baT N1) N2
  replace rs := (rs.app N1).app N2
  replace rt := (rt.keeps (keeps_app N1)).keeps (keeps_app N2)
  replace kb := (kb.app N1).app N2
  replace qb : M.length + 1 ≤ (M0 ++ N1 ++ N2).length := by simp; omega
  try rw [← List.append_assoc]
  clear d1 d2
  generalize M0 ++ N1 ++ N2 = M1 at *
  refine awCall_ctr (RenderTrack_sl aN r1 r2 sc (by omega)) ?_
  rintro _ M2 ⟨w, rfl, aw, hS2⟩
  clear r1 r2
  have k2 : Keeps M1 M2 := slt hS2
  have n2 := k2.len
  replace baT := cellsAt_keeps k2 baT
  replace rs := rs.keeps k2
  replace rt := rt.keeps k2
  replace kb := kb.trans k2
  clear hS2 k2
  simp (disch := omega) [baT]
  obtain ⟨v3, N3, d3, r3⟩ := toInt64SS_o rs sl1 sx
  refine awCall_det' d3 (by omega) ?_
  replace baT := cellsAt_app baT N3
  rw [baT, ow_some]
  obtain ⟨v4, N4, d4, r4⟩ := to_Track_d (M := M2 ++ N3) (rt.keeps (keeps_app N3)) sc
  refine awCall_det' d4 (by simp <;> omega) ?_
  refine ⟨rfl, ?_⟩
  rw [show (Value.agg #[v4]).cells.toList = [v4] from rfl, put_boxJ (vs := [v4]) (cs := [.slice none 0 0]) (by simp <;> omega) rfl (by simp [r4.one]), ow_some]
  have bx : cellsAt (M2 ++ N3 ++ N4 ++ [Slot.live ⟨[v4], true, true, 59, 1⟩]) (M2 ++ N3 ++ N4).length 0 1 = some [v4] := by simp
  rw [bx, ow_some]
  have aws : SlV intP M1.length M2.length M2 w (rtC ss cl aN).1 := aw.slv (by have := rtC_len (ss := ss) (cl := cl) (k := aN); omega)
  have b3 : M2.length ≤ (M2 ++ N3).length := by simp
  have b4 : (M2 ++ N3).length ≤ (M2 ++ N3 ++ N4).length := by simp
  have b5 : (M2 ++ N3 ++ N4).length < (M2 ++ N3 ++ N4 ++ [Slot.live ⟨[v4], true, true, 59, 1⟩]).length := by simp
  replace baT := cellsAt_app (cellsAt_app baT N4) [Slot.live ⟨[v4], true, true, 59, 1⟩]
  replace rs := ((rs.app N3).app N4).app [Slot.live ⟨[v4], true, true, 59, 1⟩]
  replace rt := ((rt.keeps (keeps_app N3)).keeps (keeps_app N4)).keeps (keeps_app [Slot.live ⟨[v4], true, true, 59, 1⟩])
  replace kb := ((kb.app N3).app N4).app [Slot.live ⟨[v4], true, true, 59, 1⟩]
  replace aws := ((aws.app N3).app N4).app [Slot.live ⟨[v4], true, true, 59, 1⟩]
  replace r3 := (r3.keeps (keeps_app N4)).keeps (keeps_app [Slot.live ⟨[v4], true, true, 59, 1⟩])
  replace r4 := r4.keeps (keeps_app [Slot.live ⟨[v4], true, true, 59, 1⟩])
  clear d3 d4 aw
  generalize M2 ++ N3 ++ N4 ++ [Slot.live ⟨[v4], true, true, 59, 1⟩] = M3 at *
  generalize (M2 ++ N3 ++ N4).length = p at *
  generalize (M2 ++ N3).length = q at *
  generalize M2.length = s at *
  refine awCall_ctr (RenderTrack_il aN (r3.slv sx) r4.rd sc (by omega)) ?_
  rintro _ M4 ⟨g, rfl, ag, hS4⟩
  have k4 : Keeps M3 M4 := slt hS4
  have n4 := k4.len
  replace baT := cellsAt_keeps k4 baT
  replace bx := cellsAt_keeps k4 bx
  replace rs := rs.keeps k4
  replace rt := rt.keeps k4
  replace kb := kb.trans k4
  replace aws := aws.keeps k4
  replace r3 := r3.keeps k4
  replace r4 := r4.keeps k4
  clear hS4 k4
  have hl4 := rtC_len (ss := ss) (cl := cl) (k := aN)
  generalize ho : (rtC ss cl aN).1 = out at *
  generalize hco : (rtC ss cl aN).2 = code at *
  simp (disch := omega) [baT]
  refine awCall_det' (eqInt64S_x (ag.slv (by omega)) aws) (by omega) ?_
  simp (disch := omega) [baT]
  obtain ⟨v5, N5, d5, r5⟩ := toInt64SS_o rs sl1 sx
  refine awCall_det' d5 (by omega) ?_
  refine awCall_det' (eqInt64SS_x ((r3.keeps (keeps_app N5)).slv sx) (r5.slv sx)) (by simp <;> omega) ?_
  simp
  replace baT := cellsAt_app baT N5
  replace bx := cellsAt_app bx N5
  replace rs := rs.app N5
  replace rt := rt.keeps (keeps_app N5)
  replace kb := kb.app N5
  replace aws := aws.app N5
  replace r3 := r3.keeps (keeps_app N5)
  replace r4 := r4.keeps (keeps_app N5)
  replace ag := ag.keeps (keeps_app N5)
  have n5 : M4.length ≤ (M4 ++ N5).length := by simp
  clear d5 r5
  generalize M4 ++ N5 = M5 at *
  refine awDraw_D 3 [[],[],[1],[0,2,1],[3,0,2,1]] (by kernel_rfl) (by decide +kernel) ?_
  simp (disch := omega) [baT, bx]
  obtain ⟨v6, N6, d6, r6⟩ := to_Track_d rt sc
  refine awCall_det' (d := true) d6 (by omega) ?_
  try simp (disch := omega)
  refine awCall_det' (eq_Track (r4.keeps (keeps_app N6)) r6.rd) (by simp <;> omega) ?_
  simp
  replace baT := cellsAt_app baT N6
  replace bx := cellsAt_app bx N6
  replace rs := rs.app N6
  replace rt := rt.keeps (keeps_app N6)
  replace kb := kb.app N6
  replace aws := aws.app N6
  replace r3 := r3.keeps (keeps_app N6)
  replace r4 := r4.keeps (keeps_app N6)
  replace ag := ag.keeps (keeps_app N6)
  have n6 : M5.length ≤ (M5 ++ N6).length := by simp
  clear d6 r6
  generalize M5 ++ N6 = M6 at *
  refine awCall_ctr (markInt64SS_a 1 r3 (by omega) (by omega) (by omega)) ?_
  rintro _ M7 ⟨rfl, t7⟩
  clear r3
  have n7 := t7.1
  have a7 : Agree 0 s M6 M7 := t7.agree (.inl (Nat.le_refl _))
  replace baT := a7.cells (Nat.zero_le _) (by omega) baT
  replace bx := (t7.agree (lo := q) (hi := M6.length) (.inr (Nat.le_refl _))).cells (by omega) (by omega) bx
  replace rs := rs.agree (a7.thin (Nat.le_refl _) (by omega))
  replace rt := rt.turn t7 (.inl (by omega))
  replace aws := aws.agree (a7.thin (Nat.zero_le _) (Nat.le_refl _))
  replace r4 := r4.turn t7 (.inr (Nat.le_refl _))
  replace ag := ag.turn t7 (by omega)
  replace kb := t7.keeps kb (by omega)
  clear a7 t7
  simp (disch := omega) [bx]
  refine awCall_ctr (mark_Track r4 (by omega) (by omega) (by omega)) ?_
  rintro _ M8 ⟨rfl, -, t8⟩
  clear r4
  have n8 := t8.1
  have a8 : Agree 0 s M7 M8 := t8.agree (.inl (by omega))
  replace baT := a8.cells (Nat.zero_le _) (by omega) baT
  replace rs := rs.agree (a8.thin (Nat.le_refl _) (by omega))
  replace rt := rt.turn t8 (.inl (by omega))
  replace aws := aws.agree (a8.thin (Nat.zero_le _) (Nat.le_refl _))
  replace ag := ag.turn t8 (by omega)
  replace kb := t8.keeps kb (by omega)
  clear a8 t8
  simp (disch := omega) [wrap_in]
  have hneg : ¬ (1 + (sumW wtInt64S ss ss.length : Int) + cl.length * 5 < 0) := by omega
  simp [hneg]
  refine awCall_det' (eqInt64S_x (ag.slv (by omega)) aws) (by omega) ?_
  try simp (disch := omega)
  refine awCall_ctr (mark_IntA ag (by omega) (by omega) (by omega) (by omega)) ?_
  clear ag
  rintro _ M9 ⟨rfl, ag, t9⟩
  have n9 := t9.1
  have a9 : Agree 0 M3.length M8 M9 := t9.agree (.inl (by omega))
  replace baT := a9.cells (Nat.zero_le _) (by omega) baT
  replace rs := rs.agree (a9.thin (Nat.le_refl _) (by omega))
  replace rt := rt.turn t9 (.inl (by omega))
  replace aws := aws.agree (a9.thin (Nat.zero_le _) (by omega))
  replace kb := t9.keeps kb (by omega)
  clear a9 t9
  try simp (disch := omega)
  refine awCall_det' (held_IntA ag (by omega) (by omega) (by omega)) (by omega) ?_
  have hneg2 : ¬ (1 + (out.length : Int) < 0) := by omega
  simp (disch := omega) [hneg2, wrap_in]
  refine awDraw_M 5 [[],[0],[],[2,1,0],[],[1,0,3,2,4],[5,1,0,3,2,4],[6,5,1,0,3,2,4],[6,5,1,0,3,2,4],[7,6,5,1,0,3,2,4],[8,6,5,1,0,3,2,4,9,7]] [7,8] (by kernel_rfl) (by decide +kernel) (by decide +kernel) ?_
  simp (disch := omega) [baT]
  obtain ⟨v1, N1, d1, r1⟩ := toInt64SS_o rs sl1 sx
  refine awCall_det' (d := true) d1 (by omega) ?_
  simp (disch := omega) [cellsAt_app baT]
  obtain ⟨v2, N2, d2, r2⟩ := to_Track_d (M := M9 ++ N1) (rt.keeps (keeps_app N1)) sc
  refine awCall_det' (d := true) d2 (by simp <;> omega) ?_
  try simp (disch := omega)
  replace r1 := (r1.keeps (keeps_app N2)).slv sx
  replace r2 := r2.rd
  replace aws := (aws.app N1).app N2
  replace ag := (ag.keeps (keeps_app N1)).keeps (keeps_app N2)
  replace kb := (kb.app N1).app N2
  have n10 : M9.length ≤ (M9 ++ N1 ++ N2).length := by simp <;> omega
  try rw [← List.append_assoc]
  clear d1 d2 rs rt baT
  generalize M9 ++ N1 ++ N2 = M10 at *
  refine awCall_ctr (RenderTrack_il aN r1 r2 sc (by omega)) ?_
  rintro _ M11 ⟨h, rfl, ah, hS11⟩
  clear r1 r2
  have k11 : Keeps M10 M11 := slt hS11
  have n11 := k11.len
  replace aws := aws.keeps k11
  replace ag := ag.keeps k11
  replace kb := kb.trans k11
  rw [ho] at ah
  rw [hco]
  clear hS11 k11
  try simp (disch := omega)
  refine awCall_det' (eqInt64S_x (ah.slv (by omega)) aws) (by omega) ?_
  try simp (disch := omega)
  refine awCall_det' (held_IntA ag (by omega) (by omega) (by omega)) (by omega) ?_
  simp (disch := omega) [hneg2, wrap_in]
  exact kb
set_option maxRecDepth 100000 in
theorem FnExactRenderTrack_lifted (os : Os) (started : os.Started) (H : Type) (enc : TypeId × Value → H) :
    ReturnsInHanded {} Try.checked os 6 .any (Rows.fnExactRenderTrackSpec.pre6 enc Try.prog Try.f6 Rows.fnExactRenderTrackRow.domain false) (Rows.fnExactRenderTrackSpec.post enc Try.prog Try.f6 false true false false) := by
  refine returnsInHanded_of_change (C := Try.checked) own_knob started (by kernel_rfl) Try.func6
    (ChangeSpec.witness6 (enc := enc) (C := Try.checked) false ⟨#[], #[.slice none 0 0, .agg #[.slice none 0 0], .int .i64 0], []⟩ 8 (by kernel_rfl) (by kernel_rfl) (by kernel_rfl) (by kernel_rfl)) ?_
  intro W base args ds gs before hval0 hW hcnd _
  have hval : ∀ (j : Nat) t v, Try.f6.params[j]? = some t → args[j]? = some v → Value.okWide Try.prog W .any base t v := hval0
  have hW' := hW
  have hlt := hW.lt
  obtain ⟨p, q, hA0, hV, rfl, hfz, hnd⟩ := hW
  have hA : DataW.TrodAll enc Try.prog W 0 (fun _ => true) true Try.f6.params.toList args.toList ds p := hA0
  rw [Try.params6] at hA hval
  obtain ⟨v0, v1, v2, d0, d1, d2, p0, p1, p2, rfl, rfl, rfl, h0, h1, h2⟩ := trodAll_three hA
  have ar0 := (good_tabs (enc := enc)).argS Try.underlying22 hlt (hval 0 _ v0 rfl rfl) h0 (fun x hx => by simp [hx])
  have ar1 := Arg.wrap clipI Try.underlying51 ⟨rfl, rfl⟩ (by kernel_rfl) (by kernel_rfl) Try.underlying49 (by kernel_rfl) (show Try.prog.cellsOf 68 = 5 from by kernel_rfl) (by omega) hlt (hval 1 _ v1 rfl rfl) h1 (fun x hx => by simp [hx])
  obtain ⟨a2, rfl, rfl, rfl, wa2⟩ := open_int Try.underlying2 (hval 2 2 v2 rfl rfl) h2
  have R := AR.nil W
  obtain ⟨L0, μ0, u0, R0, x0, K0⟩ := R.next ar0
  obtain ⟨L1, μ1, _, R1, u1, rfl, B1, n1, c1, l1, rfl, hn1, hs1, hw1⟩ := R0.next ar1
  have K1 := RdL.of_sl hn1 hs1 c1
  replace K0 := K0.up L1
  obtain ⟨L2, μ2, u2, R2, rfl⟩ := R1.next (Arg.plain (c := iv a2) rfl)
  replace K0 := K0.up L2
  replace K1 := K1.up L2
  refine (law_end R2 (lawRenderTrack_a a2 K0 K1 hw1 wa2)).mono fun e W' ⟨he, hb⟩ => ?_
  subst he
  exact ⟨_, rfl, law_post rfl rfl (by kernel_rfl) rfl hW' hb⟩
theorem FnExactRenderTrack_holds : Rows.FnExactRenderTrackSaid :=
  OpenClaim.holds_of_wide 6 Try.f6 rfl rfl rfl rfl rfl rfl rfl ⟨rfl, rfl, rfl, rfl, rfl⟩ rfl rfl rfl rfl rfl (by kernel_rfl) Try.func6 (by kernel_rfl)
    (of_decide_eq_true (by kernel_rfl)) (by unfold Func.isWrapper; first | (rw [if_pos (by decide +kernel)]; kernel_rfl) | (rw [if_neg (by decide +kernel)]; exact ⟨rfl, rfl⟩))
    (fun os started H enc _ => FnExactRenderTrack_lifted os started H enc)
#print axioms FnExactRenderTrack_holds
end Go.Proofs.Ytffbocbjmhkikaa
