/- Tempo maps: the program's position of a beat. No conditions. -/
import Derived.Test.YtgaiejaegimilaaQ10
namespace Go.Proofs.Ytgaiejaegimilaa
open Go.RowKit
set_option linter.unusedVariables false
set_option linter.unusedSimpArgs false
set_option maxRecDepth 100000
attribute [local simp] List.getElem?_cons_zero
attribute [local irreducible] awCond awCall awLoop awDraw ow retQ retC resQ Keeps
theorem onF_steps {frm beat at_ : Frac} {s : Int} (h1 : (subF beat frm).2 = 0) : onF frm beat s at_ = if (mulF (subF beat frm).1 ⟨s, 1⟩).2 = 0 then addF at_ (mulF (subF beat frm).1 ⟨s, 1⟩).1 else (at_, (mulF (subF beat frm).1 ⟨s, 1⟩).2) := by
  unfold onF
  rw [if_neg (by omega)]
  split
  · rename_i h; simp [h]
  · rename_i h; rw [if_pos (by omega)]
theorem onF_no {frm beat at_ : Frac} {s : Int} (h1 : (subF beat frm).2 ≠ 0) : onF frm beat s at_ = (at_, (subF beat frm).2) := by
  unfold onF
  rw [if_pos h1]
structure Pos (M M' : Mem) (A : Option Addr) (n c : Nat) (b a : Frac) : Prop where
  keeps : Keeps M M'
  r0 : cellAt M' M.length 0 = some (.slice A n c)
  r1 : cellsAt M' (M.length + 1) 0 2 = some [iv b.n, iv b.d]
  g2 : M'[M.length + 2]? = some (.live ⟨[iv 0, iv 0], true, true, 58, 2⟩)
  g3 : M'[M.length + 3]? = some (.live ⟨[iv a.n, iv a.d], true, true, 58, 2⟩)
theorem Pos.app {M M' : Mem} {A : Option Addr} {n c : Nat} {b a : Frac} (h : Pos M M' A n c b a) (L : Mem) : Pos M (M' ++ L) A n c b a :=
  ⟨h.keeps.app _, cellAt_app h.r0 L, cellsAt_app h.r1 L, by rw [List.getElem?_append_left (List.getElem?_eq_some_iff.1 h.g2).1]; exact h.g2, by rw [List.getElem?_append_left (List.getElem?_eq_some_iff.1 h.g3).1]; exact h.g3⟩
theorem Pos.upd {M M' : Mem} {A : Option Addr} {n c : Nat} {b a : Frac} (h : Pos M M' A n c b a) (w : Frac) : Pos M (M'.set (M.length + 3) (.live ⟨[iv w.n, iv w.d], true, true, 58, 2⟩)) A n c b w := by
  have hlt := (List.getElem?_eq_some_iff.1 h.g3).1
  refine ⟨keeps_set h.keeps (by omega), ?_, ?_, ?_, List.getElem?_set_self hlt⟩
  · have := h.r0
    unfold cellAt at this ⊢
    rw [List.getElem?_set_ne (by omega)]
    exact this
  · have := h.r1
    unfold cellsAt at this ⊢
    rw [List.getElem?_set_ne (by omega)]
    exact this
  · rw [List.getElem?_set_ne (by omega)]
    exact h.g2
theorem Pos.put {M M' : Mem} {A : Option Addr} {n c b0 : Nat} {b a : Frac} (h : Pos M M' A n c b a) (hb : b0 = M.length) (w : Frac) : putCells b0 M' (M.length + 3) 0 [iv w.n, iv w.d] = some (M'.set (M.length + 3) (.live ⟨[iv w.n, iv w.d], true, true, 58, 2⟩)) := by
  subst hb
  exact put_whole h.g3 (by omega) rfl (by simp)
theorem Pos.ld {M M' : Mem} {A : Option Addr} {n c : Nat} {b a : Frac} (h : Pos M M' A n c b a) : cellsAt M' (M.length + 3) 0 2 = some [iv a.n, iv a.d] := cells_hrq h.g3 rfl
theorem Pos.ret {M M' : Mem} {A : Option Addr} {n c : Nat} {b a w : Frac} (h : Pos M M' A n c b a) :
    ow (putCells M.length M' (M.length + 2) 0 [iv w.n, iv w.d]) fun M'' => ow (cellsAt M'' (M.length + 2) 0 2) fun cs => Value.agg cs.toArray = w.v ∧ Keeps M M'' := by
  have := ret_box (L := []) (w := w.v) (vs := [iv w.n, iv w.d]) (n := 2) (b := M.length) h.g2 h.keeps (by omega) rfl rfl ⟨rfl, trivial⟩
  rw [List.append_nil] at this
  exact this
set_option maxHeartbeats 4000000 in
theorem position_i {M : Mem} {A : Option Addr} {n c : Nat} {l : List Tempo} (b : Frac) (h : Sl tempoR M A n l) (hn : n ≤ 1099511627776) (hb : fracB b = true) (hf : ∀ i, i < l.length → fracB (el l i).beat = true) :
    Det Try.prog M.length 102 [.agg #[.slice A n c], b.v] M (.tuple #[(goF l b l.length 0 ⟨0, 1⟩).1.v, iv (goF l b l.length 0 ⟨0, 1⟩).2]) M := by
  have hl := h.1
  refine Ctr.pure ?_ rfl
  first | (refine ctr_fn Try.func102 rfl Try.ntmps102 Try.results102 rfl rfl (by simp) ?_) | (refine ctr_fnC Try.func102 rfl Try.ntmps102 Try.results102 rfl (by simp) ?_)
  simp [fr_build]
  refine awLoop_T (fun m T M' => ∃ (k : Nat) (a : Frac), k + m = n ∧ Pos M M' A n c b a ∧ goF l b l.length 0 ⟨0, 1⟩ = goF l b m k a ∧ look T 17 = some (iv k) ∧ look T 15 = some (.slice A n c) ∧ look T 16 = some (iv n) ∧ look T 2 = some (.pointer (some ⟨M.length, 0, none⟩)) ∧ look T 3 = some (.pointer (some ⟨M.length + 1, 0, none⟩)) ∧ look T 4 = some (.pointer (some ⟨M.length + 2, 0, none⟩)) ∧ look T 6 = some (.pointer (some ⟨M.length + 3, 0, none⟩))) n
    ⟨0, ⟨0, 1⟩, by omega, ⟨keeps_app _, by simp, by simp, by simp, by simp⟩, by rw [hl], by simp, by simp, by simp, by simp, by simp, by simp, by simp⟩ ?_
  rintro m T M1 ⟨k, a, hm, hP, hgo, t17, t15, t16, t2, t3, t4, t6⟩
  have hK := hP.keeps
  have hr0 := hP.r0
  have hr1 := hP.r1
  have hlen := (List.getElem?_eq_some_iff.1 hP.g3).1
  by_cases hlt : k < n
  · obtain ⟨id, off, rfl, he, hc⟩ := (h.keeps hK).at_ hlt
    obtain ⟨m', rfl⟩ : ∃ m', m = m' + 1 := ⟨m - 1, by omega⟩
    have hld := tempo_load hc
    have x3 := fun L => (hP.app L).ld
    simp (disch := omega) [t17, t15, t16, t2, t3, t4, t6, hlt, he, hld, hr1, cellsAt_app hr1]
    refine awDraw_E 15 [[],[0],[],[2],[3,2],[1,0,4,3,2],[5,1,0,4,3,2],[6,5,1,0,4,3,2],[7,6,5,1,0,4,3,2],[6,5,1,0,4,3,2],[9,6,5,1,0,4,3,2],[8,7,6,5,1,0,4,3,2,10,9],[11,8,7,6,5,1,0,4,3,2,10,9],[12,11,8,7,6,5,1,0,4,3,2,10,9],[6,5,1,0,4,3,2],[13,12,11,8,7,6,5,1,0,4,3,2,10,9,14],[15,13,12,11,8,7,6,5,1,0,4,3,2,10,9,14],[6,5,1,0,4,3,2,16,15,13,12,11,8,7,10,9,14],[17,6,5,1,0,4,3,2,16,15,13,12,11,8,7,10,9,14]] (by kernel_rfl) (by kernel_rfl) ?_
    have hr0' := fun L => cellAt_app hr0 L
    have hr1' := fun L => cellsAt_app hr1 L
    by_cases hkn : k + 1 = n
    · have hla : lastB l b k = true := by unfold lastB; rw [decide_eq_true (by omega)]; rfl
      have ego : goF l b (m' + 1) k a = onF (el l k).beat b (el l k).s a := by rw [goF, if_pos hla]
      rw [ego] at hgo
      have hne' : (k : Int) + 1 = n := by omega
      simp (disch := omega) [t17, t15, t16, t2, t3, t4, t6, hr0', hr1', hne', wrap_in]
      refine awCall_det' (SubFrac_i b (el l k).beat) (by simp; omega) ?_
      by_cases f1 : (subF b (el l k).beat).2 = 0
      case neg =>
        have e := onF_no (at_ := a) (s := (el l k).s) f1
        rw [e] at hgo
        simp (disch := omega) [f1, t4, t6, x3, hgo]
        exact (hP.app _).ret
      have e := onF_steps (at_ := a) (s := (el l k).s) f1
      simp (disch := omega) [f1, t4, t6]
      refine awDraw_L 8 [[],[],[1],[2,1],[0,3,2,1],[4,0,3,2,1],[5,4,0,3,2,1],[5,4,0,3,2,1],[6,5,4,0,3,2,1],[7,5,4,0,3,2,1,8,6]] [7] (by kernel_rfl) (by kernel_rfl) (by kernel_rfl) ?_
      simp (disch := omega) [f1, t4, t6]
      refine awCall_det' (whole_i (el l k).s) (by simp) ?_
      simp (disch := omega)
      refine awCall_det' (MulFrac_i (subF b (el l k).beat).1 ⟨(el l k).s, 1⟩) (by simp) ?_
      by_cases f2 : (mulF (subF b (el l k).beat).1 ⟨(el l k).s, 1⟩).2 = 0
      case neg =>
        rw [if_neg f2] at e
        rw [e] at hgo
        simp (disch := omega) [f2, t4, t6, x3, hgo]
        exact (hP.app _).ret
      rw [if_pos f2] at e
      simp (disch := omega) [f2, t4, t6, x3]
      refine awCall_det' (AddFrac_i a (mulF (subF b (el l k).beat).1 ⟨(el l k).s, 1⟩).1) (by simp; omega) ?_
      generalize addF a (mulF (subF b (el l k).beat).1 ⟨(el l k).s, 1⟩).1 = w at e ⊢
      simp (disch := omega) [t4, t6]
      generalize hM2 : (M1 ++ _ : Mem) = M2
      have hP2 : Pos M M2 (some ⟨id, off, none⟩) n c b a := by rw [← hM2]; exact hP.app _
      clear hM2
      rw [hP2.put rfl w.1]
      simp only [ow_some]
      have hP3 := hP2.upd w.1
      generalize M2.set (M.length + 3) (.live ⟨[iv w.1.n, iv w.1.d], true, true, 58, 2⟩) = M3 at hP3 ⊢
      rw [e] at hgo
      have f3 : w.2 = 0 ∨ w.2 ≠ 0 := by omega
      rcases f3 with f3 | f3
      · simp (disch := omega) [t4, t6, f3, hP3.ld, hgo]
        exact hP3.ret
      · simp (disch := omega) [t4, t6, f3, hP3.ld, hgo]
        exact hP3.ret
    have hk1 : k + 1 < n := by omega
    obtain ⟨_, _, ee, -, hcn⟩ := (h.keeps hK).at_ hk1
    cases ee
    have hldn := fun L => cellsAt_app (tempo_cellsN hcn) L
    have hne' : ¬ (k : Int) + 1 = n := by omega
    have et : ((k : Int) + 1).toNat = k + 1 := by omega
    have he' : ∀ L : Mem, rowEsz (M1 ++ L) id = some 3 := fun L => rowEsz_keeps (keeps_app L) he
    simp (disch := omega) [t17, t15, t16, t2, t3, t4, t6, hr0', hr1', hne', he', hldn, et, wrap_in]
    refine ⟨by omega, ?_⟩
    refine awCall_det' (compare_i (el l (k + 1)).beat b (hf _ (by omega)) hb) (by simp; omega) ?_
    by_cases hcm : 0 < cmpF (el l (k + 1)).beat b
    · have hla : lastB l b k = true := by unfold lastB; rw [decide_eq_true hcm]; simp
      have ego : goF l b (m' + 1) k a = onF (el l k).beat b (el l k).s a := by rw [goF, if_pos hla]
      rw [ego] at hgo
      simp (disch := omega) [hcm, t17, t15, t16, t2, t3, t4, t6, hr0', hr1']
      refine awCall_det' (SubFrac_i b (el l k).beat) (by simp; omega) ?_
      by_cases f1 : (subF b (el l k).beat).2 = 0
      case neg =>
        have e := onF_no (at_ := a) (s := (el l k).s) f1
        rw [e] at hgo
        simp (disch := omega) [f1, t4, t6, x3, hgo]
        exact (hP.app _).ret
      have e := onF_steps (at_ := a) (s := (el l k).s) f1
      simp (disch := omega) [f1, t4, t6]
      refine awDraw_L 8 [[],[],[1],[2,1],[0,3,2,1],[4,0,3,2,1],[5,4,0,3,2,1],[5,4,0,3,2,1],[6,5,4,0,3,2,1],[7,5,4,0,3,2,1,8,6]] [7] (by kernel_rfl) (by kernel_rfl) (by kernel_rfl) ?_
      simp (disch := omega) [f1, t4, t6]
      refine awCall_det' (whole_i (el l k).s) (by simp) ?_
      simp (disch := omega)
      refine awCall_det' (MulFrac_i (subF b (el l k).beat).1 ⟨(el l k).s, 1⟩) (by simp) ?_
      by_cases f2 : (mulF (subF b (el l k).beat).1 ⟨(el l k).s, 1⟩).2 = 0
      case neg =>
        rw [if_neg f2] at e
        rw [e] at hgo
        simp (disch := omega) [f2, t4, t6, x3, hgo]
        exact (hP.app _).ret
      rw [if_pos f2] at e
      simp (disch := omega) [f2, t4, t6, x3]
      refine awCall_det' (AddFrac_i a (mulF (subF b (el l k).beat).1 ⟨(el l k).s, 1⟩).1) (by simp; omega) ?_
      generalize addF a (mulF (subF b (el l k).beat).1 ⟨(el l k).s, 1⟩).1 = w at e ⊢
      simp (disch := omega) [t4, t6]
      generalize hM2 : (M1 ++ _ : Mem) = M2
      have hP2 : Pos M M2 (some ⟨id, off, none⟩) n c b a := by rw [← hM2]; exact hP.app _
      clear hM2
      rw [hP2.put rfl w.1]
      simp only [ow_some]
      have hP3 := hP2.upd w.1
      generalize M2.set (M.length + 3) (.live ⟨[iv w.1.n, iv w.1.d], true, true, 58, 2⟩) = M3 at hP3 ⊢
      rw [e] at hgo
      have f3 : w.2 = 0 ∨ w.2 ≠ 0 := by omega
      rcases f3 with f3 | f3
      · simp (disch := omega) [t4, t6, f3, hP3.ld, hgo]
        exact hP3.ret
      · simp (disch := omega) [t4, t6, f3, hP3.ld, hgo]
        exact hP3.ret
    have hla : ¬ lastB l b k = true := by unfold lastB; rw [decide_eq_false hcm, decide_eq_false (by omega)]; simp
    have ego : goF l b (m' + 1) k a = if (onF (el l k).beat (el l (k + 1)).beat (el l k).s a).2 ≠ 0 then onF (el l k).beat (el l (k + 1)).beat (el l k).s a else goF l b m' (k + 1) (onF (el l k).beat (el l (k + 1)).beat (el l k).s a).1 := by rw [goF, if_neg hla]
    rw [ego] at hgo
    simp (disch := omega) [hcm, t17, t15, t16, t2, t3, t4, t6, hr0', hr1', he', hldn, et, wrap_in]
    refine ⟨by omega, ?_⟩
    refine awCall_det' (SubFrac_i (el l (k + 1)).beat (el l k).beat) (by simp; omega) ?_
    by_cases f1 : (subF (el l (k + 1)).beat (el l k).beat).2 = 0
    case neg =>
      have e := onF_no (at_ := a) (s := (el l k).s) f1
      rw [e, if_pos f1] at hgo
      simp (disch := omega) [f1, t4, t6, x3, hgo]
      exact (hP.app _).ret
    have e := onF_steps (at_ := a) (s := (el l k).s) f1
    simp (disch := omega) [f1, t4, t6]
    refine awDraw_L 8 [[],[],[1],[2,1],[0,3,2,1],[4,0,3,2,1],[5,4,0,3,2,1],[5,4,0,3,2,1],[6,5,4,0,3,2,1],[7,5,4,0,3,2,1,8,6]] [7] (by kernel_rfl) (by kernel_rfl) (by kernel_rfl) ?_
    simp (disch := omega) [f1, t4, t6]
    refine awCall_det' (whole_i (el l k).s) (by simp) ?_
    simp (disch := omega)
    refine awCall_det' (MulFrac_i (subF (el l (k + 1)).beat (el l k).beat).1 ⟨(el l k).s, 1⟩) (by simp) ?_
    by_cases f2 : (mulF (subF (el l (k + 1)).beat (el l k).beat).1 ⟨(el l k).s, 1⟩).2 = 0
    case neg =>
      rw [if_neg f2] at e
      rw [e, if_pos f2] at hgo
      simp (disch := omega) [f2, t4, t6, x3, hgo]
      exact (hP.app _).ret
    rw [if_pos f2] at e
    simp (disch := omega) [f2, t4, t6, x3]
    refine awCall_det' (AddFrac_i a (mulF (subF (el l (k + 1)).beat (el l k).beat).1 ⟨(el l k).s, 1⟩).1) (by simp; omega) ?_
    generalize addF a (mulF (subF (el l (k + 1)).beat (el l k).beat).1 ⟨(el l k).s, 1⟩).1 = w at e ⊢
    simp (disch := omega) [t4, t6]
    generalize hM2 : (M1 ++ _ : Mem) = M2
    have hP2 : Pos M M2 (some ⟨id, off, none⟩) n c b a := by rw [← hM2]; exact hP.app _
    clear hM2
    rw [hP2.put rfl w.1]
    simp only [ow_some]
    have hP3 := hP2.upd w.1
    generalize M2.set (M.length + 3) (.live ⟨[iv w.1.n, iv w.1.d], true, true, 58, 2⟩) = M3 at hP3 ⊢
    rw [e] at hgo
    by_cases f3 : w.2 = 0
    · rw [if_neg (by omega)] at hgo
      simp (disch := omega) [t17, t4, t6, f3, hP3.ld, wrap_in]
      exact lpI (m' + 1 - 1) (by omega) ⟨k + 1, w.1, by omega, hP3, hgo, by simp, by simp [t15], by simp [t16], by simp [t2], by simp [t3], by simp [t4], by simp [t6]⟩
    · rw [if_pos (by omega)] at hgo
      simp (disch := omega) [t4, t6, f3, hP3.ld, hgo]
      exact hP3.ret
  · obtain rfl : k = n := by omega
    obtain rfl : m = 0 := by omega
    rw [show goF l b 0 k a = (a, 0) from rfl] at hgo
    simp [t17, t16, t6, t4, hlt, hP.ld, hgo]
    exact hP.ret
end Go.Proofs.Ytgaiejaegimilaa
