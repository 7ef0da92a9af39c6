/- Tempo maps: the reference's position of a beat. No conditions. -/
import Derived.Test.YtgaiejaegimilaaQ8
import Derived.Test.YtgaiejaegimilaaQ9
namespace Go.Proofs.Ytgaiejaegimilaa
open Go.RowKit
set_option linter.unusedVariables false
set_option linter.unusedSimpArgs false
set_option maxRecDepth 100000
attribute [local simp] List.getElem?_cons_zero
attribute [local irreducible] awCond awCall awLoop awDraw ow retQ retC resQ Keeps
def askC (l : List Tempo) (b : Frac) : Int := if tempB l = true ∧ fracB b = true then (if beatB b = true then 0 else 2) else 1
def posB (l : List Tempo) (b : Frac) : Frac × Int :=
  if askC l b = 0 then
    if (onF (el l (idxT l b l.length)).beat b (el l (idxT l b l.length)).s (el (posAll l) (idxT l b l.length))).2 = 0 then
      (onF (el l (idxT l b l.length)).beat b (el l (idxT l b l.length)).s (el (posAll l) (idxT l b l.length))) else (⟨0, 0⟩, 2)
  else (⟨0, 0⟩, askC l b)
def sampB (l : List Tempo) (b : Frac) : Int × Int := if (posB l b).2 = 0 then ((posB l b).1.n / (posB l b).1.d, 0) else (0, (posB l b).2)
theorem askC_zero {l : List Tempo} {b : Frac} : askC l b = 0 ↔ tempB l = true ∧ beatB b = true := by
  unfold askC
  constructor
  · intro h
    by_cases h1 : tempB l = true ∧ fracB b = true
    · rw [if_pos h1] at h
      by_cases h2 : beatB b = true
      · exact ⟨h1.1, h2⟩
      · rw [if_neg h2] at h; omega
    · rw [if_neg h1] at h; omega
  · rintro ⟨h1, h2⟩
    rw [if_pos ⟨h1, (beatB_iff.1 h2).1⟩, if_pos h2]
theorem posB_ok {l : List Tempo} {b : Frac} (h : (posB l b).2 = 0) : fracB (posB l b).1 = true := by
  unfold posB at h ⊢
  by_cases h1 : askC l b = 0
  · rw [if_pos h1] at h ⊢
    generalize hx : onF (el l (idxT l b l.length)).beat b (el l (idxT l b l.length)).s (el (posAll l) (idxT l b l.length)) = x at h ⊢
    by_cases h2 : x.2 = 0
    · rw [if_pos h2]
      rw [← hx] at h2 ⊢
      exact onF_ok h2
    · rw [if_neg h2] at h
      cases h
  · rw [if_neg h1] at h
    exact absurd h h1
theorem l17Ok_a {M : Mem} {A : Option Addr} {n c id0 off0 : Nat} {l : List Tempo} (h : Sl tempoR M A n l) (hr : cellAt M id0 off0 = some (.slice A n c)) (hn : n ≤ 1099511627776) :
    Det Try.prog M.length 55 [.pointer (some ⟨id0, off0, none⟩)] M (.bool (tempB l)) M := by
  refine Ctr.pure ?_ rfl
  first | (refine ctr_fn Try.func55 rfl Try.ntmps55 Try.results55 rfl rfl (by simp) ?_) | (refine ctr_fnC Try.func55 rfl Try.ntmps55 Try.results55 rfl (by simp) ?_)
  simp
  refine awCall_ctr (l17Positions_a h hr hn) ?_
  rintro _ M' ⟨v, rfl, -, hk⟩
  simp [hk]
theorem l17Ask_a {M : Mem} {A : Option Addr} {n c id0 off0 : Nat} {l : List Tempo} {b : Frac} (h : Sl tempoR M A n l) (hr : cellAt M id0 off0 = some (.slice A n c)) (hn : n ≤ 1099511627776) :
    Det Try.prog M.length 114 [.pointer (some ⟨id0, off0, none⟩), b.v] M (iv (askC l b)) M := by
  first | (refine det_fn Try.func114 rfl Try.ntmps114 Try.results114 rfl rfl rfl (by simp) ?_) | (refine det_fnC Try.func114 rfl Try.ntmps114 Try.results114 rfl rfl (by simp) ?_)
  simp
  refine awCall_det' (l17Ok_a (h.app _) (cellAt_app hr _) hn) (by simp) ?_
  by_cases h1 : tempB l = true
  · simp [h1]
    refine awCall_det' (l02Ok_a b) (by simp) ?_
    by_cases h2 : fracB b = true
    · simp [h2]
      refine awCall_det' (l17Beat_a b h2) (by simp) ?_
      by_cases h3 : beatB b = true
      · simp [askC, h1, h2, h3, keeps_app]
      · simp [askC, h1, h2, h3, keeps_app]
    · simp [askC, h1, h2, keeps_app]
  · simp [askC, h1, keeps_app]
theorem l17Index_a {M : Mem} {A : Option Addr} {n c id0 off0 : Nat} {l : List Tempo} {b : Frac} (h : Sl tempoR M A n l) (hr : cellAt M id0 off0 = some (.slice A n c)) (hn : n ≤ 1099511627776) (hb : fracB b = true) (ha : ∀ i, i < l.length → fracB (el l i).beat = true) :
    Det Try.prog M.length 115 [.pointer (some ⟨id0, off0, none⟩), b.v] M (iv (idxT l b l.length)) M := by
  have hl := h.1
  first | (refine det_fn Try.func115 rfl Try.ntmps115 Try.results115 rfl rfl rfl (by simp) ?_) | (refine det_fnC Try.func115 rfl Try.ntmps115 Try.results115 rfl rfl (by simp) ?_)
  simp
  refine awLoop_T (fun m T M' => ∃ k : Nat, k + m = n ∧ M' = M ++ [.live ⟨[iv b.n, iv b.d], true, true, 58, 2⟩] ∧ look T 6 = some (iv k) ∧ look T 5 = some (iv (idxT l b k)) ∧ look T 3 = some (.pointer (some ⟨M.length, 0, none⟩)) ∧ look T 0 = some (.pointer (some ⟨id0, off0, none⟩))) n ⟨0, by omega, rfl, by simp, by simp [idxT], by simp, by simp⟩ ?_
  rintro m T M' ⟨k, hm, rfl, t6, t5, t3, t0⟩
  have hr1 := fun L => cellAt_app hr L
  by_cases hlt : k < n
  · obtain ⟨id, off, rfl, he, hc⟩ := h.at_ hlt
    have he1 := fun L : Mem => rowEsz_keeps (keeps_app (M := M) L) he
    have hld := fun L => cellsAt_app (tempo_cellsN hc) L
    simp (disch := omega) [t6, t5, t3, t0, hr1, hlt]
    refine awDraw_E 9 [[],[0],[1,0],[2,1,0],[],[3,2,1,0,4],[5,3,2,1,0,4],[6,5,3,2,1,0,4],[],[7,6,5,3,2,1,0,4,8],[9,7,6,5,3,2,1,0,4,8]] (by kernel_rfl) (by kernel_rfl) ?_
    simp (disch := omega) [t6, t5, t3, t0, hr1, hlt, he1, hld]
    refine awCall_det' (compare_s (el l k).beat b (ha k (by omega)) hb) (by simp) ?_
    have hx : idxT l b (k + 1) = if cmpF (el l k).beat b ≤ 0 then k else idxT l b k := rfl
    by_cases h1 : cmpF (el l k).beat b ≤ 0
    · rw [if_pos h1] at hx
      simp (disch := omega) [h1, t6, wrap_in]
      exact lpI (m - 1) (by omega) ⟨k + 1, by omega, rfl, by simp, by simp [hx], by simp [t3], by simp [t0]⟩
    · rw [if_neg h1] at hx
      simp (disch := omega) [h1, t6, wrap_in]
      exact lpI (m - 1) (by omega) ⟨k + 1, by omega, rfl, by simp, by simp [hx, t5], by simp [t3], by simp [t0]⟩
  · obtain rfl : k = n := by omega
    simp [t6, t5, t3, t0, hr1, hl, keeps_app]
theorem Tempo.fill0 : Instr.fill (fun x => [(0, 1), (1, 1)][x]?) #[iv 0, iv 0] [] = some #[iv 0, iv 0] := by rfl
/-- A value is stored in a whole box and loaded again at the return. -/
theorem ret_box {M M1 L : Mem} {b g : Nat} {cs vs : List Value} {t : Bool} {e : TypeId} {z n : Nat} {w : Value} (hg : M1[g]? = some (.live ⟨cs, true, t, e, z⟩)) (hk : Keeps M M1) (hb : M.length ≤ g) (hl : vs.length = cs.length) (hn : n = cs.length) (hw : Value.agg vs.toArray = w ∧ True) (h1 : vs.all oneV = true := by simp) (hbb : b ≤ g := by omega) :
    ow (putCells b (M1 ++ L) g 0 vs) fun M' => ow (cellsAt M' g 0 n) fun cs => Value.agg cs.toArray = w ∧ Keeps M M' := by
  have hlt := (List.getElem?_eq_some_iff.1 hg).1
  have hg' : (M1 ++ L)[g]? = some (.live ⟨cs, true, t, e, z⟩) := by rw [List.getElem?_append_left hlt]; exact hg
  rw [put_whole hg' hbb hl h1, ow_some, cells_hrq (List.getElem?_set_self (by rw [List.length_append]; omega)) (by rw [hn]; exact hl.symm), ow_some]
  exact ⟨hw.1, keeps_set (hk.app _) hb⟩
set_option maxHeartbeats 2000000 in
theorem PositionOfBeat_s {M : Mem} {A : Option Addr} {n c : Nat} {l : List Tempo} (b : Frac) (h : Sl tempoR M A n l) (hn : n ≤ 1099511627776) :
    Det Try.prog M.length 71 [.agg #[.slice A n c], b.v] M (.tuple #[(posB l b).1.v, iv (posB l b).2]) M := by
  have hl := h.1
  refine Ctr.pure ?_ rfl
  first | (refine ctr_fn Try.func71 rfl Try.ntmps71 Try.results71 rfl rfl (by simp) ?_) | (refine ctr_fnC Try.func71 rfl Try.ntmps71 Try.results71 rfl (by simp) ?_)
  simp
  refine awCall_det' (l17Ask_a (c := c) (h.app _) (by simp) hn) (by simp) ?_
  by_cases h0 : askC l b = 0
  case neg =>
    have e : posB l b = (⟨0, 0⟩, askC l b) := by unfold posB; rw [if_neg h0]
    simp [h0, e, keeps_app]
  obtain ⟨hT, hB⟩ := askC_zero.1 h0
  obtain ⟨⟨l1, l2⟩, ha, -, -⟩ := tempA_iff.1 (tempB_iff.1 hT).1
  have hlt : idxT l b l.length < l.length := idx_le _ (by omega)
  have hfr : ∀ i, i < l.length → fracB (el l i).beat = true := fun i hi => (beatB_iff.1 (tempoB_iff.1 (ha i hi)).1).1
  simp [h0]
  refine awCall_ctr ((l17Positions_a (c := c) (id0 := M.length) (off0 := 0) (h.app _) (by simp) hn).weaken (by simp)) ?_
  rintro _ M1 ⟨v, rfl, hv, hk⟩
  obtain ⟨A2, c2, rfl, hs2⟩ := hv hT
  have hkM : Keeps M M1 := (keeps_app _).trans hk
  have hS1 := h.keeps hkM
  have hr1 : cellAt M1 M.length 0 = some (.slice A n c) := cellAt_keeps hk (by simp)
  have hb1 : cellsAt M1 (M.length + 1) 0 2 = some [iv b.n, iv b.d] := cellsAt_keeps hk (by simp)
  have hg1 : M1[M.length + 2]? = some (.live ⟨[iv 0, iv 0], true, true, 58, 2⟩) := hk.get (by simp)
  have hlen := (List.getElem?_eq_some_iff.1 hg1).1
  obtain ⟨k, hk'⟩ : ∃ k, k = idxT l b l.length := ⟨_, rfl⟩
  rw [← hk'] at hlt
  obtain ⟨id, off, rfl, he, hc⟩ := hS1.at_ (show k < n by omega)
  obtain ⟨id2, off2, rfl, he2, hc2⟩ := hs2.at_ (show k < n by omega)
  have hld := tempo_cellsN hc
  obtain ⟨-, -, hcs⟩ := tempo_cells hc
  have hlp := frac_load hc2
  simp (disch := omega) [hT, hb1, hr1]
  refine awCall_det' (l17Index_a (b := b) hS1 hr1 hn (beatB_iff.1 hB).1 hfr) (by omega) ?_
  rw [← hk']
  refine awDraw_M 22 [[],[0],[],[1,0,2],[3,1,0,2],[4,3,1,0,2],[],[],[7],[],[8,7,9],[10,8,7,9],[11,10,8,7,9],[],[],[13,14],[15,13,14],[5,4,3,1,0,2,6,12,11,10,8,7,9,16,15,13,14],[17,5,4,3,1,0,2,6,12,11,10,8,7,9,16,15,13,14],[18,17,5,4,3,1,0,2,6,12,11,10,8,7,9,16,15,13,14],[18,17,5,4,3,1,0,2,6,12,11,10,8,7,9,16,15,13,14],[],[21,19,18,17,5,4,3,1,0,2,6,12,11,10,8,7,9,16,15,13,14],[20,18,17,5,4,3,1,0,2,6,12,11,10,8,7,9,16,15,13,14,22,21,19]] [20] (by kernel_rfl) (by decide +kernel) (by decide +kernel) ?_
  have hkn : k < n := by omega
  simp (disch := omega) [hr1, hb1, he, he2, hcs, hld, hlp, hkn]
  refine awCall_det' (l17On_a (el l k).beat b (el (posAll l) k) (el l k).s) (by omega) ?_
  have hon := @onOk_iff (el l k).beat b (el (posAll l) k) (el l k).s
  by_cases h5 : onOk (el l k).beat b (el l k).s (el (posAll l) k) = true
  case neg =>
    have e : posB l b = (⟨0, 0⟩, 2) := by unfold posB; rw [if_pos h0, ← hk', if_neg (fun h => h5 (hon.2 h))]
    simp (disch := omega) [h5, e]
    exact ret_box hg1 hkM (by omega) rfl rfl ⟨rfl, trivial⟩
  have e : posB l b = (onY (el l k).beat b (el l k).s (el (posAll l) k), 0) := by
    unfold posB
    rw [if_pos h0, ← hk', if_pos (hon.1 h5), onY_eq (hon.1 h5)]
    exact Prod.ext rfl (hon.1 h5)
  simp (disch := omega) [h5, e]
  exact ret_box hg1 hkM (by omega) rfl rfl ⟨rfl, trivial⟩
theorem SampleOfBeat_s {M : Mem} {A : Option Addr} {n c : Nat} {l : List Tempo} (b : Frac) (h : Sl tempoR M A n l) (hn : n ≤ 1099511627776) :
    Det Try.prog M.length 32 [.agg #[.slice A n c], b.v] M (.tuple #[iv (sampB l b).1, iv (sampB l b).2]) M := by
  first | (refine det_fn Try.func32 rfl Try.ntmps32 Try.results32 rfl rfl rfl (by simp) ?_) | (refine det_fnC Try.func32 rfl Try.ntmps32 Try.results32 rfl rfl (by simp) ?_)
  simp
  refine awCall_det' (PositionOfBeat_s (c := c) b (h.app _) hn) (by simp) ?_
  by_cases h0 : (posB l b).2 = 0
  · have hf := fracB_iff.1 (posB_ok h0)
    simp (disch := omega) [h0]
    refine awCall_det' (floorDiv_s (posB l b).1.n (posB l b).1.d (by omega) (by omega) (by omega)) (by simp) ?_
    simp [sampB, h0, keeps_app]
  · simp [h0, sampB, keeps_app]
end Go.Proofs.Ytgaiejaegimilaa
