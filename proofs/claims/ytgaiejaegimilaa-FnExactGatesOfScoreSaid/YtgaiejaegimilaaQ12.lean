/- Tempo maps: the program's test of a map, and the position of a beat. No conditions. -/
import Derived.Test.YtgaiejaegimilaaQ11
namespace Go.Proofs.Ytgaiejaegimilaa
open Go.RowKit
set_option linter.unusedVariables false
set_option linter.unusedSimpArgs false
set_option maxRecDepth 100000
attribute [local simp] List.getElem?_cons_zero
attribute [local irreducible] awCond awCall awLoop awDraw ow retQ retC resQ Keeps
theorem beat_zero {t : Tempo} (h : fracB t.beat = true) (h0 : t.bn = 0) : t.bd = 1 := by
  obtain ⟨⟨h1, -⟩, -, h3⟩ := fracB_iff.1 h
  have e1 : t.beat.n = 0 := h0
  rw [e1] at h3
  simp at h3
  have e2 : t.beat.d = t.bd := rfl
  omega
theorem cells_one {M : Mem} {id off : Nat} {v : Value} (h : cellAt M id off = some v) : cellsAt M id off 1 = some [v] :=
  cellsAt_of (xs := [v]) (fun j x hx => by
    rcases j with _ | j
    · simp at hx
      subst hx
      exact h
    · simp at hx) rfl (by omega)
theorem sizeTempo_a {M : Mem} {A : Option Addr} {n c : Nat} : Det Try.prog M.length 99 [.slice A n c] M (iv n) M := by
  first | (refine det_fn Try.func99 rfl Try.ntmps99 Try.results99 rfl rfl rfl (by simp) ?_) | (refine det_fnC Try.func99 rfl Try.ntmps99 Try.results99 rfl rfl (by simp) ?_)
  simp [Keeps.refl]
theorem isTempos_i {M : Mem} {A : Option Addr} {n c : Nat} {l : List Tempo} (h : Sl tempoR M A n l) (hn : n ≤ 1099511627776) : Det Try.prog M.length 57 [.agg #[.slice A n c]] M (.bool (tempB l)) M := by
  have hl := h.1
  first | (refine det_fn Try.func57 rfl Try.ntmps57 Try.results57 rfl rfl rfl (by simp) ?_) | (refine det_fnC Try.func57 rfl Try.ntmps57 Try.results57 rfl rfl (by simp) ?_)
  simp
  refine awCall_det' sizeTempo_a (by simp) ?_
  refine awCall_det' (within_a (n : Int) 1 8) (by simp) ?_
  by_cases hin : inB (n : Int) 1 8 = true
  case neg =>
    have e : tempB l = false := tempB_len (by rw [hl]; simpa using hin)
    simp [hin, e, keeps_app]
  have hinb := inB_iff.1 hin
  have h0n : 0 < n := by omega
  obtain ⟨id, off, rfl, he, hc0⟩ := h.at_ h0n
  have he' := fun L : Mem => rowEsz_keeps (keeps_app (M := M) L) he
  have hld0 := fun L => cellsAt_app (tempo_cellsN hc0) L
  simp only [Nat.zero_mul, Nat.add_zero] at hld0
  simp (disch := omega) [hin, h0n, he', hld0, fr_build]
  have fn : binV Try.prog .neq 58 (.agg #[iv (el l 0).bn, iv (el l 0).bd]) (.agg #[iv 0, iv 1]) = some (.bool (!decide ((el l 0).beat = ⟨0, 1⟩))) := frac_neq (el l 0).beat ⟨0, 1⟩
  simp (disch := omega) [fn]
  by_cases hz : (el l 0).beat = ⟨0, 1⟩
  case neg =>
    have e : tempB l = false := tempB_no fun hb => by
      obtain ⟨-, h2, h3, -⟩ := tempA_iff.1 (tempB_iff.1 hb).1
      have hb0 := (beatB_iff.1 (tempoB_iff.1 (h2 0 (by omega))).1).1
      have hd := beat_zero hb0 h3
      exact hz (by show (⟨(el l 0).bn, (el l 0).bd⟩ : Frac) = _; rw [h3, hd])
    simp [hz, e, keeps_app]
  have hz0 : (el l 0).bn = 0 := congrArg Frac.n hz
  simp [hz]
  have hr0 : cellAt (M ++ [.live ⟨[.slice (some ⟨id, off, none⟩) n c], true, true, 43, 1⟩]) M.length 0 = some (.slice (some ⟨id, off, none⟩) n c) := by simp
  have hP : ∀ {k : Nat}, k ≤ n → True := fun _ => trivial
  refine awLoop_T (fun m T M' => ∃ k : Nat, k + m = n ∧ Keeps (M ++ [.live ⟨[.slice (some ⟨id, off, none⟩) n c], true, true, 43, 1⟩]) M' ∧ (∀ i, i < k → tempoB (el l i) = true) ∧ (∀ i, i < k → 0 < i → cmpF (el l (i - 1)).beat (el l i).beat < 0) ∧ look T 26 = some (iv k) ∧ look T 25 = some (iv n) ∧ look T 24 = some (.slice (some ⟨id, off, none⟩) n c) ∧ look T 1 = some (.pointer (some ⟨M.length, 0, none⟩))) n
    ⟨0, by omega, Keeps.refl _, fun i hi => by omega, fun i hi => by omega, by simp, by simp, by simp, by simp⟩ ?_
  rintro m T M1 ⟨k, hm, hK, ha, hs, t26, t25, t24, t1⟩
  have hKM := (keeps_app _).trans hK
  have hKl := hK.len
  simp only [List.length_append, List.length_cons, List.length_nil] at hKl
  have hr1 := cellAt_keeps hK hr0
  have hr1' := fun L => cellAt_app hr1 L
  have he1 := fun L : Mem => rowEsz_keeps (keeps_app (M := M1) L) (rowEsz_keeps hKM he)
  by_cases hlt : k < n
  · obtain ⟨_, _, ee, -, hc⟩ := (h.keeps hKM).at_ hlt
    cases ee
    have hld := tempo_load hc
    simp (disch := omega) [t26, t25, t24, t1, hlt, rowEsz_keeps hKM he, hld]
    refine awDraw_E 23 [[],[0],[1,0],[2,1,0],[3,2,1,0],[4,3,2,1,0],[5,4,3,2,1,0],[6,5,4,3,2,1,0],[7,6,5,4,3,2,1,0],[4,3,2,1,0,8,7,6,5],[9,4,3,2,1,0,8,7,6,5],[10,9,4,3,2,1,0,8,7,6,5],[11,10,9,4,3,2,1,0,8,7,6,5],[12,11,10,9,4,3,2,1,0,8,7,6,5],[13,12,11,10,9,4,3,2,1,0,8,7,6,5],[14,13,12,11,10,9,4,3,2,1,0,8,7,6,5],[13,12,11,10,9,4,3,2,1,0,8,7,6,5],[16,13,12,11,10,9,4,3,2,1,0,8,7,6,5],[15,14,13,12,11,10,9,4,3,2,1,0,8,7,6,5,17,16],[18,15,14,13,12,11,10,9,4,3,2,1,0,8,7,6,5,17,16],[19,18,15,14,13,12,11,10,9,4,3,2,1,0,8,7,6,5,17,16],[13,12,11,10,9,4,3,2,1,0,8,7,6,5],[21,13,12,11,10,9,4,3,2,1,0,8,7,6,5],[20,19,18,15,14,13,12,11,10,9,4,3,2,1,0,8,7,6,5,17,16,22,21],[23,20,19,18,15,14,13,12,11,10,9,4,3,2,1,0,8,7,6,5,17,16,22,21],[13,12,11,10,9,4,3,2,1,0,8,7,6,5,24,23,20,19,18,15,14,17,16,22,21],[10,9,4,3,2,1,0,8,7,6,5,25,13,12,11,24,23,20,19,18,15,14,17,16,22,21]] (by kernel_rfl) (by kernel_rfl) ?_
    simp (disch := omega) [t26, t25, t24, t1]
    refine awCall_det' (isBeat_i (el l k).beat) (by simp) ?_
    by_cases f1 : beatB (el l k).beat = true
    case neg =>
      have e : tempB l = false := tempB_no fun hb => f1 (tempoB_iff.1 ((tempA_iff.1 (tempB_iff.1 hb).1).2.1 k (by omega))).1
      simp (disch := omega) [f1, e, t1, hKM.app]
    simp (disch := omega) [f1, t26, t1]
    refine awCall_det' (within_a (el l k).s 1 1000) (by simp) ?_
    by_cases f2 : inB (el l k).s 1 1000 = true
    case neg =>
      have e : tempB l = false := tempB_no fun hb => f2 (inB_iff.2 (tempoB_iff.1 ((tempA_iff.1 (tempB_iff.1 hb).1).2.1 k (by omega))).2)
      simp (disch := omega) [f2, e, t1, hKM.app]
    have ht : tempoB (el l k) = true := tempoB_iff.2 ⟨f1, inB_iff.1 f2⟩
    by_cases hk0 : k = 0
    · subst hk0
      simp (disch := omega) [f2, t26, t25, t24, t1, wrap_in]
      exact lpI (m - 1) (by omega) ⟨1, by omega, hK.app _, (fun i hi => by obtain rfl : i = 0 := (by omega); exact ht), (fun i hi h0 => by omega), by simp, by simp [t25], by simp [t24], by simp [t1]⟩
    obtain ⟨_, _, ee, -, hcp⟩ := (h.keeps hKM).at_ (show k - 1 < n by omega)
    cases ee
    have hldp := fun L => cellsAt_app (tempo_cellsN hcp) L
    have et : ((k : Int) - 1).toNat = k - 1 := by omega
    have hk0' : (0 : Int) < k := by omega
    have hk00 : 0 < k := by omega
    simp (disch := omega) [f2, t26, t25, t24, t1, wrap_in, hk0', hk00, hr1', he1, hldp, et]
    refine ⟨by omega, ?_⟩
    refine awCall_det' (compare_i (el l (k - 1)).beat (el l k).beat (beatB_iff.1 (tempoB_iff.1 (ha (k - 1) (by omega))).1).1 (beatB_iff.1 f1).1) (by simp; omega) ?_
    by_cases f3 : cmpF (el l (k - 1)).beat (el l k).beat < 0
    case neg =>
      have e : tempB l = false := tempB_no fun hb => f3 ((tempA_iff.1 (tempB_iff.1 hb).1).2.2.2 k (by omega) hk00)
      have f3' : 0 ≤ cmpF (el l (k - 1)).beat (el l k).beat := by omega
      simp (disch := omega) [f3', e, t1, hKM.app]
    have f3' : ¬ 0 ≤ cmpF (el l (k - 1)).beat (el l k).beat := by omega
    simp (disch := omega) [f3', t26, t25, t24, t1, wrap_in]
    refine lpI (m - 1) (by omega) ⟨k + 1, by omega, hK.app _, ?_, ?_, by simp, by simp [t25], by simp [t24], by simp [t1]⟩
    · intro i hi
      by_cases hik : i = k
      · rw [hik]; exact ht
      · exact ha i (by omega)
    · intro i hi h0
      by_cases hik : i = k
      · rw [hik]; exact f3
      · exact hs i (by omega) h0
  · obtain rfl : k = n := by omega
    have hA : tempA l = true := tempA_iff.2 ⟨by omega, fun i hi => ha i (by omega), hz0, fun i hi h0 => hs i (by omega) h0⟩
    have hf : ∀ i, i < l.length → fracB (el l i).beat = true := fun i hi => (beatB_iff.1 (tempoB_iff.1 (ha i (by omega))).1).1
    simp (disch := omega) [t26, t25, t24, t1, hr1]
    refine awLoop_T (fun m T M' => ∃ j : Nat, j + m = k ∧ Keeps (M ++ [.live ⟨[.slice (some ⟨id, off, none⟩) k c], true, true, 43, 1⟩]) M' ∧ (∀ i, i < j → (posK l i).isSome = true) ∧ look T 62 = some (iv j) ∧ look T 61 = some (iv k) ∧ look T 60 = some (.slice (some ⟨id, off, none⟩) k c) ∧ look T 1 = some (.pointer (some ⟨M.length, 0, none⟩))) k
      ⟨0, by omega, hK, fun i hi => by omega, by simp, by simp, by simp, by simp [t1]⟩ ?_
    clear hK hKM hKl hr1 hr1' he1 t26 t25 t24 t1
    clear T M1
    rintro m T M1 ⟨j, hm, hK, hp, t62, t61, t60, t1⟩
    have hKM := (keeps_app _).trans hK
    have hKl := hK.len
    simp only [List.length_append, List.length_cons, List.length_nil] at hKl
    have hr1 := fun L => cellAt_app (cellAt_keeps hK hr0) L
    by_cases hlt2 : j < k
    · obtain ⟨_, _, ee, -, hc⟩ := (h.keeps hKM).at_ hlt2
      cases ee
      have hld := tempo_load hc
      simp (disch := omega) [t62, t61, t60, t1, hlt2, rowEsz_keeps hKM he, hld, cells_one (hr1 _)]
      refine awCall_det' (position_i (c := c) (el l j).beat ((h.keeps hKM).app _) hn (hf j (by omega)) hf) (by simp; omega) ?_
      have hgs := go_self hA (j := j) (by omega)
      by_cases f4 : (goF l (el l j).beat l.length 0 ⟨0, 1⟩).2 = 0
      · simp (disch := omega) [f4, t62, wrap_in]
        refine lpI (m - 1) (by omega) ⟨j + 1, by omega, (hK.app _), ?_, by simp, by simp [t61], by simp [t60], by simp [t1]⟩
        intro i hi
        by_cases hij : i = j
        · rw [hij]; exact hgs.1 f4
        · exact hp i (by omega)
      · have e : tempB l = false := tempB_no fun hb => f4 (hgs.2 ((tempB_iff.1 hb).2 j (by omega)))
        simp (disch := omega) [f4, e, hKM.app]
    · obtain rfl : j = k := by omega
      have e : tempB l = true := tempB_iff.2 ⟨hA, fun i hi => hp i (by omega)⟩
      simp [t62, t61, e, hKM]
theorem beatCode_i {M : Mem} {A : Option Addr} {n c id : Nat} {l : List Tempo} (b : Frac) (h : Sl tempoR M A n l) (hn : n ≤ 1099511627776) (hr : cellAt M id 0 = some (.slice A n c)) (he : rowEsz M id = some 1) :
    Det Try.prog M.length 158 [b.v, .slice (some ⟨id, 0, none⟩) 1 1] M (iv (askC l b)) M := by
  first | (refine det_fn Try.func158 rfl Try.ntmps158 Try.results158 rfl rfl rfl (by simp) ?_) | (refine det_fnC Try.func158 rfl Try.ntmps158 Try.results158 rfl rfl (by simp) ?_)
  simp
  refine awLoop_T (fun m T M' => ∃ k : Nat, k + m = 1 ∧ Keeps (M ++ [.live ⟨[iv b.n, iv b.d], true, true, 58, 2⟩]) M' ∧ (k = 1 → tempB l = true) ∧ look T 9 = some (iv k) ∧ look T 8 = some (iv 1) ∧ look T 7 = some (.slice (some ⟨id, 0, none⟩) 1 1) ∧ look T 2 = some (.pointer (some ⟨M.length, 0, none⟩))) 1
    ⟨0, by omega, Keeps.refl _, fun h => by omega, by simp, by simp, by simp, by simp⟩ ?_
  rintro m T M1 ⟨k, hm, hK, hk, t9, t8, t7, t2⟩
  have hKM := (keeps_app _).trans hK
  have hKl := hK.len
  simp only [List.length_append, List.length_cons, List.length_nil] at hKl
  have hb1 : cellsAt M1 M.length 0 2 = some [iv b.n, iv b.d] := cellsAt_keeps hK (by simp)
  rcases k with _ | k
  · have hx := cells_one (cellAt_keeps hKM hr)
    simp (disch := omega) [t9, t8, t7, t2, rowEsz_keeps hKM he, hx]
    refine awCall_det' (isTempos_i (c := c) ((h.keeps hKM).app _) hn) (by simp; omega) ?_
    by_cases f1 : tempB l = true
    · simp (disch := omega) [f1, t9, wrap_in]
      exact lpI (m - 1) (by omega) ⟨1, by omega, hK.app _, fun _ => f1, by simp, by simp [t8], by simp [t7], by simp [t2]⟩
    · have e : askC l b = 1 := by simp [askC, f1]
      simp [f1, e, hKM.app]
  · obtain rfl : k = 0 := by omega
    have f1 := hk rfl
    simp (disch := omega) [t9, t8, t2, hb1]
    refine awCall_det' (isFrac_i b) (by omega) ?_
    by_cases f2 : fracB b = true
    · simp (disch := omega) [f2, t2, hb1]
      refine awCall_det' (isBeat_i b) (by omega) ?_
      by_cases f3 : beatB b = true
      · have e : askC l b = 0 := askC_zero.2 ⟨f1, f3⟩
        simp [f3, e, hKM]
      · have e : askC l b = 2 := by simp [askC, f1, f2, f3]
        simp [f3, e, hKM]
    · have e : askC l b = 1 := by simp [askC, f2]
      simp [f2, e, hKM]
theorem posB_eq {l : List Tempo} {b : Frac} (h : askC l b = 0) : (goF l b l.length 0 ⟨0, 1⟩).2 = 0 ∧ posB l b = goF l b l.length 0 ⟨0, 1⟩ ∨ (goF l b l.length 0 ⟨0, 1⟩).2 = 2 ∧ posB l b = (⟨0, 0⟩, 2) := by
  obtain ⟨hT, hB⟩ := askC_zero.1 h
  obtain ⟨k, a, h1, h2, h3, h4⟩ := go_beat hT hB
  have ht := tempoB_iff.1 ((tempA_iff.1 (tempB_iff.1 hT).1).2.1 k h2)
  have hc := onF_code (s := (el l k).s) (beatB_iff.1 ht.1).1 (beatB_iff.1 hB).1 (posK_ok l h3) ht.2
  rw [h4]
  unfold posB
  rw [if_pos h, h1, posAll_el h2 h3]
  by_cases h0 : (onF (el l k).beat b (el l k).s a).2 = 0
  · exact .inl ⟨h0, if_pos h0⟩
  · exact .inr ⟨by omega, if_neg h0⟩
theorem box_fill (A : Option Addr) (n c : Nat) : Instr.fill (fun i => some (i, 1)) (zrow [.slice none 0 0] 1).toArray [(0, Value.agg #[.slice A n c])] = some #[.slice A n c] := by rfl
theorem PositionOfBeat_i {M : Mem} {A : Option Addr} {n c : Nat} {l : List Tempo} (b : Frac) (h : Sl tempoR M A n l) (hn : n ≤ 1099511627776) :
    Det Try.prog M.length 139 [.agg #[.slice A n c], b.v] M (.tuple #[(posB l b).1.v, iv (posB l b).2]) M := by
  refine Ctr.pure ?_ rfl
  first | (refine ctr_fn Try.func139 rfl Try.ntmps139 Try.results139 rfl rfl (by simp) ?_) | (refine ctr_fnC Try.func139 rfl Try.ntmps139 Try.results139 rfl (by simp) ?_)
  simp [box_fill]
  refine awCall_det' (beatCode_i (c := c) b (h.app _) hn (by simp) (by simp [rowEsz])) (by simp) ?_
  by_cases h0 : askC l b = 0
  case neg =>
    have e : posB l b = (⟨0, 0⟩, askC l b) := by unfold posB; rw [if_neg h0]
    simp [h0, e, fr_build0, keeps_app]
  obtain ⟨hT, hB⟩ := askC_zero.1 h0
  have hf : ∀ i, i < l.length → fracB (el l i).beat = true := fun i hi => (beatB_iff.1 (tempoB_iff.1 ((tempA_iff.1 (tempB_iff.1 hT).1).2.1 i hi)).1).1
  simp [h0]
  refine awCall_det' (position_i (c := c) b (h.app _) hn (beatB_iff.1 hB).1 hf) (by simp) ?_
  rcases posB_eq h0 with ⟨h1, e⟩ | ⟨h1, e⟩
  · simp [h1, e, fr_build0, keeps_app]
  · simp [h1, e, fr_build0, keeps_app]
theorem SampleOfBeat_i {M : Mem} {A : Option Addr} {n c : Nat} {l : List Tempo} (b : Frac) (h : Sl tempoR M A n l) (hn : n ≤ 1099511627776) :
    Det Try.prog M.length 103 [.agg #[.slice A n c], b.v] M (.tuple #[iv (sampB l b).1, iv (sampB l b).2]) M := by
  first | (refine det_fn Try.func103 rfl Try.ntmps103 Try.results103 rfl rfl rfl (by simp) ?_) | (refine det_fnC Try.func103 rfl Try.ntmps103 Try.results103 rfl rfl (by simp) ?_)
  simp
  refine awCall_det' (PositionOfBeat_i (c := c) b (h.app _) hn) (by simp) ?_
  simp
  refine awCall_det' (FloorFrac_i (posB l b).1) (by simp) ?_
  by_cases h0 : (posB l b).2 = 0
  · have hf := posB_ok h0
    simp [sampB, h0, floorF, hf, keeps_app]
  · have e : (posB l b).1 = ⟨0, 0⟩ := by
      unfold posB at h0 ⊢
      split
      · rename_i h1
        rw [if_pos h1] at h0
        split
        · rename_i h2
          rw [if_pos h2] at h0
          exact absurd h2 h0
        · rfl
      · rfl
    simp [sampB, h0, e, keeps_app]
    decide
end Go.Proofs.Ytgaiejaegimilaa
