/- Parts of the proof, together: Tempo maps: the program's test of a map, and the position of a beat. Gate: records in memory, and the laws' helpers on them. The gates of a score. Gates: contracts of the functions on one gate. The gates of a valid score are valid. The length of a performance; contracts for the laws. No conditions. -/
import Derived.Test.YtgaiejaegimilaaZzGa12
import Derived.Test.YtgaiejaegimilaaZzGa7
import Derived.Test.YtgaiejaegimilaaZzGa8
import Derived.Laws.StructEq
namespace Go.Proofs.Ytgaiejaegimilaa
open Go.RowKit
set_option linter.unusedVariables false
set_option linter.unusedSimpArgs false
set_option maxRecDepth 100000
attribute [local simp] List.getElem?_cons_zero
attribute [local irreducible] awCond awCall awLoop awDraw ow retQ retC resQ Keeps
theorem beat_zero {t : Tempo} (h : fracB t.beat = true) (h0 : t.bn = 0) : t.bd = 1 := by
  obtain ⟨⟨h1, -⟩, -, h3⟩ := fracB_iff.1 h
  have e1 : t.beat.n = 0 := h0
  rw [e1] at h3
  simp at h3
  have e2 : t.beat.d = t.bd := rfl
  omega
theorem cells_one {M : Mem} {id off : Nat} {v : Value} (h : cellAt M id off = some v) : cellsAt M id off 1 = some [v] :=
  cellsAt_of (xs := [v]) (fun j x hx => by
    rcases j with _ | j
    · simp at hx
      subst hx
      exact h
    · simp at hx) rfl (by omega)
theorem sizeTempo_a {M : Mem} {A : Option Addr} {n c : Nat} : Det Try.prog M.length 99 [.slice A n c] M (iv n) M := by
  first | (refine det_fn Try.func99 rfl Try.ntmps99 Try.results99 rfl rfl rfl (by simp) ?_) | (refine det_fnC Try.func99 rfl Try.ntmps99 Try.results99 rfl rfl (by simp) ?_)
  simp [Keeps.refl]
theorem isTempos_i {M : Mem} {A : Option Addr} {n c : Nat} {l : List Tempo} (h : Sl tempoR M A n l) (hn : n ≤ 1099511627776) : Det Try.prog M.length 57 [.agg #[.slice A n c]] M (.bool (tempB l)) M := by
  have hl := h.1
  first | (refine det_fn Try.func57 rfl Try.ntmps57 Try.results57 rfl rfl rfl (by simp) ?_) | (refine det_fnC Try.func57 rfl Try.ntmps57 Try.results57 rfl rfl (by simp) ?_)
  simp
  refine awCall_det' sizeTempo_a (by simp) ?_
  refine awCall_det' (within_a (n : Int) 1 8) (by simp) ?_
  by_cases hin : inB (n : Int) 1 8 = true
  case neg =>
    have e : tempB l = false := tempB_len (by rw [hl]; simpa using hin)
    simp [hin, e, keeps_app]
  have hinb := inB_iff.1 hin
  have h0n : 0 < n := by omega
  obtain ⟨id, off, rfl, he, hc0⟩ := h.at_ h0n
  have he' := fun L : Mem => rowEsz_keeps (keeps_app (M := M) L) he
  have hld0 := fun L => cellsAt_app (tempo_cellsN hc0) L
  simp only [Nat.zero_mul, Nat.add_zero] at hld0
  simp (disch := omega) [hin, h0n, he', hld0, fr_build]
  have fn : binV Try.prog .neq 58 (.agg #[iv (el l 0).bn, iv (el l 0).bd]) (.agg #[iv 0, iv 1]) = some (.bool (!decide ((el l 0).beat = ⟨0, 1⟩))) := frac_neq (el l 0).beat ⟨0, 1⟩
  simp (disch := omega) [fn]
  by_cases hz : (el l 0).beat = ⟨0, 1⟩
  case neg =>
    have e : tempB l = false := tempB_no fun hb => by
      obtain ⟨-, h2, h3, -⟩ := tempA_iff.1 (tempB_iff.1 hb).1
      have hb0 := (beatB_iff.1 (tempoB_iff.1 (h2 0 (by omega))).1).1
      have hd := beat_zero hb0 h3
      exact hz (by show (⟨(el l 0).bn, (el l 0).bd⟩ : Frac) = _; rw [h3, hd])
    simp [hz, e, keeps_app]
  have hz0 : (el l 0).bn = 0 := congrArg Frac.n hz
  simp [hz]
  have hr0 : cellAt (M ++ [.live ⟨[.slice (some ⟨id, off, none⟩) n c], true, true, 43, 1⟩]) M.length 0 = some (.slice (some ⟨id, off, none⟩) n c) := by simp
  have hP : ∀ {k : Nat}, k ≤ n → True := fun _ => trivial
  refine awLoop_T (fun m T M' => ∃ k : Nat, k + m = n ∧ Keeps (M ++ [.live ⟨[.slice (some ⟨id, off, none⟩) n c], true, true, 43, 1⟩]) M' ∧ (∀ i, i < k → tempoB (el l i) = true) ∧ (∀ i, i < k → 0 < i → cmpF (el l (i - 1)).beat (el l i).beat < 0) ∧ look T 26 = some (iv k) ∧ look T 25 = some (iv n) ∧ look T 24 = some (.slice (some ⟨id, off, none⟩) n c) ∧ look T 1 = some (.pointer (some ⟨M.length, 0, none⟩))) n
    ⟨0, by omega, Keeps.refl _, fun i hi => by omega, fun i hi => by omega, by simp, by simp, by simp, by simp⟩ ?_
  rintro m T M1 ⟨k, hm, hK, ha, hs, t26, t25, t24, t1⟩
  have hKM := (keeps_app _).trans hK
  have hKl := hK.len
  simp only [List.length_append, List.length_cons, List.length_nil] at hKl
  have hr1 := cellAt_keeps hK hr0
  have hr1' := fun L => cellAt_app hr1 L
  have he1 := fun L : Mem => rowEsz_keeps (keeps_app (M := M1) L) (rowEsz_keeps hKM he)
  by_cases hlt : k < n
  · obtain ⟨_, _, ee, -, hc⟩ := (h.keeps hKM).at_ hlt
    cases ee
    have hld := tempo_load hc
    simp (disch := omega) [t26, t25, t24, t1, hlt, rowEsz_keeps hKM he, hld]
    refine awDraw_E 23 [[],[0],[1,0],[2,1,0],[3,2,1,0],[4,3,2,1,0],[5,4,3,2,1,0],[6,5,4,3,2,1,0],[7,6,5,4,3,2,1,0],[4,3,2,1,0,8,7,6,5],[9,4,3,2,1,0,8,7,6,5],[10,9,4,3,2,1,0,8,7,6,5],[11,10,9,4,3,2,1,0,8,7,6,5],[12,11,10,9,4,3,2,1,0,8,7,6,5],[13,12,11,10,9,4,3,2,1,0,8,7,6,5],[14,13,12,11,10,9,4,3,2,1,0,8,7,6,5],[13,12,11,10,9,4,3,2,1,0,8,7,6,5],[16,13,12,11,10,9,4,3,2,1,0,8,7,6,5],[15,14,13,12,11,10,9,4,3,2,1,0,8,7,6,5,17,16],[18,15,14,13,12,11,10,9,4,3,2,1,0,8,7,6,5,17,16],[19,18,15,14,13,12,11,10,9,4,3,2,1,0,8,7,6,5,17,16],[13,12,11,10,9,4,3,2,1,0,8,7,6,5],[21,13,12,11,10,9,4,3,2,1,0,8,7,6,5],[20,19,18,15,14,13,12,11,10,9,4,3,2,1,0,8,7,6,5,17,16,22,21],[23,20,19,18,15,14,13,12,11,10,9,4,3,2,1,0,8,7,6,5,17,16,22,21],[13,12,11,10,9,4,3,2,1,0,8,7,6,5,24,23,20,19,18,15,14,17,16,22,21],[10,9,4,3,2,1,0,8,7,6,5,25,13,12,11,24,23,20,19,18,15,14,17,16,22,21]] (by kernel_rfl) (by kernel_rfl) ?_
    simp (disch := omega) [t26, t25, t24, t1]
    refine awCall_det' (isBeat_i (el l k).beat) (by simp) ?_
    by_cases f1 : beatB (el l k).beat = true
    case neg =>
      have e : tempB l = false := tempB_no fun hb => f1 (tempoB_iff.1 ((tempA_iff.1 (tempB_iff.1 hb).1).2.1 k (by omega))).1
      simp (disch := omega) [f1, e, t1, hKM.app]
    simp (disch := omega) [f1, t26, t1]
    refine awCall_det' (within_a (el l k).s 1 1000) (by simp) ?_
    by_cases f2 : inB (el l k).s 1 1000 = true
    case neg =>
      have e : tempB l = false := tempB_no fun hb => f2 (inB_iff.2 (tempoB_iff.1 ((tempA_iff.1 (tempB_iff.1 hb).1).2.1 k (by omega))).2)
      simp (disch := omega) [f2, e, t1, hKM.app]
    have ht : tempoB (el l k) = true := tempoB_iff.2 ⟨f1, inB_iff.1 f2⟩
    by_cases hk0 : k = 0
    · subst hk0
      simp (disch := omega) [f2, t26, t25, t24, t1, wrap_in]
      exact lpI (m - 1) (by omega) ⟨1, by omega, hK.app _, (fun i hi => by obtain rfl : i = 0 := (by omega); exact ht), (fun i hi h0 => by omega), by simp, by simp [t25], by simp [t24], by simp [t1]⟩
    obtain ⟨_, _, ee, -, hcp⟩ := (h.keeps hKM).at_ (show k - 1 < n by omega)
    cases ee
    have hldp := fun L => cellsAt_app (tempo_cellsN hcp) L
    have et : ((k : Int) - 1).toNat = k - 1 := by omega
    have hk0' : (0 : Int) < k := by omega
    have hk00 : 0 < k := by omega
    simp (disch := omega) [f2, t26, t25, t24, t1, wrap_in, hk0', hk00, hr1', he1, hldp, et]
    refine ⟨by omega, ?_⟩
    refine awCall_det' (compare_i (el l (k - 1)).beat (el l k).beat (beatB_iff.1 (tempoB_iff.1 (ha (k - 1) (by omega))).1).1 (beatB_iff.1 f1).1) (by simp; omega) ?_
    by_cases f3 : cmpF (el l (k - 1)).beat (el l k).beat < 0
    case neg =>
      have e : tempB l = false := tempB_no fun hb => f3 ((tempA_iff.1 (tempB_iff.1 hb).1).2.2.2 k (by omega) hk00)
      have f3' : 0 ≤ cmpF (el l (k - 1)).beat (el l k).beat := by omega
      simp (disch := omega) [f3', e, t1, hKM.app]
    have f3' : ¬ 0 ≤ cmpF (el l (k - 1)).beat (el l k).beat := by omega
    simp (disch := omega) [f3', t26, t25, t24, t1, wrap_in]
    refine lpI (m - 1) (by omega) ⟨k + 1, by omega, hK.app _, ?_, ?_, by simp, by simp [t25], by simp [t24], by simp [t1]⟩
    · intro i hi
      by_cases hik : i = k
      · rw [hik]; exact ht
      · exact ha i (by omega)
    · intro i hi h0
      by_cases hik : i = k
      · rw [hik]; exact f3
      · exact hs i (by omega) h0
  · obtain rfl : k = n := by omega
    have hA : tempA l = true := tempA_iff.2 ⟨by omega, fun i hi => ha i (by omega), hz0, fun i hi h0 => hs i (by omega) h0⟩
    have hf : ∀ i, i < l.length → fracB (el l i).beat = true := fun i hi => (beatB_iff.1 (tempoB_iff.1 (ha i (by omega))).1).1
    simp (disch := omega) [t26, t25, t24, t1, hr1]
    refine awLoop_T (fun m T M' => ∃ j : Nat, j + m = k ∧ Keeps (M ++ [.live ⟨[.slice (some ⟨id, off, none⟩) k c], true, true, 43, 1⟩]) M' ∧ (∀ i, i < j → (posK l i).isSome = true) ∧ look T 62 = some (iv j) ∧ look T 61 = some (iv k) ∧ look T 60 = some (.slice (some ⟨id, off, none⟩) k c) ∧ look T 1 = some (.pointer (some ⟨M.length, 0, none⟩))) k
      ⟨0, by omega, hK, fun i hi => by omega, by simp, by simp, by simp, by simp [t1]⟩ ?_
    clear hK hKM hKl hr1 hr1' he1 t26 t25 t24 t1
    clear T M1
    rintro m T M1 ⟨j, hm, hK, hp, t62, t61, t60, t1⟩
    have hKM := (keeps_app _).trans hK
    have hKl := hK.len
    simp only [List.length_append, List.length_cons, List.length_nil] at hKl
    have hr1 := fun L => cellAt_app (cellAt_keeps hK hr0) L
    by_cases hlt2 : j < k
    · obtain ⟨_, _, ee, -, hc⟩ := (h.keeps hKM).at_ hlt2
      cases ee
      have hld := tempo_load hc
      simp (disch := omega) [t62, t61, t60, t1, hlt2, rowEsz_keeps hKM he, hld, cells_one (hr1 _)]
      refine awCall_det' (position_i (c := c) (el l j).beat ((h.keeps hKM).app _) hn (hf j (by omega)) hf) (by simp; omega) ?_
      have hgs := go_self hA (j := j) (by omega)
      by_cases f4 : (goF l (el l j).beat l.length 0 ⟨0, 1⟩).2 = 0
      · simp (disch := omega) [f4, t62, wrap_in]
        refine lpI (m - 1) (by omega) ⟨j + 1, by omega, (hK.app _), ?_, by simp, by simp [t61], by simp [t60], by simp [t1]⟩
        intro i hi
        by_cases hij : i = j
        · rw [hij]; exact hgs.1 f4
        · exact hp i (by omega)
      · have e : tempB l = false := tempB_no fun hb => f4 (hgs.2 ((tempB_iff.1 hb).2 j (by omega)))
        simp (disch := omega) [f4, e, hKM.app]
    · obtain rfl : j = k := by omega
      have e : tempB l = true := tempB_iff.2 ⟨hA, fun i hi => hp i (by omega)⟩
      simp [t62, t61, e, hKM]
theorem beatCode_i {M : Mem} {A : Option Addr} {n c id : Nat} {l : List Tempo} (b : Frac) (h : Sl tempoR M A n l) (hn : n ≤ 1099511627776) (hr : cellAt M id 0 = some (.slice A n c)) (he : rowEsz M id = some 1) :
    Det Try.prog M.length 158 [b.v, .slice (some ⟨id, 0, none⟩) 1 1] M (iv (askC l b)) M := by
  first | (refine det_fn Try.func158 rfl Try.ntmps158 Try.results158 rfl rfl rfl (by simp) ?_) | (refine det_fnC Try.func158 rfl Try.ntmps158 Try.results158 rfl rfl (by simp) ?_)
  simp
  refine awLoop_T (fun m T M' => ∃ k : Nat, k + m = 1 ∧ Keeps (M ++ [.live ⟨[iv b.n, iv b.d], true, true, 58, 2⟩]) M' ∧ (k = 1 → tempB l = true) ∧ look T 9 = some (iv k) ∧ look T 8 = some (iv 1) ∧ look T 7 = some (.slice (some ⟨id, 0, none⟩) 1 1) ∧ look T 2 = some (.pointer (some ⟨M.length, 0, none⟩))) 1
    ⟨0, by omega, Keeps.refl _, fun h => by omega, by simp, by simp, by simp, by simp⟩ ?_
  rintro m T M1 ⟨k, hm, hK, hk, t9, t8, t7, t2⟩
  have hKM := (keeps_app _).trans hK
  have hKl := hK.len
  simp only [List.length_append, List.length_cons, List.length_nil] at hKl
  have hb1 : cellsAt M1 M.length 0 2 = some [iv b.n, iv b.d] := cellsAt_keeps hK (by simp)
  rcases k with _ | k
  · have hx := cells_one (cellAt_keeps hKM hr)
    simp (disch := omega) [t9, t8, t7, t2, rowEsz_keeps hKM he, hx]
    refine awCall_det' (isTempos_i (c := c) ((h.keeps hKM).app _) hn) (by simp; omega) ?_
    by_cases f1 : tempB l = true
    · simp (disch := omega) [f1, t9, wrap_in]
      exact lpI (m - 1) (by omega) ⟨1, by omega, hK.app _, fun _ => f1, by simp, by simp [t8], by simp [t7], by simp [t2]⟩
    · have e : askC l b = 1 := by simp [askC, f1]
      simp [f1, e, hKM.app]
  · obtain rfl : k = 0 := by omega
    have f1 := hk rfl
    simp (disch := omega) [t9, t8, t2, hb1]
    refine awCall_det' (isFrac_i b) (by omega) ?_
    by_cases f2 : fracB b = true
    · simp (disch := omega) [f2, t2, hb1]
      refine awCall_det' (isBeat_i b) (by omega) ?_
      by_cases f3 : beatB b = true
      · have e : askC l b = 0 := askC_zero.2 ⟨f1, f3⟩
        simp [f3, e, hKM]
      · have e : askC l b = 2 := by simp [askC, f1, f2, f3]
        simp [f3, e, hKM]
    · have e : askC l b = 1 := by simp [askC, f2]
      simp [f2, e, hKM]
theorem posB_eq {l : List Tempo} {b : Frac} (h : askC l b = 0) : (goF l b l.length 0 ⟨0, 1⟩).2 = 0 ∧ posB l b = goF l b l.length 0 ⟨0, 1⟩ ∨ (goF l b l.length 0 ⟨0, 1⟩).2 = 2 ∧ posB l b = (⟨0, 0⟩, 2) := by
  obtain ⟨hT, hB⟩ := askC_zero.1 h
  obtain ⟨k, a, h1, h2, h3, h4⟩ := go_beat hT hB
  have ht := tempoB_iff.1 ((tempA_iff.1 (tempB_iff.1 hT).1).2.1 k h2)
  have hc := onF_code (s := (el l k).s) (beatB_iff.1 ht.1).1 (beatB_iff.1 hB).1 (posK_ok l h3) ht.2
  rw [h4]
  unfold posB
  rw [if_pos h, h1, posAll_el h2 h3]
  by_cases h0 : (onF (el l k).beat b (el l k).s a).2 = 0
  · exact .inl ⟨h0, if_pos h0⟩
  · exact .inr ⟨by omega, if_neg h0⟩
theorem box_fill (A : Option Addr) (n c : Nat) : Instr.fill (fun i => some (i, 1)) (zrow [.slice none 0 0] 1).toArray [(0, Value.agg #[.slice A n c])] = some #[.slice A n c] := by rfl
theorem PositionOfBeat_i {M : Mem} {A : Option Addr} {n c : Nat} {l : List Tempo} (b : Frac) (h : Sl tempoR M A n l) (hn : n ≤ 1099511627776) :
    Det Try.prog M.length 139 [.agg #[.slice A n c], b.v] M (.tuple #[(posB l b).1.v, iv (posB l b).2]) M := by
  refine Ctr.pure ?_ rfl
  first | (refine ctr_fn Try.func139 rfl Try.ntmps139 Try.results139 rfl rfl (by simp) ?_) | (refine ctr_fnC Try.func139 rfl Try.ntmps139 Try.results139 rfl (by simp) ?_)
  simp [box_fill]
  refine awCall_det' (beatCode_i (c := c) b (h.app _) hn (by simp) (by simp [rowEsz])) (by simp) ?_
  by_cases h0 : askC l b = 0
  case neg =>
    have e : posB l b = (⟨0, 0⟩, askC l b) := by unfold posB; rw [if_neg h0]
    simp [h0, e, fr_build0, keeps_app]
  obtain ⟨hT, hB⟩ := askC_zero.1 h0
  have hf : ∀ i, i < l.length → fracB (el l i).beat = true := fun i hi => (beatB_iff.1 (tempoB_iff.1 ((tempA_iff.1 (tempB_iff.1 hT).1).2.1 i hi)).1).1
  simp [h0]
  refine awCall_det' (position_i (c := c) b (h.app _) hn (beatB_iff.1 hB).1 hf) (by simp) ?_
  rcases posB_eq h0 with ⟨h1, e⟩ | ⟨h1, e⟩
  · simp [h1, e, fr_build0, keeps_app]
  · simp [h1, e, fr_build0, keeps_app]
theorem SampleOfBeat_i {M : Mem} {A : Option Addr} {n c : Nat} {l : List Tempo} (b : Frac) (h : Sl tempoR M A n l) (hn : n ≤ 1099511627776) :
    Det Try.prog M.length 103 [.agg #[.slice A n c], b.v] M (.tuple #[iv (sampB l b).1, iv (sampB l b).2]) M := by
  first | (refine det_fn Try.func103 rfl Try.ntmps103 Try.results103 rfl rfl rfl (by simp) ?_) | (refine det_fnC Try.func103 rfl Try.ntmps103 Try.results103 rfl rfl (by simp) ?_)
  simp
  refine awCall_det' (PositionOfBeat_i (c := c) b (h.app _) hn) (by simp) ?_
  simp
  refine awCall_det' (FloorFrac_i (posB l b).1) (by simp) ?_
  by_cases h0 : (posB l b).2 = 0
  · have hf := posB_ok h0
    simp [sampB, h0, floorF, hf, keeps_app]
  · have e : (posB l b).1 = ⟨0, 0⟩ := by
      unfold posB at h0 ⊢
      split
      · rename_i h1
        rw [if_pos h1] at h0
        split
        · rename_i h2
          rw [if_pos h2] at h0
          exact absurd h2 h0
        · rfl
      · rfl
    simp [sampB, h0, e, keeps_app]
    decide
end Go.Proofs.Ytgaiejaegimilaa

namespace Go.Proofs.Ytgaiejaegimilaa
open Go.RowKit
set_option linter.unusedVariables false
set_option linter.unusedSimpArgs false
set_option maxRecDepth 100000
attribute [local simp] List.getElem?_cons_zero
attribute [local irreducible] awCond awCall awLoop awDraw ow retQ retC resQ Keeps
structure Gate where
  (o s e k u : Int)
deriving Inhabited, DecidableEq
def Gate.row (c : Gate) : List Value := [iv c.o, iv c.s, iv c.e, iv c.k, iv c.u]
def gateR : RecV Gate 5 := ⟨Gate.row, fun _ => rfl⟩
abbrev Gate.v (c : Gate) : Value := .agg #[iv c.o, iv c.s, iv c.e, iv c.k, iv c.u]
theorem gate_cells {M : Mem} {id off : Nat} {g : Gate} (h : Cl M id off g.row) : cellAt M id off = some (iv g.o) ∧ cellAt M id (off + 1) = some (iv g.s) ∧ cellAt M id (off + 2) = some (iv g.e) ∧ cellAt M id (off + 3) = some (iv g.k) ∧ cellAt M id (off + 4) = some (iv g.u) :=
  ⟨h 0 _ rfl, h 1 _ rfl, h 2 _ rfl, h 3 _ rfl, h 4 _ rfl⟩
theorem gate_load {M : Mem} {id off : Nat} {g : Gate} (h : Cl M id off g.row) : cellsAt M id off 5 = some [iv g.o, iv g.s, iv g.e, iv g.k, iv g.u] := cellsAt_of h rfl (by omega)
theorem gate_eq {a b : Gate} : a = b ↔ a.o = b.o ∧ a.s = b.s ∧ a.e = b.e ∧ a.k = b.k ∧ a.u = b.u := by
  cases a; cases b; simp
def gateI : Ints gateR := ⟨fun zs => ⟨gi zs 0, gi zs 1, gi zs 2, gi zs 3, gi zs 4⟩, fun zs h => by
  obtain ⟨x0, x1, x2, x3, x4, rfl⟩ : ∃ x0 x1 x2 x3 x4, zs = [x0, x1, x2, x3, x4] := by
    match zs, h with
    | [x0, x1, x2, x3, x4], _ => exact ⟨x0, x1, x2, x3, x4, rfl⟩
  rfl⟩

/-- Equality of records, as the language has it. -/
theorem gate_same (a b : Gate) : aggEq Try.prog 65 #[iv a.o, iv a.s, iv a.e, iv a.k, iv a.u] #[iv b.o, iv b.s, iv b.e, iv b.k, iv b.u] = some (decide (a = b)) := by
  refine aggEq_of (by kernel_rfl) rfl rfl fun w => ?_
  unfold Op.equal
  rw [show Op.maxDepth = 9999 + 1 from rfl]
  rw [run_equalIn_agg _ _ _ _ _ Try.underlying65 (by kernel_rfl)]
  simp [go_sem]
  repeat' split
  all_goals simp_all [gate_eq]
theorem gate_eql (a b : Gate) : binV Try.prog .eql 65 (.agg #[iv a.o, iv a.s, iv a.e, iv a.k, iv a.u]) (.agg #[iv b.o, iv b.s, iv b.e, iv b.k, iv b.u]) = some (.bool (decide (a = b))) := by
  simp only [binV, eqV, Try.underlying65, gate_same, Option.map_some]
theorem gate_neq (a b : Gate) : binV Try.prog .neq 65 (.agg #[iv a.o, iv a.s, iv a.e, iv a.k, iv a.u]) (.agg #[iv b.o, iv b.s, iv b.e, iv b.k, iv b.u]) = some (.bool (!decide (a = b))) := by
  simp only [binV, eqV, Try.underlying65, gate_same, Option.map_some]
@[simp] theorem gate_fill (x0 x1 x2 x3 x4 : Int) : Instr.fill (fun i => some (i * 5, 5)) (zrow [iv 0, iv 0, iv 0, iv 0, iv 0] 1).toArray [(0, .agg #[iv x0, iv x1, iv x2, iv x3, iv x4])] = some #[iv x0, iv x1, iv x2, iv x3, iv x4] := fill_agg (by omega) rfl rfl
theorem eqGate_a {M : Mem} (a b : Gate) : Det Try.prog M.length 59 [a.v, b.v] M (.bool (decide (a = b))) M := by
  first | (refine det_fn Try.func59 rfl Try.ntmps59 Try.results59 rfl rfl rfl (by simp) ?_) | (refine det_fnC Try.func59 rfl Try.ntmps59 Try.results59 rfl rfl (by simp) ?_)
  simp
  repeat' (first | (refine awCond_split ?_ ?_ <;> intro _) | (simp [keeps_app]))
  all_goals (simp_all [gate_eq])
theorem eqGateS_a {M : Mem} {A B : Option Addr} {n c m d : Nat} {x y : List Gate} (hx : Sl gateR M A n x) (hy : Sl gateR M B m y) (hn : n ≤ 1099511627776) : Det Try.prog M.length 19 [.slice A n c, .slice B m d] M (.bool (decide (x = y))) M := by
  have hlx := hx.1
  have hly := hy.1
  first | (refine det_fn Try.func19 rfl Try.ntmps19 Try.results19 rfl rfl rfl (by simp) ?_) | (refine det_fnC Try.func19 rfl Try.ntmps19 Try.results19 rfl rfl (by simp) ?_)
  simp
  refine awCond_split ?_ ?_ <;> intro hnm
  · simp at hnm
    simp
    exact ⟨fun e => by subst e; omega, Keeps.refl _⟩
  · simp at hnm
    obtain rfl : n = m := by omega
    simp
    refine awLoop_T (fun m T M' => ∃ k : Nat, k + m = n ∧ M' = M ∧ look T 5 = some (iv k) ∧ look T 0 = some (.slice A n c) ∧ look T 1 = some (.slice B n d) ∧ x.take k = y.take k) n ⟨0, by omega, rfl, by simp, by simp, by simp, by simp⟩ ?_
    rintro m T M' ⟨k, hm, rfl, h4, h0, h1, hk⟩
    by_cases hlt : k < n
    · obtain ⟨id, off, rfl, he, hc⟩ := hx.at_ hlt
      obtain ⟨id', off', rfl, he', hc'⟩ := hy.at_ hlt
      simp (disch := omega) [h4, h0, h1, hlt, wrap_in]
      refine awDraw_E 8 [[],[],[0,1],[2,0,1],[],[],[4,5],[6,4,5],[3,2,0,1,7,6,4,5],[8,3,2,0,1,7,6,4,5]] (by kernel_rfl) (by kernel_rfl) ?_
      simp (disch := omega) [h4, h0, h1, hlt, wrap_in, gate_load hc, gate_load hc']
      refine awCall_det' (eqGate_a (el x k) (el y k)) (Nat.le_refl _) ?_
      simp
      refine awCond_split ?_ ?_ <;> intro he
      · simp at he
        simp
        exact ⟨fun e => he (by rw [e]), Keeps.refl _⟩
      · simp at he
        simp (disch := omega) [h4, h0, h1, wrap_in]
        refine lpI (m - 1) (by omega) ?_
        exact ⟨k + 1, by omega, rfl, by simp, by simp [h0], by simp [h1], by rw [take_el (by omega), take_el (by omega), hk, he]⟩
    · obtain rfl : k = n := by omega
      rw [List.take_of_length_le (by omega), List.take_of_length_le (by omega)] at hk
      simp [h4, h0, h1, hk, Keeps.refl]
def markGate (z : Int) (i : Nat) : Gate := ⟨z + i * 5, z + i * 5 + 1, z + i * 5 + 1 + 1, z + i * 5 + 1 + 1 + 1, z + i * 5 + 1 + 1 + 1 + 1⟩
def markGateL (z : Int) (n : Nat) : List Gate := (List.range n).map (markGate z)
theorem markGateL_succ (z : Int) (n : Nat) : markGateL z (n + 1) = markGateL z n ++ [markGate z n] := by simp [markGateL, List.range_succ]
theorem markGateS_a {M : Mem} {b : Nat} {A : Option Addr} {n c : Nat} {x : List Gate} (z : Int) (hx : Sl gateR M A n x) (ho : Ownd M A n) (hb : ∀ a, A = some a → 0 < n → b ≤ a.block) (hn : n ≤ 1099511627776) (hz0 : 0 ≤ z) (hz : z ≤ 1152921504606846976) :
    Ctr Try.prog b 23 [.slice A n c, iv z] M fun v M' => v = iv (z + n * 5) ∧ Sl gateR M' A n (markGateL z n) ∧ Ownd M' A n ∧ Turned A n M M' := by
  have hlx := hx.1
  rcases Nat.eq_zero_or_pos n with rfl | hp
  · first | (refine ctr_fn Try.func23 rfl Try.ntmps23 Try.results23 rfl rfl (by simp) ?_) | (refine ctr_fnC Try.func23 rfl Try.ntmps23 Try.results23 rfl (by simp) ?_)
    simp
    refine awLoop_T (fun m T M' => M' = M ∧ look T 1 = some (iv z) ∧ look T 5 = some (iv 0) ∧ look T 0 = some (.slice A 0 c)) 0 ⟨rfl, by simp, by simp, by simp⟩ ?_
    rintro m T M' ⟨rfl, h1, h3, h0⟩
    simp [h1, h3, h0]
    obtain rfl := List.eq_nil_of_length_eq_zero hlx
    exact ⟨hx, ho, rfl, fun i s hs _ => hs⟩
  · obtain ⟨id, off, r, rfl, hr, ho⟩ := ho hp
    have hid := (List.getElem?_eq_some_iff.1 hr).1
    obtain ⟨hz5, hlen⟩ := hx.cells hr hp (by omega)
    have hb' : b ≤ id := hb _ rfl hp
    obtain ⟨cs, own, t, e, esz⟩ := r
    simp only at hz5 hlen ho
    subst hz5 ho
    have hM : M = M.set id (.live ⟨cs.take off ++ cellsL gateR (markGateL z 0) ++ cs.drop (off + 0 * 5), true, t, e, 5⟩) := by
      rw [set_self]
      simp [markGateL, cellsL_nil, hr]
    first | (refine ctr_fn Try.func23 rfl Try.ntmps23 Try.results23 rfl rfl (by simp) ?_) | (refine ctr_fnC Try.func23 rfl Try.ntmps23 Try.results23 rfl (by simp) ?_)
    simp
    refine awLoop_T (fun m T M' => ∃ j : Nat, j + m = n ∧ M' = M.set id (.live ⟨cs.take off ++ cellsL gateR (markGateL z j) ++ cs.drop (off + j * 5), true, t, e, 5⟩) ∧ look T 5 = some (iv j) ∧ look T 1 = some (iv (z + j * 5)) ∧ look T 0 = some (.slice (some ⟨id, off, none⟩) n c)) n ⟨0, by omega, hM, by simp, by simp, by simp⟩ ?_
    rintro m T M' ⟨j, hm, rfl, h5, h1, h0⟩
    have hlm : (markGateL z j).length = j := by simp [markGateL]
    by_cases hlt : j < n
    · have hsp := splice_mid gateR (cs := cs) (off := off) (a := markGate z j) hlm (by omega)
      have hlc : (cs.take off ++ cellsL gateR (markGateL z j) ++ cs.drop (off + j * 5)).length = cs.length := by
        simp only [List.length_append, List.length_take, List.length_drop, cellsL_len, hlm]; omega
      generalize cs.take off ++ cellsL gateR (markGateL z j) ++ cs.drop (off + j * 5) = Cs at hsp hlc ⊢
      simp (disch := first | omega | (simp <;> omega)) [h5, h1, h0, hlt, wrap_in, rowEsz_set hid, put_set hid hb']
      refine lpI (m - 1) (by omega) ?_
      refine ⟨j + 1, by omega, ?_, by simp, by simp; omega, by simp [h0]⟩
      rw [markGateL_succ, ← hsp]
      rfl
    · obtain rfl : j = n := by omega
      have hS := Sl.set (R := gateR) (M := M) (pre := cs.take off) (post := cs.drop (off + j * 5)) (o := true) (t := t) (e := e) hid (List.length_take_of_le (by omega)) hlm
      have hO : Ownd (M.set id (.live ⟨cs.take off ++ cellsL gateR (markGateL z j) ++ cs.drop (off + j * 5), true, t, e, 5⟩)) (some ⟨id, off, none⟩) j := fun _ => ⟨_, _, _, rfl, List.getElem?_set_self hid, rfl⟩
      have hT : Turned (some ⟨id, off, none⟩) j M (M.set id (.live ⟨cs.take off ++ cellsL gateR (markGateL z j) ++ cs.drop (off + j * 5), true, t, e, 5⟩)) := set_turned hp
      generalize M.set id (.live ⟨cs.take off ++ cellsL gateR (markGateL z j) ++ cs.drop (off + j * 5), true, t, e, 5⟩) = M' at hS hO hT ⊢
      simp [h5, h1, h0]
      exact ⟨hS, hO, hT⟩
theorem heldGateS_a {M : Mem} {A : Option Addr} {n c : Nat} (z : Int) (hx : Sl gateR M A n (markGateL z n)) (hn : n ≤ 1099511627776) (hz0 : 0 ≤ z) (hz : z ≤ 1152921504606846976) :
    Det Try.prog M.length 24 [.slice A n c, iv z] M (iv (z + n * 5)) M := by
  first | (refine det_fn Try.func24 rfl Try.ntmps24 Try.results24 rfl rfl rfl (by simp) ?_) | (refine det_fnC Try.func24 rfl Try.ntmps24 Try.results24 rfl rfl (by simp) ?_)
  simp
  refine awLoop_T (fun m T M' => ∃ j : Nat, j + m = n ∧ M' = M ∧ look T 5 = some (iv j) ∧ look T 1 = some (iv (z + j * 5)) ∧ look T 0 = some (.slice A n c)) n ⟨0, by omega, rfl, by simp, by simp, by simp⟩ ?_
  rintro m T M' ⟨j, hm, rfl, h5, h1, h0⟩
  by_cases hlt : j < n
  · obtain ⟨id, off, rfl, he, hc⟩ := hx.at_ hlt
    rw [show el (markGateL z n) j = markGate z j by simp [markGateL, el, hlt]] at hc
    obtain ⟨c0, c1, c2, c3, c4⟩ := gate_cells hc
    simp (disch := omega) [h5, h1, h0, hlt, wrap_in, c0, c1, c2, c3, c4, markGate]
    refine lpI (m - 1) (by omega) ?_
    exact ⟨j + 1, by omega, rfl, by simp, by simp; omega, by simp [h0]⟩
  · obtain rfl : j = n := by omega
    simp [h5, h1, h0, Keeps.refl]
/-! The same, as the laws use them. -/
theorem eq_GateS {M : Mem} {v w : Value} {lo hi lo' hi' : Nat} {x y : List Gate} (hx : OwL gateR lo hi M v x) (hy : RdL gateR lo' hi' M w y) : Det Try.prog M.length 19 [v, w] M (.bool (decide (x = y))) M := by
  obtain ⟨A, n, c, rfl, hn, hS, _⟩ := hx
  obtain ⟨B, m, d, rfl, hm, hT, _⟩ := hy
  exact eqGateS_a hS hT hn
theorem mark_GateS {M : Mem} {b : Nat} {v : Value} {lo hi : Nat} {l : List Gate} {z : Int} (h : OwL gateR lo hi M v l) (hb : b ≤ lo) (hz : 0 ≤ z) (hz1 : z ≤ 1152921504606846976) :
    Ctr Try.prog b 23 [v, iv z] M fun r M' => r = iv (z + l.length * 5) ∧ OwL gateR lo hi M' v (markGateL z l.length) ∧ Turn lo hi M M' := by
  obtain ⟨A, n, c, rfl, hn, hS, hi', ho⟩ := h
  exact (markGateS_a z hS ho (fun a e hp => by have := hi' a e hp; omega) hn hz hz1).mono fun r M' ⟨h1, h2, h3, h4⟩ => ⟨by rw [h1, hS.1], ⟨A, n, c, rfl, hn, by rw [hS.1]; exact h2, hi', h3⟩, Nat.le_of_eq h4.1.symm, fun i s hs hd => h4.2 i s hs fun a e hp => by have := hi' a e hp; omega⟩
theorem held_GateS {M : Mem} {v : Value} {lo hi m : Nat} {z : Int} (h : OwL gateR lo hi M v (markGateL z m)) (hz : 0 ≤ z) (hz1 : z ≤ 1152921504606846976) : Det Try.prog M.length 24 [v, iv z] M (iv (z + m * 5)) M := by
  obtain ⟨A, n, c, rfl, hn, hS, _⟩ := h
  have hm : m = n := by have := hS.1; simpa [markGateL] using this
  subst hm
  exact heldGateS_a z hS hn hz hz1
end Go.Proofs.Ytgaiejaegimilaa

namespace Go.Proofs.Ytgaiejaegimilaa
open Go.RowKit
set_option linter.unusedVariables false
set_option linter.unusedSimpArgs false
set_option maxRecDepth 100000
attribute [local simp] List.getElem?_cons_zero
attribute [local irreducible] awCond awCall awLoop awDraw ow retQ retC resQ Keeps
def noteG (t : List Tempo) (n : Note) : Gate := ⟨0, (sampB t n.at_).1, (sampB t n.fin).1, n.k, n.u⟩
def badG (t : List Tempo) (n : Note) : Bool := decide ((sampB t n.at_).2 ≠ 0) || decide ((sampB t n.fin).2 ≠ 0) || decide (4000 < (sampB t n.fin).1)
def longG (t : List Tempo) (n : Note) : Bool := decide ((sampB t n.at_).1 < (sampB t n.fin).1)
def gatesF (t : List Tempo) (l : List Note) : List Gate := (l.filter (longG t)).map (noteG t)
def gatesV (l : List Note) (t : List Tempo) : List Gate × Int := if scoreB l = true ∧ tempB t = true then (if l.any (badG t) = true then ([], 2) else (gatesF t l, 0)) else ([], 1)
theorem gatesF_len (t : List Tempo) (l : List Note) : (gatesF t l).length ≤ l.length := by
  unfold gatesF
  rw [List.length_map]
  exact List.length_filter_le _ _
theorem gatesF_take {t : List Tempo} {l : List Note} {k : Nat} (hk : k < l.length) : gatesF t (l.take (k + 1)) = gatesF t (l.take k) ++ if longG t (el l k) = true then [noteG t (el l k)] else [] := by
  rw [take_el hk]
  unfold gatesF
  rw [List.filter_append, List.map_append]
  by_cases h : longG t (el l k) = true
  · simp [h]
  · simp [h]
theorem any_el {l : List Note} {p : Note → Bool} {k : Nat} (hk : k < l.length) (h : p (el l k) = true) : l.any p = true := List.any_eq_true.2 ⟨_, el_mem hk, h⟩
theorem any_no {l : List Note} {p : Note → Bool} (h : ∀ i, i < l.length → p (el l i) = false) : l.any p = false := by
  rw [List.any_eq_false]
  intro x hx
  obtain ⟨i, hi, rfl⟩ := List.getElem_of_mem hx
  rw [el_eq hi, h i hi]
  simp
def GatesR (M : Mem) (w : List Gate × Int) (r : Value) (M' : Mem) : Prop := ∃ v0, r = .tuple #[v0, iv w.2] ∧ OwL gateR M.length M'.length M' v0 w.1 ∧ Keeps M M'
theorem GatesR.no {M M' : Mem} {e : Int} (h : Keeps M M') : GatesR M ([], e) (.tuple #[.slice none 0 0, iv e]) M' := ⟨_, rfl, OwL.nil, h⟩
def gF (t : List Tempo) (l : List Note) : List Gate × Int := if l.any (badG t) = true then ([], 2) else (gatesF t l, 0)
theorem gate_build (x0 x1 x2 x3 x4 : Int) : Instr.fill (fun x => [(0, 1), (1, 1), (2, 1), (3, 1), (4, 1)][x]?) #[iv 0, iv 0, iv 0, iv 0, iv 0] [(0, iv x0), (1, iv x1), (2, iv x2), (3, iv x3), (4, iv x4)] = some #[iv x0, iv x1, iv x2, iv x3, iv x4] := by rfl
theorem gate_build4 (x1 x2 x3 x4 : Int) : Instr.fill (fun x => [(0, 1), (1, 1), (2, 1), (3, 1), (4, 1)][x]?) #[iv 0, iv 0, iv 0, iv 0, iv 0] [(1, iv x1), (2, iv x2), (3, iv x3), (4, iv x4)] = some #[iv 0, iv x1, iv x2, iv x3, iv x4] := by rfl
set_option maxHeartbeats 2000000 in
theorem gatesOf_i {M : Mem} {A A2 : Option Addr} {n c n2 c2 : Nat} {l : List Note} {t : List Tempo} (h : Sl noteR M A n l) (hn : n ≤ 1048576) (ht : Sl tempoR M A2 n2 t) (hn2 : n2 ≤ 1048576) :
    Ctr Try.prog M.length 58 [.agg #[.slice A n c], .agg #[.slice A2 n2 c2]] M (GatesR M (gF t l)) := by
  have hl := h.1
  first | (refine ctr_fn Try.func58 rfl Try.ntmps58 Try.results58 rfl rfl (by simp) ?_) | (refine ctr_fnC Try.func58 rfl Try.ntmps58 Try.results58 rfl (by simp) ?_)
  simp
  obtain ⟨M0, hM0⟩ : ∃ M0 : Mem, M0 = M ++ [.live ⟨[.slice A n c], true, true, 30, 1⟩, .live ⟨[.slice A2 n2 c2], true, true, 43, 1⟩] := ⟨_, rfl⟩
  have hML : M0.length = M.length + 2 := by rw [hM0]; simp
  have hMk : Keeps M M0 := by rw [hM0]; exact keeps_app _
  have hMb : cellsAt M0 (M.length + 1) 0 1 = some [.slice A2 n2 c2] := by rw [hM0]; simp
  have h0 := h.keeps hMk
  refine awLoop_T (fun m T M' => ∃ (k : Nat) (u : Value), k + m = n ∧ Keeps M0 M' ∧ Acc gateR 65 M0.length M' u (gatesF t (l.take k)) ∧ (∀ i, i < k → badG t (el l i) = false) ∧ look T 17 = some (iv k) ∧ look T 16 = some (iv n) ∧ look T 15 = some (.slice A n c) ∧ look T 6 = some u ∧ look T 3 = some (.pointer (some ⟨M.length + 1, 0, none⟩))) n
    ⟨0, .slice (some ⟨M0.length, 0, none⟩) 0 0, by omega, ?_, ?_, fun i hi => by omega, by simp, by simp, by simp, by simp [hML], by simp⟩ ?_
  · rw [hM0]
    have := keeps_app (M := M ++ [.live ⟨[.slice A n c], true, true, 30, 1⟩, .live ⟨[.slice A2 n2 c2], true, true, 43, 1⟩]) [.live ⟨[], true, true, 65, 5⟩]
    simpa using this
  · refine ⟨_, _, _, rfl, rfl, .inr ⟨M0.length, true, rfl, Nat.le_refl _, ?_⟩⟩
    rw [hML]
    simp [gatesF, cellsL_nil]
  rintro m T M1 ⟨k, u, hm, hK, hA, hb, t17, t16, t15, t6, t3⟩
  have hKl := hK.len
  by_cases hlt : k < n
  · obtain ⟨id, off, rfl, he, hc⟩ := (h0.keeps hK).at_ hlt
    have hld := note_load hc
    simp (disch := omega) [t17, t16, t15, t6, t3, hlt, he, hld, cellsAt_app (cellsAt_keeps hK hMb)]
    have htk := fun L => (ht.keeps (hMk.trans hK)).app L
    refine awCall_det' (SampleOfBeat_i (c := c2) (el l k).at_ (htk _) (by omega)) (by simp; omega) ?_
    simp (disch := omega)
    refine awDraw_E 8 [[],[],[1],[0,2,1],[3,0,2,1],[4,3,0,2,1],[4,3,0,2,1],[5,4,3,0,2,1],[6,4,3,0,2,1,7,5]] (by kernel_rfl) (by kernel_rfl) ?_
    simp (disch := omega) [t17, t16, t15, t6, t3, cellsAt_app (cellsAt_keeps hK hMb)]
    refine awCall_det' (end_i (el l k)) (by simp) ?_
    simp (disch := omega)
    refine awCall_det' (SampleOfBeat_i (c := c2) (el l k).fin (htk _) (by omega)) (by simp) ?_
    have hbad : badG t (el l k) = true → gF t l = ([], 2) := fun h => by unfold gF; rw [if_pos (any_el (by omega) h)]
    have hno : ∀ M', Keeps M M' → badG t (el l k) = true → GatesR M (gF t l) (.tuple #[.slice none 0 0, iv 2]) M' := fun M' hk h => by rw [hbad h]; exact GatesR.no hk
    have hkk := hMk.trans hK
    by_cases f1 : (sampB t (el l k).at_).2 = 0
    case neg =>
      simp (disch := omega) [f1]
      exact hno _ (hkk.app _) (by simp [badG, f1])
    by_cases f2 : (sampB t (el l k).fin).2 = 0
    case neg =>
      simp (disch := omega) [f1, f2]
      exact hno _ (hkk.app _) (by simp [badG, f2])
    by_cases f3 : 4000 < (sampB t (el l k).fin).1
    case pos =>
      simp (disch := omega) [f1, f2, f3]
      exact hno _ (hkk.app _) (by simp [badG, f3])
    have hg : badG t (el l k) = false := by simp [badG, f1, f2, f3]
    have htake := gatesF_take (t := t) (l := l) (k := k) (by omega)
    by_cases f4 : (sampB t (el l k).at_).1 < (sampB t (el l k).fin).1
    · rw [if_pos (by simp [longG, f4])] at htake
      simp (disch := omega) [f1, f2, f3, f4, t17, t6, gate_build]
      have hle := gatesF_len t (l.take k)
      rw [List.length_take] at hle
      refine Acc.append (R := gateR) (e := 65) (by_ := 40) (a := noteG t (el l k)) (hA.keeps (keeps_app _)) (by omega) (by simp; omega) (by omega) (by simp) (by kernel_rfl) (by simp [srcOf, gateR, Gate.row, noteG]) (by rfl) (by omega) (by unfold maxLen; omega) ?_
      intro v' M2 hA2 hS
      try simp (disch := omega) [t17, wrap_in]
      refine lpI (m - 1) (by omega) ⟨k + 1, v', by omega, hS.keeps (hK.app _) (Nat.le_refl _), by rw [htake]; exact hA2, ?_, by simp, by simp [t16], by simp [t15], by simp, by simp [t3]⟩
      intro i hi
      by_cases hik : i = k
      · rw [hik]; exact hg
      · exact hb i (by omega)
    · rw [if_neg (by simp [longG, f4]), List.append_nil] at htake
      simp (disch := omega) [f1, f2, f3, f4, t17, t6, wrap_in]
      refine lpI (m - 1) (by omega) ⟨k + 1, u, by omega, hK.app _, by rw [htake]; exact hA.keeps (keeps_app _), ?_, by simp, by simp [t16], by simp [t15], by simp [t6], by simp [t3]⟩
      intro i hi
      by_cases hik : i = k
      · rw [hik]; exact hg
      · exact hb i (by omega)
  · obtain rfl : k = n := by omega
    rw [List.take_of_length_le (by omega)] at hA
    simp [t17, t16, t15, t6]
    have e : gF t l = (gatesF t l, 0) := by unfold gF; rw [if_neg (by rw [any_no (fun i hi => hb i (by omega))]; simp)]
    have hf := (hA.low (B' := M.length) (by omega)).fresh (by have := gatesF_len t l; omega) (hMk.trans hK)
    rw [e]
    exact ⟨u, rfl, hf.ow.1, hf.ow.2⟩
theorem gatesV_ok {l : List Note} {t : List Tempo} (h1 : scoreB l = true) (h2 : tempB t = true) : gatesV l t = gF t l := by unfold gatesV gF; rw [if_pos ⟨h1, h2⟩]
theorem gatesV_no {l : List Note} {t : List Tempo} (h : scoreB l = true → tempB t = true → False) : gatesV l t = ([], 1) := by unfold gatesV; rw [if_neg (fun hh => h hh.1 hh.2)]
theorem GatesOfScore_i {M : Mem} {A A2 : Option Addr} {n c n2 c2 : Nat} {l : List Note} {t : List Tempo} (h : Sl noteR M A n l) (hn : n ≤ 1048576) (ht : Sl tempoR M A2 n2 t) (hn2 : n2 ≤ 1048576) :
    Ctr Try.prog M.length 18 [.agg #[.slice A n c], .agg #[.slice A2 n2 c2]] M (GatesR M (gatesV l t)) := by
  first | (refine ctr_fn Try.func18 rfl Try.ntmps18 Try.results18 rfl rfl (by simp) ?_) | (refine ctr_fnC Try.func18 rfl Try.ntmps18 Try.results18 rfl (by simp) ?_)
  simp
  refine awCall_det' (isScore_i (c := c) (h.app _) (by omega)) (by simp) ?_
  by_cases h1 : scoreB l = true
  case neg =>
    rw [gatesV_no (fun hh _ => h1 hh)]
    simp [h1]
    exact GatesR.no (keeps_app _)
  simp [h1]
  refine awCall_det' (isTempos_i (c := c2) (ht.app _) (by omega)) (by simp) ?_
  by_cases h2 : tempB t = true
  case neg =>
    rw [gatesV_no (fun _ hh => h2 hh)]
    simp [h2]
    exact GatesR.no (keeps_app _)
  rw [gatesV_ok h1 h2]
  simp [h2]
  refine awCall_ctr ((gatesOf_i (c := c) (c2 := c2) (h.app _) hn (ht.app _) hn2).weaken (by simp)) ?_
  rintro _ M1 ⟨v0, rfl, ho, hk⟩
  simp
  exact ⟨v0, rfl, ho.wide (by simp) (Nat.le_refl _), (keeps_app _).trans hk⟩
set_option maxHeartbeats 2000000 in
theorem GatesOfScore_s {M : Mem} {A A2 : Option Addr} {n c n2 c2 : Nat} {l : List Note} {t : List Tempo} (h : Sl noteR M A n l) (hn : n ≤ 1048576) (ht : Sl tempoR M A2 n2 t) (hn2 : n2 ≤ 1048576) :
    Ctr Try.prog M.length 16 [.agg #[.slice A n c], .agg #[.slice A2 n2 c2]] M (GatesR M (gatesV l t)) := by
  have hl := h.1
  first | (refine ctr_fn Try.func16 rfl Try.ntmps16 Try.results16 rfl rfl (by simp) ?_) | (refine ctr_fnC Try.func16 rfl Try.ntmps16 Try.results16 rfl (by simp) ?_)
  simp
  refine awCall_det' (l18Ok_a (c := c) (h.app _) (by simp) (by omega)) (by simp) ?_
  by_cases h1 : scoreB l = true
  case neg =>
    rw [gatesV_no (fun hh _ => h1 hh)]
    simp [h1]
    exact GatesR.no (keeps_app _)
  simp [h1]
  refine awCall_det' (l17Ok_a (c := c2) (ht.app _) (by simp) (by omega)) (by simp) ?_
  by_cases h2 : tempB t = true
  case neg =>
    rw [gatesV_no (fun _ hh => h2 hh)]
    simp [h2]
    exact GatesR.no (keeps_app _)
  rw [gatesV_ok h1 h2]
  simp [h2]
  obtain ⟨M0, hM0⟩ : ∃ M0 : Mem, M0 = M ++ [.live ⟨[.slice A n c], true, true, 30, 1⟩, .live ⟨[.slice A2 n2 c2], true, true, 43, 1⟩] := ⟨_, rfl⟩
  have hML : M0.length = M.length + 2 := by rw [hM0]; simp
  have hMk : Keeps M M0 := by rw [hM0]; exact keeps_app _
  have hMb : cellsAt M0 (M.length + 1) 0 1 = some [.slice A2 n2 c2] := by rw [hM0]; simp
  have hMs : cellAt M0 M.length 0 = some (.slice A n c) := by rw [hM0]; simp
  have h0 := h.keeps hMk
  refine awLoop_T (fun m T M' => ∃ (k : Nat) (u : Value), k + m = n ∧ Keeps M0 M' ∧ Acc gateR 65 M0.length M' u (gatesF t (l.take k)) ∧ (∀ i, i < k → badG t (el l i) = false) ∧ look T 7 = some (iv k) ∧ look T 6 = some u ∧ look T 3 = some (.pointer (some ⟨M.length + 1, 0, none⟩)) ∧ look T 2 = some (.pointer (some ⟨M.length, 0, none⟩))) n
    ⟨0, .slice (some ⟨M0.length, 0, none⟩) 0 0, by omega, ?_, ?_, fun i hi => by omega, by simp, by simp [hML], by simp, by simp⟩ ?_
  · rw [hM0]
    have := keeps_app (M := M ++ [.live ⟨[.slice A n c], true, true, 30, 1⟩, .live ⟨[.slice A2 n2 c2], true, true, 43, 1⟩]) [.live ⟨[], true, true, 65, 5⟩]
    simpa using this
  · refine ⟨_, _, _, rfl, rfl, .inr ⟨M0.length, true, rfl, Nat.le_refl _, ?_⟩⟩
    rw [hML]
    simp [gatesF, cellsL_nil]
  rintro m T M1 ⟨k, u, hm, hK, hA, hb, t7, t6, t3, t2⟩
  have hKl := hK.len
  have hr1 := cellAt_keeps hK hMs
  by_cases hlt : k < n
  · obtain ⟨id, off, rfl, he, hc⟩ := (h0.keeps hK).at_ hlt
    obtain ⟨c0, c1, c2', c3, c4, c5, c6⟩ := note_cells hc
    obtain ⟨g0, g2⟩ := note_cellsN hc
    simp (disch := omega) [t7, t6, t3, t2, hlt, he, hr1]
    refine awDraw_M 13 [[],[0],[1,0],[2,1,0],[],[4],[5,4],[6,5,4],[3,2,1,0,7,6,5,4],[8,3,2,1,0,7,6,5,4],[9,8,3,2,1,0,7,6,5,4],[9,8,3,2,1,0,7,6,5,4],[],[12,10,9,8,3,2,1,0,7,6,5,4],[11,9,8,3,2,1,0,7,6,5,4,13,12,10]] [11] (by kernel_rfl) (by decide +kernel) (by decide +kernel) ?_
    simp (disch := omega) [t7, t6, t3, t2, g0, g2]
    refine awCall_det' (AddFrac_s (el l k).at_ (el l k).len) (by omega) ?_
    have hfin : (addF (el l k).at_ (el l k).len).1 = (el l k).fin := rfl
    rw [hfin]
    simp (disch := omega) [t7, t6, t3, t2]
    refine awDraw_E 10 [[],[],[1],[2,1],[3,2,1],[0,4,3,2,1],[5,0,4,3,2,1],[6,5,0,4,3,2,1],[6,5,0,4,3,2,1],[7,6,5,0,4,3,2,1],[8,6,5,0,4,3,2,1,9,7]] (by kernel_rfl) (by kernel_rfl) ?_
    have g0' := fun L => cellsAt_app g0 L
    have x3 := fun L => cellsAt_app (cellsAt_keeps hK hMb) L
    have htk := fun L => (ht.keeps (hMk.trans hK)).app L
    simp (disch := omega) [t7, t6, t3, t2, g0', x3]
    refine awCall_det' (SampleOfBeat_s (c := c2) (el l k).at_ (htk _) (by omega)) (by simp) ?_
    simp (disch := omega) [t7, t6, t3, t2, g0', x3]
    refine awCall_det' (SampleOfBeat_s (c := c2) (el l k).fin (htk _) (by omega)) (by simp <;> omega) ?_
    have hbad : badG t (el l k) = true → gF t l = ([], 2) := fun h => by unfold gF; rw [if_pos (any_el (by omega) h)]
    have hno : ∀ M', Keeps M M' → badG t (el l k) = true → GatesR M (gF t l) (.tuple #[.slice none 0 0, iv 2]) M' := fun M' hk h => by rw [hbad h]; exact GatesR.no hk
    have hkk := hMk.trans hK
    by_cases f1 : (sampB t (el l k).at_).2 = 0
    case neg =>
      simp (disch := omega) [f1]
      exact hno _ (hkk.app _) (by simp [badG, f1])
    by_cases f2 : (sampB t (el l k).fin).2 = 0
    case neg =>
      simp (disch := omega) [f1, f2]
      exact hno _ (hkk.app _) (by simp [badG, f2])
    by_cases f3 : 4000 < (sampB t (el l k).fin).1
    case pos =>
      simp (disch := omega) [f1, f2, f3]
      exact hno _ (hkk.app _) (by simp [badG, f3])
    have hg : badG t (el l k) = false := by simp [badG, f1, f2, f3]
    have htake := gatesF_take (t := t) (l := l) (k := k) (by omega)
    have hb' : ∀ i, i < k + 1 → badG t (el l i) = false := by
      intro i hi
      by_cases hik : i = k
      · rw [hik]; exact hg
      · exact hb i (by omega)
    by_cases f4 : (sampB t (el l k).at_).1 < (sampB t (el l k).fin).1
    · rw [if_pos (by simp [longG, f4])] at htake
      simp (disch := omega) [f1, f2, f3, f4]
      refine awDraw_D 13 [[],[],[],[],[3],[4,3],[5,4,3],[],[7],[8,7],[9,8,7],[1,2,6,5,4,3,10,9,8,7],[11,1,2,6,5,4,3,10,9,8,7],[0,12,11,1,2,6,5,4,3,10,9,8,7],[13,0,12,11,1,2,6,5,4,3,10,9,8,7]] (by kernel_rfl) (by decide +kernel) ?_
      simp (disch := omega) [f1, f2, f3, f4, t7, t6, c4, c5, cellAt_app c4, cellAt_app c5, gate_build4]
      have hle := gatesF_len t (l.take k)
      rw [List.length_take] at hle
      refine Acc.append (R := gateR) (e := 65) (by_ := 40) (a := noteG t (el l k)) (hA.keeps (keeps_app _)) (by omega) (by simp; omega) (by omega) (by simp) (by kernel_rfl) (by simp [srcOf, gateR, Gate.row, noteG]) (by rfl) (by omega) (by unfold maxLen; omega) ?_
      intro v' M2 hA2 hS
      try simp (disch := omega) [t7, wrap_in]
      exact lpI (m - 1) (by omega) ⟨k + 1, v', by omega, hS.keeps (hK.app _) (Nat.le_refl _), by rw [htake]; exact hA2, hb', by simp, by simp, by simp [t3], by simp [t2]⟩
    · rw [if_neg (by simp [longG, f4]), List.append_nil] at htake
      simp (disch := omega) [f1, f2, f3, f4, t7, t6, wrap_in]
      exact lpI (m - 1) (by omega) ⟨k + 1, u, by omega, hK.app _, by rw [htake]; exact hA.keeps (keeps_app _), hb', by simp, by simp [t6], by simp [t3], by simp [t2]⟩
  · obtain rfl : k = n := by omega
    rw [List.take_of_length_le (by omega)] at hA
    simp [t7, t6, t2, hr1]
    have e : gF t l = (gatesF t l, 0) := by unfold gF; rw [if_neg (by rw [any_no (fun i hi => hb i (by omega))]; simp)]
    have hf := (hA.low (B' := M.length) (by omega)).fresh (by have := gatesF_len t l; omega) (hMk.trans hK)
    rw [e]
    exact ⟨u, rfl, hf.ow.1, hf.ow.2⟩
end Go.Proofs.Ytgaiejaegimilaa

namespace Go.Proofs.Ytgaiejaegimilaa
open Go.RowKit
set_option linter.unusedVariables false
set_option linter.unusedSimpArgs false
set_option maxRecDepth 100000
attribute [local simp] List.getElem?_cons_zero
attribute [local irreducible] awCond awCall awLoop awDraw ow retQ retC resQ Keeps
def gateB (g : Gate) : Bool := inB g.o 0 3 && decide (0 ≤ g.s) && decide (g.s < g.e) && decide (g.e ≤ 4000) && inB g.k 0 127 && inB g.u 1 127
theorem l21Gate_a {M : Mem} {id off : Nat} {g : Gate} (h : Cl M id off g.row) : Det Try.prog M.length 111 [.pointer (some ⟨id, off, none⟩)] M (.bool (gateB g)) M := by
  obtain ⟨h0, h1, h2, h3, h4⟩ := gate_cells h
  first | (refine det_fn Try.func111 rfl Try.ntmps111 Try.results111 rfl rfl rfl (by simp) ?_) | (refine det_fnC Try.func111 rfl Try.ntmps111 Try.results111 rfl rfl (by simp) ?_)
  simp
  refine awDraw_E 21 [[],[0],[1,0],[2,1,0],[3,2,1,0],[4,3,2,1,0],[5,4,3,2,1,0],[6,5,4,3,2,1,0],[7,6,5,4,3,2,1,0],[8,7,6,5,4,3,2,1,0],[9,8,7,6,5,4,3,2,1,0],[5,4,3,2,1,0,10,9,8,7,6],[11,5,4,3,2,1,0,10,9,8,7,6],[12,11,5,4,3,2,1,0,10,9,8,7,6],[13,12,11,5,4,3,2,1,0,10,9,8,7,6],[14,13,12,11,5,4,3,2,1,0,10,9,8,7,6],[15,14,13,12,11,5,4,3,2,1,0,10,9,8,7,6],[12,11,5,4,3,2,1,0,10,9,8,7,6],[17,12,11,5,4,3,2,1,0,10,9,8,7,6],[18,17,12,11,5,4,3,2,1,0,10,9,8,7,6],[19,18,17,12,11,5,4,3,2,1,0,10,9,8,7,6],[16,15,14,13,12,11,5,4,3,2,1,0,10,9,8,7,6,20,19,18,17],[12,11,5,4,3,2,1,0,10,9,8,7,6,21,16,15,14,13,20,19,18,17],[22,12,11,5,4,3,2,1,0,10,9,8,7,6,21,16,15,14,13,20,19,18,17],[23,22,12,11,5,4,3,2,1,0,10,9,8,7,6,21,16,15,14,13,20,19,18,17],[24,23,22,12,11,5,4,3,2,1,0,10,9,8,7,6,21,16,15,14,13,20,19,18,17],[25,24,23,22,12,11,5,4,3,2,1,0,10,9,8,7,6,21,16,15,14,13,20,19,18,17],[26,25,24,23,22,12,11,5,4,3,2,1,0,10,9,8,7,6,21,16,15,14,13,20,19,18,17],[27,26,25,24,23,22,12,11,5,4,3,2,1,0,10,9,8,7,6,21,16,15,14,13,20,19,18,17],[23,22,12,11,5,4,3,2,1,0,10,9,8,7,6,21,16,15,14,13,20,19,18,17,28,27,26,25,24],[29,23,22,12,11,5,4,3,2,1,0,10,9,8,7,6,21,16,15,14,13,20,19,18,17,28,27,26,25,24],[30,29,23,22,12,11,5,4,3,2,1,0,10,9,8,7,6,21,16,15,14,13,20,19,18,17,28,27,26,25,24],[31,30,29,23,22,12,11,5,4,3,2,1,0,10,9,8,7,6,21,16,15,14,13,20,19,18,17,28,27,26,25,24],[32,31,30,29,23,22,12,11,5,4,3,2,1,0,10,9,8,7,6,21,16,15,14,13,20,19,18,17,28,27,26,25,24],[33,32,31,30,29,23,22,12,11,5,4,3,2,1,0,10,9,8,7,6,21,16,15,14,13,20,19,18,17,28,27,26,25,24],[34,33,32,31,30,29,23,22,12,11,5,4,3,2,1,0,10,9,8,7,6,21,16,15,14,13,20,19,18,17,28,27,26,25,24],[30,29,23,22,12,11,5,4,3,2,1,0,10,9,8,7,6,21,16,15,14,13,20,19,18,17,28,27,26,25,24,35,34,33,32,31],[36,30,29,23,22,12,11,5,4,3,2,1,0,10,9,8,7,6,21,16,15,14,13,20,19,18,17,28,27,26,25,24,35,34,33,32,31],[37,36,30,29,23,22,12,11,5,4,3,2,1,0,10,9,8,7,6,21,16,15,14,13,20,19,18,17,28,27,26,25,24,35,34,33,32,31],[38,37,36,30,29,23,22,12,11,5,4,3,2,1,0,10,9,8,7,6,21,16,15,14,13,20,19,18,17,28,27,26,25,24,35,34,33,32,31],[39,38,37,36,30,29,23,22,12,11,5,4,3,2,1,0,10,9,8,7,6,21,16,15,14,13,20,19,18,17,28,27,26,25,24,35,34,33,32,31],[40,39,38,37,36,30,29,23,22,12,11,5,4,3,2,1,0,10,9,8,7,6,21,16,15,14,13,20,19,18,17,28,27,26,25,24,35,34,33,32,31],[41,40,39,38,37,36,30,29,23,22,12,11,5,4,3,2,1,0,10,9,8,7,6,21,16,15,14,13,20,19,18,17,28,27,26,25,24,35,34,33,32,31],[37,36,30,29,23,22,12,11,5,4,3,2,1,0,10,9,8,7,6,21,16,15,14,13,20,19,18,17,28,27,26,25,24,35,34,33,32,31,42,41,40,39,38],[43,37,36,30,29,23,22,12,11,5,4,3,2,1,0,10,9,8,7,6,21,16,15,14,13,20,19,18,17,28,27,26,25,24,35,34,33,32,31,42,41,40,39,38]] (by kernel_rfl) (by kernel_rfl) ?_
  simp [h0]
  refine awCall_det' (l00In_a _ _ _) (by simp) ?_
  simp
  repeat' (first | (refine guardV_split ?_ ?_ <;> intro _) | (refine awCall_det' (l00In_a _ _ _) (by simp) ?_) | (simp [*]))
  all_goals (simp_all [gateB, Keeps.refl] <;> omega)





def okG (l : List Gate) : Bool := decide (∀ i, i < l.length → gateB (el l i) = true ∧ (0 < i → (el l (i - 1)).s ≤ (el l i).s)) && decide (l.length ≤ 60)
theorem okG_of {l : List Gate} (h : ∀ i, i < l.length → gateB (el l i) = true ∧ (0 < i → (el l (i - 1)).s ≤ (el l i).s)) : okG l = decide (l.length ≤ 60) := by
  unfold okG; rw [decide_eq_true h, Bool.true_and]
theorem okG_not {l : List Gate} {i : Nat} (hi : i < l.length) (h : ¬ (gateB (el l i) = true ∧ (0 < i → (el l (i - 1)).s ≤ (el l i).s))) : okG l = false := by
  unfold okG; rw [decide_eq_false (fun h' => h (h' i hi)), Bool.false_and]
theorem l21Ok_a {M : Mem} {A : Option Addr} {n c : Nat} {l : List Gate} (h : Sl gateR M A n l) (hn : n ≤ 4611686018427387904) : Det Try.prog M.length 68 [.slice A n c] M (.bool (okG l)) M := by
  have hl := h.1
  first | (refine det_fn Try.func68 rfl Try.ntmps68 Try.results68 rfl rfl rfl (by simp) ?_) | (refine det_fnC Try.func68 rfl Try.ntmps68 Try.results68 rfl rfl (by simp) ?_)
  simp
  refine awLoop_T (fun m T M' => ∃ k : Nat, k + m = n ∧ M' = M ∧ look T 3 = some (iv k) ∧ look T 0 = some (.slice A n c) ∧ ∀ i, i < k → gateB (el l i) = true ∧ (0 < i → (el l (i - 1)).s ≤ (el l i).s)) n ⟨0, by omega, rfl, by simp, by simp, by omega⟩ ?_
  rintro m T M' ⟨k, hm, rfl, h3, h0, hk⟩
  by_cases hlt : k < n
  · obtain ⟨id, off, rfl, he, hc⟩ := h.at_ hlt
    obtain ⟨c0, c1, c2, c3, c4⟩ := gate_cells hc
    simp (disch := omega) [h3, h0, hlt, wrap_in]
    refine awDraw_E 20 [[],[],[0,1],[2,0,1],[3,2,0,1],[4,3,2,0,1],[5,4,3,2,0,1],[6,5,4,3,2,0,1],[7,6,5,4,3,2,0,1],[8,7,6,5,4,3,2,0,1],[8,7,6,5,4,3,2,0,1],[10,8,7,6,5,4,3,2,0,1],[9,8,7,6,5,4,3,2,0,1,11,10],[12,9,8,7,6,5,4,3,2,0,1,11,10],[13,12,9,8,7,6,5,4,3,2,0,1,11,10],[8,7,6,5,4,3,2,0,1],[8,7,6,5,4,3,2,0,1],[15,8,7,6,5,4,3,2,0,1,16],[17,15,8,7,6,5,4,3,2,0,1,16],[18,17,15,8,7,6,5,4,3,2,0,1,16],[14,13,12,9,8,7,6,5,4,3,2,0,1,11,10,19,18,17,15,16],[8,7,6,5,4,3,2,0,1,20,14,13,12,9,11,10,19,18,17,15,16],[5,4,3,2,0,1,21,8,7,6,20,14,13,12,9,11,10,19,18,17,15,16]] (by kernel_rfl) (by kernel_rfl) ?_
    simp (disch := omega) [h3, h0, hlt, wrap_in]
    refine awCall_det' (l21Gate_a hc) (by simp) ?_
    have hkl : k < l.length := by omega
    simp
    cases hg : gateB (el l k)
    · simp (disch := omega) [h3, hg]
      rw [okG_not hkl (by simp [hg])]
      simp [Keeps.refl]
    · simp (disch := omega) [h3, hg]
      rcases k with _ | j
      · simp (disch := omega) [h3, h0, wrap_in]
        refine lpI (m - 1) (by omega) ?_
        refine ⟨1, by omega, rfl, by simp, by simp [h0], ?_⟩
        intro i hi
        obtain rfl : i = 0 := by omega
        simp [hg]
      · obtain ⟨_, _, he', _, hc'⟩ := h.at_ (i := j) (by omega)
        cases he'
        obtain ⟨_, d1, _⟩ := gate_cells hc'
        simp (disch := omega) [h0, h3, wrap_in, c1, d1]
        refine ⟨by omega, by omega, ?_⟩
        refine awCond_split ?_ ?_ <;> intro hs
        · simp at hs
          simp
          rw [okG_not hkl (by simp; omega)]
          simp [Keeps.refl]
        · simp at hs
          simp (disch := omega) [h3, h0, wrap_in]
          refine lpI (m - 1) (by omega) ?_
          refine ⟨j + 1 + 1, by omega, rfl, by simp, by simp [h0], ?_⟩
          intro i hi
          by_cases hi' : i < j + 1
          · exact hk i hi'
          · obtain rfl : i = j + 1 := by omega
            simp [hg, hs]
  · obtain rfl : k = n := by omega
    simp [h3, h0]
    rw [okG_of (by rw [hl]; exact hk), hl]
    simp [Keeps.refl]
    omega





















































theorem ValidGates_s {M : Mem} {A : Option Addr} {n c : Nat} {l : List Gate} (h : Sl gateR M A n l) (hn : n ≤ 4611686018427387904) : Det Try.prog M.length 30 [.slice A n c] M (.bool (okG l)) M := by
  first | (refine det_fn Try.func30 rfl Try.ntmps30 Try.results30 rfl rfl rfl (by simp) ?_) | (refine det_fnC Try.func30 rfl Try.ntmps30 Try.results30 rfl rfl (by simp) ?_)
  simp
  refine awCall_det' (l21Ok_a h hn) (Nat.le_refl _) ?_
  simp [Keeps.refl]





theorem ValidGates_sl {M : Mem} {v : Value} {lo hi : Nat} {l : List Gate} (h : RdL gateR lo hi M v l) (hl : l.length ≤ 1048576) : Det Try.prog M.length 30 [v] M (.bool (okG l)) M := by
  obtain ⟨A, n, c, rfl, hn, hS, _⟩ := h
  exact ValidGates_s hS (by have := hS.1; omega)



end Go.Proofs.Ytgaiejaegimilaa

namespace Go.Proofs.Ytgaiejaegimilaa
open Go.RowKit
set_option linter.unusedVariables false
set_option linter.unusedSimpArgs false
set_option maxRecDepth 100000
attribute [local simp] List.getElem?_cons_zero
attribute [local irreducible] awCond awCall awLoop awDraw ow retQ retC resQ Keeps
theorem scoreB_iff {l : List Note} : scoreB l = true ↔ l.length ≤ 60 ∧ (∀ n, n ∈ l → noteB n = true) ∧ ∀ i, i < l.length → 0 < i → ordN (el l (i - 1)) (el l i) < 0 := by
  simp only [scoreB, Bool.and_eq_true, decide_eq_true_eq, List.all_eq_true, and_assoc]
theorem ordN_q {a b : Note} (ha : noteB a = true) (hb : noteB b = true) (h : ordN a b < 0) : a.at_.q ≤ b.at_.q := by
  have fa := (fracB_iff.1 (beatB_iff.1 (noteB_iff.1 ha).1).1).1.1
  have fb := (fracB_iff.1 (beatB_iff.1 (noteB_iff.1 hb).1).1).1.1
  refine (cmpF_q fa fb).1 ?_
  unfold ordN at h
  split at h
  · omega
  · rename_i hc
    omega
theorem score_up {l : List Note} (h : scoreB l = true) : ∀ (d i : Nat), i + d < l.length → (el l i).at_.q ≤ (el l (i + d)).at_.q
  | 0, i, _ => Rat.le_refl
  | d + 1, i, hd => by
    obtain ⟨-, h2, h3⟩ := scoreB_iff.1 h
    have h4 := score_up h d i (by omega)
    have h5 := h3 (i + (d + 1)) hd (by omega)
    rw [show i + (d + 1) - 1 = i + d by omega] at h5
    have h6 := ordN_q (h2 _ (el_mem (by omega))) (h2 _ (el_mem hd)) h5
    grind
theorem badG_no {t : List Tempo} {n : Note} (h : badG t n = false) : (sampB t n.at_).2 = 0 ∧ (sampB t n.fin).2 = 0 ∧ (sampB t n.fin).1 ≤ 4000 := by
  simp only [badG, Bool.or_eq_false_iff, decide_eq_false_iff_not] at h
  omega
theorem note_up {n : Note} (h : noteB n = true) : n.at_.q ≤ n.fin.q := by
  obtain ⟨h1, h2, -, h4, -⟩ := noteB_iff.1 h
  obtain ⟨f1, -⟩ := beatB_iff.1 h1
  obtain ⟨f2, p2, -⟩ := beatB_iff.1 h2
  have := addF_q f1 f2 h4
  have h0 : (0 : Rat) ≤ n.len.q := (Rat.divInt_nonneg_iff_of_pos_right (by have := (fracB_iff.1 f2).1; omega)).2 p2
  show n.at_.q ≤ (addF n.at_ n.len).1.q
  grind
theorem gatesF_ok {l : List Note} {t : List Tempo} (hs : scoreB l = true) (hb : ∀ n, n ∈ l → badG t n = false) : okG (gatesF t l) = true := by
  obtain ⟨h1, h2, -⟩ := scoreB_iff.1 hs
  have hp : l.Pairwise fun a b => a.at_.q ≤ b.at_.q := by
    rw [List.pairwise_iff_getElem]
    intro i j hi hj hij
    rw [el_eq hi, el_eq hj]
    have := score_up hs (j - i) i (by omega)
    rwa [show i + (j - i) = j by omega] at this
  have hp2 : (gatesF t l).Pairwise fun a b => a.s ≤ b.s := by
    unfold gatesF
    rw [List.pairwise_map]
    refine List.Pairwise.imp_of_mem (fun {a b} ha hb' hab => ?_) (hp.filter _)
    have ma := (List.mem_filter.1 ha).1
    have mb := (List.mem_filter.1 hb').1
    exact sampB_mono (badG_no (hb a ma)).1 (badG_no (hb b mb)).1 hab
  have hg : ∀ g, g ∈ gatesF t l → gateB g = true := by
    intro g hg
    obtain ⟨n, hn, rfl⟩ := List.mem_map.1 hg
    obtain ⟨hn, hl⟩ := List.mem_filter.1 hn
    obtain ⟨b1, b2, b3⟩ := badG_no (hb n hn)
    have hp := sampB_pos b1
    obtain ⟨-, -, -, -, k1, k2, -⟩ := noteB_iff.1 (h2 n hn)
    have hlt : (sampB t n.at_).1 < (sampB t n.fin).1 := by simpa [longG] using hl
    simp only [gateB, Bool.and_eq_true, decide_eq_true_eq, inB_iff]
    exact ⟨⟨⟨⟨⟨⟨Int.le_refl 0, show (0 : Int) ≤ 3 by omega⟩, hp⟩, hlt⟩, b3⟩, k1⟩, k2⟩
  rw [okG_of fun i hi => ⟨hg _ (el_mem hi), fun h0 => ?_⟩]
  · have := gatesF_len t l
    exact decide_eq_true (by omega)
  · rw [List.pairwise_iff_getElem] at hp2
    have := hp2 (i - 1) i (by omega) hi (by omega)
    rwa [el_eq (by omega), el_eq hi] at this
end Go.Proofs.Ytgaiejaegimilaa

namespace Go.Proofs.Ytgaiejaegimilaa
open Go.RowKit
set_option linter.unusedVariables false
set_option linter.unusedSimpArgs false
set_option maxRecDepth 100000
attribute [local simp] List.getElem?_cons_zero
attribute [local irreducible] awCond awCall awLoop awDraw ow retQ retC resQ Keeps
def maxE (l : List Gate) : Int := l.foldl (fun a g => max a g.e) 0
theorem maxE_take {l : List Gate} {k : Nat} (hk : k < l.length) : maxE (l.take (k + 1)) = max (maxE (l.take k)) (el l k).e := by
  rw [take_el hk]
  unfold maxE
  rw [List.foldl_append]
  rfl
theorem maxE_pos (l : List Gate) : 0 ≤ maxE l := by
  have : ∀ (l : List Gate) (a : Int), 0 ≤ a → 0 ≤ l.foldl (fun a g => max a g.e) a := by
    intro l
    induction l with
    | nil => intro a h; exact h
    | cons x l ih => intro a h; exact ih _ (show 0 ≤ max a x.e by omega)
  exact this l 0 (by omega)
def perfV (l : List Note) (t : List Tempo) : Int × Int := (maxE (gatesV l t).1, (gatesV l t).2)
theorem gatesV_err {l : List Note} {t : List Tempo} (h : (gatesV l t).2 ≠ 0) : (gatesV l t).1 = [] := by
  unfold gatesV at h ⊢
  split
  · rename_i h1
    rw [if_pos h1] at h
    split
    · rfl
    · rename_i h2
      rw [if_neg h2] at h
      exact absurd rfl h
  · rfl
theorem gatesV_len (l : List Note) (t : List Tempo) : (gatesV l t).1.length ≤ l.length := by
  unfold gatesV
  split
  · split
    · exact Nat.zero_le _
    · exact gatesF_len t l
  · exact Nat.zero_le _
theorem l00Max_t {M : Mem} (a b : Int) : Det Try.prog M.length 63 [iv a, iv b] M (iv (max a b)) M := by
  first | (refine det_fn Try.func63 rfl Try.ntmps63 Try.results63 rfl rfl rfl (by simp) ?_) | (refine det_fnC Try.func63 rfl Try.ntmps63 Try.results63 rfl rfl (by simp) ?_)
  simp
  by_cases h : b < a
  · have h' : max a b = a := by omega
    simp [h, h', Keeps.refl]
  · have h' : max a b = b := by omega
    simp [h, h', Keeps.refl]
theorem PerformLength_i {M : Mem} {A A2 : Option Addr} {n c n2 c2 : Nat} {l : List Note} {t : List Tempo} (h : Sl noteR M A n l) (hn : n ≤ 1048576) (ht : Sl tempoR M A2 n2 t) (hn2 : n2 ≤ 1048576) :
    Det Try.prog M.length 26 [.agg #[.slice A n c], .agg #[.slice A2 n2 c2]] M (.tuple #[iv (perfV l t).1, iv (perfV l t).2]) M := by
  refine Ctr.pure ?_ rfl
  first | (refine ctr_fn Try.func26 rfl Try.ntmps26 Try.results26 rfl rfl (by simp) ?_) | (refine ctr_fnC Try.func26 rfl Try.ntmps26 Try.results26 rfl (by simp) ?_)
  simp
  refine awCall_ctr ((GatesOfScore_i (c := c) (c2 := c2) (h.app _) hn (ht.app _) hn2).weaken (by simp)) ?_
  rintro _ M1 ⟨v0, rfl, ⟨A3, n3, c3, rfl, hn3, hS, -⟩, hk⟩
  have hk0 := (keeps_app _).trans hk
  unfold perfV
  generalize gatesV l t = g at hS ⊢
  have hl := hS.1
  simp
  refine awLoop_T (fun m T M' => ∃ k : Nat, k + m = n3 ∧ Keeps M M' ∧ Keeps M1 M' ∧ look T 19 = some (iv k) ∧ look T 18 = some (iv n3) ∧ look T 17 = some (.slice A3 n3 c3) ∧ look T 8 = some (iv (maxE (g.1.take k))) ∧ look T 7 = some (iv g.2)) n3 ⟨0, by omega, hk0, Keeps.refl _, by simp, by simp, by simp, by simp [maxE], by simp⟩ ?_
  rintro m T M2 ⟨k, hm, hK, hK1, t19, t18, t17, t8, t7⟩
  have hKl := hK.len
  by_cases hlt : k < n3
  · obtain ⟨id, off, rfl, he, hc⟩ := (hS.keeps hK1).at_ hlt
    have hx := maxE_take (l := g.1) (k := k) (by omega)
    simp (disch := omega) [t19, t18, t17, t8, hlt, he, gate_load hc, wrap_in]
    exact lpI (m - 1) (by omega) ⟨k + 1, by omega, hK.app _, hK1.app _, by simp, by simp [t18], by simp [t17], (by simp [hx]; split <;> omega), by simp [t7]⟩
  · obtain rfl : k = n3 := by omega
    rw [List.take_of_length_le (by omega)] at t8
    simp [t19, t18, t8, t7, hK]
theorem PerformLength_s {M : Mem} {A A2 : Option Addr} {n c n2 c2 : Nat} {l : List Note} {t : List Tempo} (h : Sl noteR M A n l) (hn : n ≤ 1048576) (ht : Sl tempoR M A2 n2 t) (hn2 : n2 ≤ 1048576) :
    Det Try.prog M.length 25 [.agg #[.slice A n c], .agg #[.slice A2 n2 c2]] M (.tuple #[iv (perfV l t).1, iv (perfV l t).2]) M := by
  refine Ctr.pure ?_ rfl
  first | (refine ctr_fn Try.func25 rfl Try.ntmps25 Try.results25 rfl rfl (by simp) ?_) | (refine ctr_fnC Try.func25 rfl Try.ntmps25 Try.results25 rfl (by simp) ?_)
  simp
  refine awCall_ctr ((GatesOfScore_s (c := c) (c2 := c2) (h.app _) hn (ht.app _) hn2).weaken (by simp)) ?_
  rintro _ M1 ⟨v0, rfl, ⟨A3, n3, c3, rfl, hn3, hS, -⟩, hk⟩
  have hk0 := (keeps_app _).trans hk
  have herr := @gatesV_err l t
  unfold perfV
  generalize gatesV l t = g at hS herr ⊢
  have hl := hS.1
  by_cases h0 : g.2 = 0
  case neg =>
    simp [h0, herr h0, maxE, hk0]
  simp [h0]
  refine awLoop_T (fun m T M' => ∃ k : Nat, k + m = n3 ∧ M' = M1 ∧ look T 9 = some (iv k) ∧ look T 6 = some (.slice A3 n3 c3) ∧ look T 8 = some (iv (maxE (g.1.take k)))) n3 ⟨0, by omega, rfl, by simp, by simp, by simp [maxE]⟩ ?_
  rintro m T M2 ⟨k, hm, rfl, t9, t6, t8⟩
  by_cases hlt : k < n3
  · obtain ⟨id, off, rfl, he, hc⟩ := hS.at_ hlt
    obtain ⟨-, -, g2, -⟩ := gate_cells hc
    have hx := maxE_take (l := g.1) (k := k) (by omega)
    simp (disch := omega) [t9, t6, t8, hlt, he, g2, wrap_in]
    refine awCall_det' (l00Max_t _ _) (by have := hk0.len; omega) ?_
    try simp (disch := omega) [t9, t6, t8, wrap_in]
    exact lpI (m - 1) (by omega) ⟨k + 1, by omega, rfl, by simp, by simp [t6], by simp [hx]⟩
  · obtain rfl : k = n3 := by omega
    rw [List.take_of_length_le (by omega)] at t8
    simp [t9, t6, t8, hk0, h0]
theorem PerformLength_sl {M : Mem} {v w : Value} {lo hi lo' hi' : Nat} {l : List Note} {t : List Tempo} (h : RdL noteR lo hi M v l) (ht : RdL tempoR lo' hi' M w t) (hl : l.length ≤ 1048576) (hl' : t.length ≤ 1048576) : Det Try.prog M.length 25 [.agg #[v], .agg #[w]] M (.tuple #[iv (perfV l t).1, iv (perfV l t).2]) M := by
  obtain ⟨A, n, c, rfl, hn, hS, _⟩ := h
  obtain ⟨A', n', c', rfl, hn', hS', _⟩ := ht
  exact PerformLength_s hS (by have := hS.1; omega) hS' (by have := hS'.1; omega)
theorem PerformLength_il {M : Mem} {v w : Value} {lo hi lo' hi' : Nat} {l : List Note} {t : List Tempo} (h : RdL noteR lo hi M v l) (ht : RdL tempoR lo' hi' M w t) (hl : l.length ≤ 1048576) (hl' : t.length ≤ 1048576) : Det Try.prog M.length 26 [.agg #[v], .agg #[w]] M (.tuple #[iv (perfV l t).1, iv (perfV l t).2]) M := by
  obtain ⟨A, n, c, rfl, hn, hS, _⟩ := h
  obtain ⟨A', n', c', rfl, hn', hS', _⟩ := ht
  exact PerformLength_i hS (by have := hS.1; omega) hS' (by have := hS'.1; omega)
theorem GatesOfScore_sl {M : Mem} {v w : Value} {lo hi lo' hi' : Nat} {l : List Note} {t : List Tempo} (h : RdL noteR lo hi M v l) (ht : RdL tempoR lo' hi' M w t) (hl : l.length ≤ 1048576) (hl' : t.length ≤ 1048576) : Ctr Try.prog M.length 16 [.agg #[v], .agg #[w]] M fun r M' => ∃ v0, r = .tuple #[v0, iv (gatesV l t).2] ∧ OwL gateR M.length M'.length M' v0 (gatesV l t).1 ∧ Keeps M M' := by
  obtain ⟨A, n, c, rfl, hn, hS, _⟩ := h
  obtain ⟨A', n', c', rfl, hn', hS', _⟩ := ht
  exact GatesOfScore_s hS (by have := hS.1; omega) hS' (by have := hS'.1; omega)
theorem GatesOfScore_il {M : Mem} {v w : Value} {lo hi lo' hi' : Nat} {l : List Note} {t : List Tempo} (h : RdL noteR lo hi M v l) (ht : RdL tempoR lo' hi' M w t) (hl : l.length ≤ 1048576) (hl' : t.length ≤ 1048576) : Ctr Try.prog M.length 18 [.agg #[v], .agg #[w]] M fun r M' => ∃ v0, r = .tuple #[v0, iv (gatesV l t).2] ∧ OwL gateR M.length M'.length M' v0 (gatesV l t).1 ∧ Keeps M M' := by
  obtain ⟨A, n, c, rfl, hn, hS, _⟩ := h
  obtain ⟨A', n', c', rfl, hn', hS', _⟩ := ht
  exact GatesOfScore_i hS (by have := hS.1; omega) hS' (by have := hS'.1; omega)
end Go.Proofs.Ytgaiejaegimilaa
