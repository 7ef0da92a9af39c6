/- Parts of the proof, together: Which pitch a key is spelt as. Lists of records that hold lists, as they grow. Rows of records in which one is set. Rows of records in which one is set; boxes whose fields are set. The chords of a score. Items of a score. No conditions. -/
import Derived.Test.YtodbjnngkonklaaGreatZzI9
import Derived.Test.YtodbjnngkonklaaGreatZzI10
import Derived.Test.YtodbjnngkonklaaGreatZzI8
namespace Go.Proofs.YtodbjnngkonklaaGreat
open Go.RowKit
set_option linter.unusedVariables false
set_option linter.unusedSimpArgs false
set_option maxRecDepth 100000
attribute [local simp] List.getElem?_cons_zero
attribute [local irreducible] awCond awCall awLoop awDraw ow retQ retC resQ Keeps
theorem modulo_i {M : Mem} (a b : Int) (ha : -1000000000 ≤ a) (ha2 : a ≤ 1000000000) (hb : 0 < b) (hb2 : b ≤ 1000) : Det Tryz.prog M.length 56 [iv a, iv b] M (iv (a % b)) M := by
  have e := Int.emod_def a b
  have h1 := Int.emod_nonneg a (show b ≠ 0 by omega)
  have h2 := Int.emod_lt_of_pos a hb
  first | (refine det_fn Tryz.func56 rfl Tryz.ntmps56 Tryz.results56 rfl rfl rfl (by simp) ?_) | (refine det_fnC Tryz.func56 rfl Tryz.ntmps56 Tryz.results56 rfl rfl (by simp) ?_)
  simp (disch := omega)
  refine awCall_det' (floorDiv_i a b ha ha2 hb) (by omega) ?_
  simp (disch := omega) [wrap_in]
  rw [← e]
  exact ⟨rfl, Keeps.refl _⟩
def fifL : List Int := [0, 2, 4, -1, 1, 3, 5]
def fifV (p : Pitch) : Int := el fifL p.s.toNat + 7 * p.a
set_option maxHeartbeats 4000000 in
theorem fill7f : Instr.fill (fun i => some (i, 1)) (zrow [iv 0] 7).toArray [(0, iv 0), (1, iv 2), (2, iv 4), (3, iv (-1)), (4, iv 1), (5, iv 3), (6, iv 5)] = some #[iv 0, iv 2, iv 4, iv (-1), iv 1, iv 3, iv 5] := by kernel_rfl
set_option maxHeartbeats 1000000 in
theorem fifths_i {M : Mem} (p : Pitch) (h : 0 ≤ p.s ∧ p.s ≤ 6) (h2 : -2 ≤ p.a ∧ p.a ≤ 2) : Det Tryz.prog M.length 58 [p.v] M (iv (fifV p)) M := by
  have hm : p.s = 0 ∨ p.s = 1 ∨ p.s = 2 ∨ p.s = 3 ∨ p.s = 4 ∨ p.s = 5 ∨ p.s = 6 := by omega
  first | (refine det_fn Tryz.func58 rfl Tryz.ntmps58 Tryz.results58 rfl rfl rfl (by simp) ?_) | (refine det_fnC Tryz.func58 rfl Tryz.ntmps58 Tryz.results58 rfl rfl (by simp) ?_)
  simp
  refine awDraw_M 10 [[],[],[1],[0,2,1],[3,0,2,1],[],[5],[6,5],[4,3,0,2,1,7,6,5],[8,4,3,0,2,1,7,6,5]] [] (by kernel_rfl) (by decide +kernel) (by decide +kernel) ?_
  simp [fill7f]
  unfold fifV
  rcases hm with h | h | h | h | h | h | h
  all_goals simp (disch := omega) [h, wrap_in, maskP, fifL, el, keeps_app]
def candP (key : Int) (i : Nat) : Pitch := ⟨(i / 5 : Nat), (i % 5 : Nat) - 2, (key - natV (i / 5 : Nat) - ((i % 5 : Nat) - 2)) / 12 - 1⟩
def candB (key : Int) (i : Nat) : Bool := decide ((key - natV (i / 5 : Nat) - ((i % 5 : Nat) - 2)) % 12 = 0) && pitchB (candP key i)
def farV (p : Pitch) : Int := max (fifV p) (-fifV p)
def spS (key : Int) : Nat → Pitch × Int × Bool
  | 0 => (⟨0, 0, 0⟩, 0, false)
  | i + 1 => if (candB key i && (!(spS key i).2.2 || decide (farV (candP key i) < (spS key i).2.1) || decide (farV (candP key i) = (spS key i).2.1) && decide (fifV (spS key i).1 < fifV (candP key i)))) = true then (candP key i, farV (candP key i), true) else spS key i
def spellV (key : Int) : Pitch := (spS key 35).1
set_option maxRecDepth 100000 in
set_option maxHeartbeats 4000000 in
theorem spell_all : ∀ k : Fin 128, pitchB (spellV (k.1 : Int)) = true ∧ keyV (spellV (k.1 : Int)) = (k.1 : Int) := by decide +kernel
theorem spell_ok {k : Int} (h : 0 ≤ k ∧ k ≤ 127) : pitchB (spellV k) = true ∧ keyV (spellV k) = k := by
  have := spell_all ⟨k.toNat, by omega⟩
  simp only at this
  rw [show ((k.toNat : Nat) : Int) = k by omega] at this
  exact this
theorem spS_in (key : Int) : ∀ i, (0 ≤ (spS key i).1.s ∧ (spS key i).1.s ≤ 6) ∧ (-2 ≤ (spS key i).1.a ∧ (spS key i).1.a ≤ 2)
  | 0 => ⟨⟨show (0 : Int) ≤ 0 by decide, show (0 : Int) ≤ 6 by decide⟩, show (-2 : Int) ≤ 0 by decide, show (0 : Int) ≤ 2 by decide⟩
  | i + 1 => by
    rw [spS]
    split
    · rename_i h
      rw [Bool.and_eq_true] at h
      have h := h.1
      unfold candB at h
      rw [Bool.and_eq_true] at h
      obtain ⟨p1, p2, p3, p4⟩ := pitchB_r h.2
      exact ⟨p1, p2⟩
    · exact spS_in key i
structure SpI (M : Mem) (key : Int) (T : List (Nat × Value)) (M' : Mem) (i : Nat) : Prop where
  k : Keeps M M'
  r0 : M'[M.length]? = some (.live ⟨[iv 0, iv 0, iv 0], true, true, 62, 3⟩)
  r1 : M'[M.length + 1]? = some (.live ⟨(spS key i).1.row, true, true, 62, 3⟩)
  t6 : look T 6 = some (iv (spS key i).2.1)
  t7 : look T 7 = some (.bool (spS key i).2.2)
  t5 : look T 5 = some (.pointer (some ⟨M.length + 1, 0, none⟩))
  t4 : look T 4 = some (.pointer (some ⟨M.length, 0, none⟩))
  t0 : look T 0 = some (iv key)
  t1 : look T 1 = some (iv 0)
set_option maxHeartbeats 4000000 in
theorem spellKey_i {M : Mem} (key : Int) (h : 0 ≤ key ∧ key ≤ 127) : Det Tryz.prog M.length 26 [iv key, iv 0] M (spellV key).v M := by
  first | (refine det_fn Tryz.func26 rfl Tryz.ntmps26 Tryz.results26 rfl rfl rfl (by simp) ?_) | (refine det_fnC Tryz.func26 rfl Tryz.ntmps26 Tryz.results26 rfl rfl (by simp) ?_)
  simp
  have zr : (Pitch.row ⟨0, 0, 0⟩) = [iv 0, iv 0, iv 0] := rfl
  refine awLoop_T (fun m T M' => ∃ s : Nat, s + m = 7 ∧ SpI M key T M' (5 * s) ∧ look T 8 = some (iv s)) 7 ⟨0, by omega, ⟨keeps_app _, by simp, by simp [spS, Pitch.row], by simp [spS], by simp [spS], by simp, by simp, by simp, by simp⟩, by simp⟩ ?_
  rintro m T M1 ⟨s, hm, hI, t8⟩
  obtain ⟨hK, r0, r1, t6, t7, t5, t4, t0, t1⟩ := hI
  by_cases hs : s < 7
  case neg =>
    obtain rfl : s = 7 := by omega
    have hKl := hK.len
    have l0 := (List.getElem?_eq_some_iff.1 r0).1
    simp [t8, t4, t5]
    rw [cells_hrq (n := 3) r1 rfl, ow_some]
    refine ⟨rfl, ?_⟩
    have hp := put_whole (b := M.length) (vs := (spellV key).row) r0 (by omega) rfl (by simp [Pitch.row])
    rw [show (Value.agg (⟨(spS key (5 * 7)).1.row, true, true, 62, 3⟩ : Row).cells.toArray).cells.toList = (spellV key).row from rfl, hp, ow_some, cells_hrq (n := 3) (List.getElem?_set_self l0) rfl, ow_some]
    exact ⟨rfl, (Same.set (B := M.length) (Nat.le_refl _)).keeps hK (Nat.le_refl _)⟩
  have hs' : (s : Int) ≤ 6 := by omega
  simp (disch := omega) [t8, hs, hs']
  refine awLoop_T (fun m T M' => ∃ j : Nat, j + m = 5 ∧ SpI M key T M' (5 * s + j) ∧ look T 8 = some (iv s) ∧ look T 9 = some (iv ((j : Int) - 2))) 5 ⟨0, by omega, ⟨hK, r0, r1, by simp [t6], by simp [t7], by simp [t5], by simp [t4], by simp [t0], by simp [t1]⟩, by simp [t8], by simp⟩ ?_
  clear hK r0 r1 t6 t7 t5 t4 t0 t1 t8
  rintro m2 T2 M2 ⟨j, hm2, ⟨hK, r0, r1, t6, t7, t5, t4, t0, t1⟩, t8, t9⟩
  by_cases hj : j < 5
  case neg =>
    obtain rfl : j = 5 := by omega
    simp (disch := omega) [t8, t9, wrap_in]
    exact lpI (m - 1) (by omega) ⟨s + 1, by omega, ⟨hK, r0, r1, by rw [show 5 * (s + 1) = 5 * s + 5 by omega]; simpa using t6, by rw [show 5 * (s + 1) = 5 * s + 5 by omega]; simpa using t7, by simp [t5], by simp [t4], by simp [t0], by simp [t1]⟩, by simp⟩
  have hKl := hK.len
  have hj' : (j : Int) - 2 ≤ 2 := by omega
  have e1 : (5 * s + j) / 5 = s := by omega
  have e2 : (5 * s + j) % 5 = j := by omega
  simp (disch := omega) [t8, t9, t0, t1, hj', wrap_in]
  have hnb := nat_bd (s : Int) (by omega) (by omega)
  refine awCall_det' (natural_i (s : Int) (by omega) (by omega)) (by omega) ?_
  simp (disch := omega) [t8, t9, t0, t1, hj', wrap_in]
  refine awCall_det' (floorDiv_i (key - natV s - (j - 2)) 12 (by omega) (by omega) (by omega)) (by omega) ?_
  simp (disch := omega) [t8, t9, t0, t1, hj', wrap_in]
  obtain ⟨p, hp⟩ : ∃ p, p = candP key (5 * s + j) := ⟨_, rfl⟩
  have hp1 : p = ⟨(s : Int), (j : Int) - 2, (key - natV s - ((j : Int) - 2)) / 12 - 1⟩ := by rw [hp]; unfold candP; rw [e1, e2]
  have ps : p.s = s := by rw [hp1]
  have pa : p.a = (j : Int) - 2 := by rw [hp1]
  have po : p.o = (key - natV s - ((j : Int) - 2)) / 12 - 1 := by rw [hp1]
  rw [show Instr.fill (fun x => [(0, 1), (1, 1), (2, 1)][x]?) #[iv 0, iv 0, iv 0] [(0, iv (s : Int)), (1, iv ((j : Int) - 2)), (2, iv ((key - natV s - ((j : Int) - 2)) / 12 - 1))] = some #[iv p.s, iv p.a, iv p.o] by rw [ps, pa, po]; rfl, ow_some]
  simp (disch := omega) [t8, t9, t0, t1, wrap_in]
  refine awCall_det' (modulo_i (key - natV s - (j - 2)) 12 (by omega) (by omega) (by omega) (by omega)) (by simp; omega) ?_
  simp (disch := omega) [t8, t9, t0, t1, wrap_in]
  have hcb : candB key (5 * s + j) = (decide ((key - natV s - ((j : Int) - 2)) % 12 = 0) && pitchB p) := by unfold candB; rw [e1, e2, hp]
  have hskip : candB key (5 * s + j) = false → spS key (5 * s + (j + 1)) = spS key (5 * s + j) := fun h => by
    rw [← Nat.add_assoc, spS, h]
    simp
  obtain ⟨M3, hM3⟩ : ∃ M3 : Mem, M3 = M2 ++ [Slot.live ⟨[iv p.s, iv p.a, iv p.o], true, true, 62, 3⟩] := ⟨_, rfl⟩
  have k23 : Keeps M2 M3 := by rw [hM3]; exact keeps_app _
  have l3 : M3.length = M2.length + 1 := by rw [hM3]; simp
  have bp : cellsAt M3 M2.length 0 3 = some [iv p.s, iv p.a, iv p.o] := by rw [hM3]; simp
  rw [← hM3]
  clear hM3
  by_cases hr : (key - natV s - ((j : Int) - 2)) % 12 = 0
  case neg =>
    have hq := hskip (by rw [hcb]; simp [hr])
    simp (disch := omega) [hr, t9, wrap_in]
    exact lpI (m2 - 1) (by omega) ⟨j + 1, by omega, ⟨hK.trans k23, k23.get r0, by rw [hq]; exact k23.get r1, by rw [hq]; simp [t6], by rw [hq]; simp [t7], by simp [t5], by simp [t4], by simp [t0], by simp [t1]⟩, by simp [t8], by simp; omega⟩
  simp (disch := omega) [hr, bp]
  refine awCall_det' (isPitch_i p) (by omega) ?_
  by_cases hb : pitchB p = true
  case neg =>
    have hq := hskip (by rw [hcb]; simp [hb])
    simp (disch := omega) [hb, t9, wrap_in]
    exact lpI (m2 - 1) (by omega) ⟨j + 1, by omega, ⟨hK.trans k23, k23.get r0, by rw [hq]; exact k23.get r1, by rw [hq]; simp [t6], by rw [hq]; simp [t7], by simp [t5], by simp [t4], by simp [t0], by simp [t1]⟩, by simp [t8], by simp; omega⟩
  have hc : candB key (5 * s + j) = true := by rw [hcb]; simp [hr, hb]
  simp (disch := omega) [hb, bp]
  refine awCall_det' (fifths_i p (by rw [ps]; omega) (by rw [pa]; omega)) (by omega) ?_
  have hfb : -20 ≤ fifV p ∧ fifV p ≤ 20 := by
    have hm : p.s = 0 ∨ p.s = 1 ∨ p.s = 2 ∨ p.s = 3 ∨ p.s = 4 ∨ p.s = 5 ∨ p.s = 6 := by rw [ps]; omega
    unfold fifV
    rcases hm with h | h | h | h | h | h | h <;> rw [h] <;> simp [fifL, el] <;> omega
  simp (disch := omega) [t1, wrap_in]
  rw [show (if fifV p < -fifV p then -fifV p else fifV p) = farV p by unfold farV; split <;> omega]
  have hst := spS_in key (5 * s + j)
  have hnx : spS key (5 * s + (j + 1)) = if (!(spS key (5 * s + j)).2.2 || decide (farV p < (spS key (5 * s + j)).2.1) || decide (farV p = (spS key (5 * s + j)).2.1) && decide (fifV (spS key (5 * s + j)).1 < fifV p)) = true then (p, farV p, true) else spS key (5 * s + j) := by
    rw [← Nat.add_assoc, spS, hc, Bool.true_and, ← hp]
  have r13 := k23.get r1
  have r03 := k23.get r0
  have hK3 := hK.trans k23
  clear r1 r0 hskip hcb hc k23 hK
  generalize spS key (5 * s + j) = st at *
  obtain ⟨bst, lst, fnd⟩ := st
  simp only at hst hnx t6 t7 r13
  have cb : cellsAt M3 (M.length + 1) 0 3 = some [iv bst.s, iv bst.a, iv bst.o] := cells_hrq r13 rfl
  have l3' := (List.getElem?_eq_some_iff.1 r13).1
  have hput : putCells M.length M3 (M.length + 1) 0 [iv p.s, iv p.a, iv p.o] = some (M3.set (M.length + 1) (.live ⟨[iv p.s, iv p.a, iv p.o], true, true, 62, 3⟩)) := put_whole r13 (by omega) rfl (by simp)
  have hKs : Keeps M (M3.set (M.length + 1) (.live ⟨[iv p.s, iv p.a, iv p.o], true, true, 62, 3⟩)) := (Same.set (B := M.length) (by omega)).keeps hK3 (Nat.le_refl _)
  have r0s : (M3.set (M.length + 1) (.live ⟨[iv p.s, iv p.a, iv p.o], true, true, 62, 3⟩))[M.length]? = some (.live ⟨[iv 0, iv 0, iv 0], true, true, 62, 3⟩) := by rw [List.getElem?_set_ne (by omega)]; exact r03
  have r1s : (M3.set (M.length + 1) (.live ⟨[iv p.s, iv p.a, iv p.o], true, true, 62, 3⟩))[M.length + 1]? = some (.live ⟨p.row, true, true, 62, 3⟩) := List.getElem?_set_self (by omega)
  refine awDraw_E 15 [[],[0],[1,0],[2,1,0],[2,1,0],[3,2,1,0,4],[2,1,0,5,3,4],[6,2,1,0,5,3,4],[7,6,2,1,0,5,3,4],[7,6,2,1,0,5,3,4],[8,7,6,2,1,0,5,3,4,9],[10,8,7,6,2,1,0,5,3,4,9],[11,10,8,7,6,2,1,0,5,3,4,9],[12,11,10,8,7,6,2,1,0,5,3,4,9],[11,10,8,7,6,2,1,0,5,3,4,9],[14,11,10,8,7,6,2,1,0,5,3,4,9,13,12],[13,12,11,10,8,7,6,2,1,0,5,3,4,9,15,14],[11,10,8,7,6,2,1,0,5,3,4,9,16,13,12,15,14],[7,6,2,1,0,5,3,4,17,11,10,8,9,16,13,12,15,14]] (by kernel_rfl) (by kernel_rfl) ?_
  cases fnd
  · simp at hnx
    simp (disch := omega) [t7, t6, t5, bp, hput, t9, wrap_in]
    exact lpI (m2 - 1) (by omega) ⟨j + 1, by omega, ⟨hKs, r0s, by rw [hnx]; exact r1s, by rw [hnx]; simp, by rw [hnx]; simp, by simp [t5], by simp [t4], by simp [t0], by simp [t1]⟩, by simp [t8], by simp; omega⟩
  · simp at hnx
    by_cases hd : farV p < lst
    · simp [hd] at hnx
      simp (disch := omega) [hd, t7, t6, t5, bp, cb, hput, t9, wrap_in]
      exact lpI (m2 - 1) (by omega) ⟨j + 1, by omega, ⟨hKs, r0s, by rw [hnx]; exact r1s, by rw [hnx]; simp, by rw [hnx]; simp, by simp [t5], by simp [t4], by simp [t0], by simp [t1]⟩, by simp [t8], by simp; omega⟩
    by_cases hq : farV p = lst
    case neg =>
      simp [hd, hq] at hnx
      simp (disch := omega) [hd, hq, t7, t6, t5, bp, cb, t9, wrap_in]
      exact lpI (m2 - 1) (by omega) ⟨j + 1, by omega, ⟨hK3, r03, by rw [hnx]; exact r13, by rw [hnx]; simp [t6], by rw [hnx]; simp [t7], by simp [t5], by simp [t4], by simp [t0], by simp [t1]⟩, by simp [t8], by simp; omega⟩
    simp [hd, hq] at hnx
    simp (disch := omega) [hd, hq, t7, t6, t5, bp, cb, t9, wrap_in]
    refine awCall_det' (fifths_i p (by rw [ps]; omega) (by rw [pa]; omega)) (by omega) ?_
    refine ⟨rfl, ?_⟩
    refine awCall_det' (fifths_i bst hst.1 hst.2) (by omega) ?_
    by_cases hf : fifV bst < fifV p
    · simp [hf] at hnx
      simp (disch := omega) [hf, t7, t6, t5, bp, cb, hput, t9, wrap_in]
      exact lpI (m2 - 1) (by omega) ⟨j + 1, by omega, ⟨hKs, r0s, by rw [hnx]; exact r1s, by rw [hnx]; simp, by rw [hnx]; simp, by simp [t5], by simp [t4], by simp [t0], by simp [t1]⟩, by simp [t8], by simp; omega⟩
    · simp [hf] at hnx
      simp (disch := omega) [hf, t7, t6, t5, bp, cb, t9, wrap_in]
      exact lpI (m2 - 1) (by omega) ⟨j + 1, by omega, ⟨hK3, r03, by rw [hnx]; exact r13, by rw [hnx]; simp [t6], by rw [hnx]; simp [t7], by simp [t5], by simp [t4], by simp [t0], by simp [t1]⟩, by simp [t8], by simp; omega⟩
end Go.Proofs.YtodbjnngkonklaaGreat

namespace Go.Proofs.YtodbjnngkonklaaGreat
open Go.RowKit
set_option linter.unusedVariables false
set_option linter.unusedSimpArgs false
set_option maxRecDepth 100000
attribute [local simp] List.getElem?_cons_zero
attribute [local irreducible] awCond awCall awLoop awDraw ow retQ retC resQ Keeps
/-- Two values that lie in rows apart. -/
def Sep (u v : Value) : Prop := ∀ (A B : Option Addr) (n c m d : Nat) (a b : Addr), u = .slice A n c → v = .slice B m d → A = some a → B = some b → a.block ≠ b.block
theorem Sep.symm {u v : Value} (h : Sep u v) : Sep v u := fun A B n c m d a b e1 e2 e3 e4 => Ne.symm (h _ _ _ _ _ _ _ _ e2 e1 e4 e3)
theorem sep_nil {u : Value} {n c : Nat} : Sep u (.slice none n c) := fun A B n c m d a b e1 e2 e3 e4 => by injection e2 with e2; subst e2; cases e4
section
variable {α β : Type} {k k' : Nat} {R : RecV α k} {R' : RecV β k'} {e e' : TypeId} {B B' : Nat} {M M' : Mem} {u v v' : Value} {l : List α} {l2 : List β}
/-- A list that another one's growth leaves. -/
theorem Acc.aside (h2 : Acc R' e' B' M u l2) (hs : Sep v u) (hap : ∀ (i : Nat) s, Apart v i → M[i]? = some s → M'[i]? = some s ∧ Apart v' i) : Acc R' e' B' M' u l2 ∧ Sep v' u := by
  obtain ⟨A, n, c, rfl, hl, hA⟩ := h2
  rcases hA with ⟨rfl, hn, hc⟩ | ⟨id, t, rfl, hid, hr⟩
  · exact ⟨⟨none, n, c, rfl, hl, .inl ⟨rfl, hn, hc⟩⟩, sep_nil⟩
  · obtain ⟨g1, g2⟩ := hap id _ (fun A n c a e1 e2 => Ne.symm (hs _ _ _ _ _ _ _ _ e1 rfl e2 rfl)) hr
    refine ⟨⟨_, n, c, rfl, hl, .inr ⟨id, t, rfl, hid, g1⟩⟩, fun A B n c m d a b e1 e2 e3 e4 => ?_⟩
    injection e2 with e2
    subst e2
    injection e4 with e4
    subst e4
    exact Ne.symm (g2 _ _ _ _ e1 e3)
theorem Acc.sep_new (h1 : Acc R e B M' v l) (h2 : Acc R' e' B' M u l2) (hb : M.length ≤ B) : Sep v u := by
  obtain ⟨A, n, c, rfl, hl, hA⟩ := h1
  obtain ⟨A2, n2, c2, rfl, hl2, hA2⟩ := h2
  intro A B n c m d a b e1 e2 e3 e4
  injection e1 with e1
  injection e2 with e2
  subst e1; subst e2
  rcases hA with ⟨rfl, -⟩ | ⟨id, t, rfl, hid, hr⟩
  · cases e3
  rcases hA2 with ⟨rfl, -⟩ | ⟨id2, t2, rfl, hid2, hr2⟩
  · cases e4
  injection e3 with e3
  injection e4 with e4
  subst e3; subst e4
  have := (List.getElem?_eq_some_iff.1 hr2).1
  show id ≠ id2
  omega
/-- Rows from a place on that stay. -/
theorem Acc.stay (h : Acc R e B M v l) (hm : ∀ (i : Nat) s, B ≤ i → M[i]? = some s → M'[i]? = some s) : Acc R e B M' v l := by
  obtain ⟨A, n, c, rfl, hl, hA⟩ := h
  refine ⟨A, n, c, rfl, hl, ?_⟩
  rcases hA with hA | ⟨id, t, rfl, hid, hr⟩
  · exact .inl hA
  · exact .inr ⟨id, t, rfl, hid, hm id _ hid hr⟩
end
/-- How a record that holds a list lies. -/
structure Nst (α β : Type) (k kI : Nat) where
  RO : RecV (β × Value) k
  RI : RecV α kI
  sub : β → List α
  eO : TypeId
  eI : TypeId
section
variable {α β : Type} {k kI : Nat} {N : Nst α β k kI} {B B' : Nat} {M M' : Mem} {v v' : Value} {l : List β} {ps qs : List (β × Value)}
/-- The inner lists, all apart from a value. -/
def Inn (N : Nst α β k kI) (B : Nat) (M : Mem) (v : Value) (ps : List (β × Value)) : Prop := ∀ p, p ∈ ps → Acc N.RI N.eI B M p.2 (N.sub p.1) ∧ Sep v p.2
def TabP (N : Nst α β k kI) (B : Nat) (M : Mem) (v : Value) (ps : List (β × Value)) : Prop := Acc N.RO N.eO B M v ps ∧ Inn N B M v ps
def Tab (N : Nst α β k kI) (B : Nat) (M : Mem) (v : Value) (l : List β) : Prop := ∃ ps, ps.map (·.1) = l ∧ TabP N B M v ps
theorem Inn.nil : Inn N B M v [] := fun p h => by cases h
theorem Inn.app (h : Inn N B M v ps) (h2 : Inn N B M v qs) : Inn N B M v (ps ++ qs) := fun p hp => by
  rcases List.mem_append.1 hp with hp | hp
  · exact h p hp
  · exact h2 p hp
theorem Inn.one {p : β × Value} (h : Acc N.RI N.eI B M p.2 (N.sub p.1)) (hs : Sep v p.2) : Inn N B M v [p] := fun q hq => by
  rw [List.mem_singleton.1 hq]
  exact ⟨h, hs⟩
theorem Inn.aside (h : Inn N B M v ps) (hap : ∀ (i : Nat) s, Apart v i → M[i]? = some s → M'[i]? = some s ∧ Apart v' i) : Inn N B M' v' ps := fun p hp => (h p hp).1.aside (h p hp).2 hap
theorem Inn.stay (h : Inn N B M v ps) (hm : ∀ (i : Nat) s, B ≤ i → M[i]? = some s → M'[i]? = some s) : Inn N B M' v ps := fun p hp => ⟨(h p hp).1.stay hm, (h p hp).2⟩
theorem Inn.low (h : Inn N B M v ps) (hb : B' ≤ B) : Inn N B' M v ps := fun p hp => ⟨(h p hp).1.low hb, (h p hp).2⟩
theorem Inn.keeps (h : Inn N B M v ps) (hk : Keeps M M') : Inn N B M' v ps := fun p hp => ⟨(h p hp).1.keeps hk, (h p hp).2⟩
theorem TabP.stay (h : TabP N B M v ps) (hm : ∀ (i : Nat) s, B ≤ i → M[i]? = some s → M'[i]? = some s) : TabP N B M' v ps := ⟨h.1.stay hm, h.2.stay hm⟩
theorem TabP.keeps (h : TabP N B M v ps) (hk : Keeps M M') : TabP N B M' v ps := ⟨h.1.keeps hk, h.2.keeps hk⟩
theorem TabP.low (h : TabP N B M v ps) (hb : B' ≤ B) : TabP N B' M v ps := ⟨h.1.low hb, h.2.low hb⟩
theorem Tab.keeps (h : Tab N B M v l) (hk : Keeps M M') : Tab N B M' v l := by
  obtain ⟨ps, h1, h2⟩ := h
  exact ⟨ps, h1, h2.keeps hk⟩
theorem Tab.stay (h : Tab N B M v l) (hm : ∀ (i : Nat) s, B ≤ i → M[i]? = some s → M'[i]? = some s) : Tab N B M' v l := by
  obtain ⟨ps, h1, h2⟩ := h
  exact ⟨ps, h1, h2.stay hm⟩
theorem Tab.low (h : Tab N B M v l) (hb : B' ≤ B) : Tab N B' M v l := by
  obtain ⟨ps, h1, h2⟩ := h
  exact ⟨ps, h1, h2.low hb⟩
theorem TabP.box {id : Nat} {t : Bool} (hid : B ≤ id) (h : M[id]? = some (.live ⟨[], true, t, N.eO, k⟩)) : TabP N B M (.slice (some ⟨id, 0, none⟩) 0 0) [] := ⟨⟨_, 0, 0, rfl, rfl, .inr ⟨id, t, rfl, hid, by simpa [cellsL] using h⟩⟩, .nil⟩
theorem Tab.one (h : Tab N B M v l) : ∃ A c, v = .slice A l.length c := by
  obtain ⟨ps, h1, ⟨A, n, c, rfl, h2, -⟩, -⟩ := h
  exact ⟨A, c, by rw [← h2, ← h1, List.length_map]⟩
theorem TabP.one (h : TabP N B M v ps) : ∃ A c, v = .slice A ps.length c := by
  obtain ⟨⟨A, n, c, rfl, h2, -⟩, -⟩ := h
  exact ⟨A, c, by rw [← h2]⟩
/-- All rows of a table that lies above a list are apart from it. -/
theorem TabP.sep {α' : Type} {kk : Nat} {R' : RecV α' kk} {e' : TypeId} {w : Value} {l2 : List α'} {M0 : Mem} {B0 : Nat} (h : TabP N B M v ps) (h2 : Acc R' e' B0 M0 w l2) (hb : M0.length ≤ B) : Inn N B M w ps := fun p hp => ⟨(h.2 p hp).1, ((h.2 p hp).1.sep_new h2 hb).symm⟩
theorem TabP.snoc {P : Program} {t tx : TypeId} {b by_ : Nat} {S : St} {x : Value} {p : β × Value} {K : Value → Mem → Prop} (h : TabP N B S.M v ps) (hb : b ≤ B) (hB : B ≤ S.M.length) (hq : qSlice P t = some (N.eO, k, by_))
    (hz : (P.info? N.eO).any (fun i => i.zero.any fun z => z.cells.size == k) = true) (hs : srcOf P S.M k tx x = some (1, N.RO.row p)) (h1 : (N.RO.row p).all (fun u => u.oneCell') = true) (hu : Acc N.RI N.eI B S.M p.2 (N.sub p.1)) (hsep : Sep v p.2)
    (hn : (ps.length + 1) * by_ ≤ 140737488355328) (hm : ps.length + 1 ≤ maxLen)
    (hK : ∀ v' M', TabP N B M' v' (ps ++ [p]) → Same B S.M M' → (∀ (i : Nat) s, Apart v i → S.M[i]? = some s → M'[i]? = some s ∧ Apart v' i) → K v' M') : appendK P b S K t tx v x := by
  refine h.1.extend2 (ls := [p]) hb hB hq hz (by rw [hs]; simp [cellsL]) (by simpa [cellsL] using h1) (by simpa using hn) (by simpa using hm) ?_
  intro v' M' hA hS hP
  exact hK v' M' ⟨hA, (h.2.aside hP).app (Inn.aside (Inn.one hu hsep) hP)⟩ hS hP
theorem TabP.many {P : Program} {t tx : TypeId} {b by_ : Nat} {S : St} {x : Value} {K : Value → Mem → Prop} (h : TabP N B S.M v ps) (hb : b ≤ B) (hB : B ≤ S.M.length) (hq : qSlice P t = some (N.eO, k, by_))
    (hz : (P.info? N.eO).any (fun i => i.zero.any fun z => z.cells.size == k) = true) (hs : srcOf P S.M k tx x = some (qs.length, cellsL N.RO qs)) (h1 : (cellsL N.RO qs).all (fun u => u.oneCell') = true) (hu : Inn N B S.M v qs)
    (hn : (ps.length + qs.length) * by_ ≤ 140737488355328) (hm : ps.length + qs.length ≤ maxLen)
    (hK : ∀ v' M', TabP N B M' v' (ps ++ qs) → Inn N B M' v' qs → Same B S.M M' → (∀ (i : Nat) s, Apart v i → S.M[i]? = some s → M'[i]? = some s ∧ Apart v' i) → K v' M') : appendK P b S K t tx v x := by
  refine h.1.extend2 (ls := qs) hb hB hq hz hs h1 hn hm ?_
  intro v' M' hA hS hP
  exact hK v' M' ⟨hA, (h.2.aside hP).app (hu.aside hP)⟩ (hu.aside hP) hS hP
end
end Go.Proofs.YtodbjnngkonklaaGreat

namespace Go.Proofs.YtodbjnngkonklaaGreat
open Go.RowKit
set_option linter.unusedVariables false
set_option linter.unusedSimpArgs false
set_option maxRecDepth 100000
attribute [local simp] List.getElem?_cons_zero
attribute [local irreducible] awCond awCall awLoop awDraw ow retQ retC resQ Keeps
section
variable {α : Type} {k : Nat}
theorem put_splice {b : Nat} {M : Mem} {id p : Nat} {vs cs : List Value} {t : Bool} {e : TypeId} {z : Nat} (hr : M[id]? = some (.live ⟨cs, true, t, e, z⟩)) (hb : b ≤ id) (hp : p + vs.length ≤ cs.length) (h1 : vs.all oneV = true) :
    putCells b M id p vs = some (M.set id (.live ⟨splice cs p vs, true, t, e, z⟩)) := by
  unfold putCells
  rw [hr]
  simp only
  rw [if_pos ⟨hb, trivial, hp, h1⟩]
theorem splice_set [Inhabited α] (R : RecV α k) {l : List α} {i : Nat} {a : α} (hi : i < l.length) : splice (cellsL R l) (i * k) (R.row a) = cellsL R (l.set i a) := by
  have h1 : l = l.take i ++ (el l i :: l.drop (i + 1)) := by
    conv => lhs; rw [← List.take_append_drop i l, drop_el hi]
  have hl : (cellsL R (l.take i)).length = i * k := by rw [cellsL_len, List.length_take, Nat.min_eq_left (by omega)]
  have h2 : cellsL R l = cellsL R (l.take i) ++ (R.row (el l i) ++ cellsL R (l.drop (i + 1))) := by
    conv => lhs; rw [h1]
    rw [cellsL_append, cellsL_cons]
  rw [h2, ← hl, splice_app _ _ _ (by rw [List.length_append, R.len, R.len]; omega), R.len, List.drop_append_of_le_length (by rw [R.len]; omega), List.drop_of_length_le (by rw [R.len]; omega), List.nil_append]
  have h3 : l.set i a = l.take i ++ (a :: l.drop (i + 1)) := List.set_eq_take_append_cons_drop .. |>.trans (by rw [if_pos hi])
  rw [h3, cellsL_append, cellsL_cons]
theorem put_rec [Inhabited α] {R : RecV α k} {b : Nat} {M : Mem} {id i off : Nat} {l : List α} {a : α} {t : Bool} {e : TypeId} (hr : M[id]? = some (.live ⟨cellsL R l, true, t, e, k⟩)) (hb : b ≤ id) (hi : i < l.length) (ho : off = i * k) (h1 : (R.row a).all oneV = true) :
    putCells b M id off (R.row a) = some (M.set id (.live ⟨cellsL R (l.set i a), true, t, e, k⟩)) := by
  subst ho
  rw [put_splice hr hb (by rw [R.len, cellsL_len]; have := Nat.mul_le_mul_right k (show i + 1 ≤ l.length from hi); rw [Nat.add_mul, Nat.one_mul] at this; exact this) h1, splice_set R hi]
end
/-- The list lies in a row of its own. -/
theorem Acc.put {α : Type} {k : Nat} [Inhabited α] {R : RecV α k} {e : TypeId} {B b : Nat} {M : Mem} {A : Option Addr} {n c : Nat} {l : List α} (h : Acc R e B M (.slice A n c) l) (hb : b ≤ B) (h0 : 0 < l.length) :
    ∃ id, A = some ⟨id, 0, none⟩ ∧ B ≤ id ∧ rowEsz M id = some k ∧ (∀ (i j : Nat) x, i < l.length → (R.row (el l i))[j]? = some x → cellAt M id (i * k + j) = some x) ∧
      ∀ (i : Nat) (a : α), i < l.length → (R.row a).all oneV = true → ∃ M', putCells b M id (i * k) (R.row a) = some M' ∧ Acc R e B M' (.slice A n c) (l.set i a) ∧ M'.length = M.length ∧ ∀ (q : Nat) s, q ≠ id → M[q]? = some s → M'[q]? = some s := by
  obtain ⟨A', n', c', he, hl, hA⟩ := h
  injection he with h1 h2 h3
  subst h1; subst h2; subst h3
  rcases hA with ⟨rfl, h1, rfl⟩ | ⟨id, t, rfl, hid, hr⟩
  · omega
  refine ⟨id, rfl, hid, by simp [rowEsz, hr], fun i j x hi hx => ?_, fun i a hi h1 => ⟨_, put_rec hr (by omega) hi rfl h1, ⟨_, _, _, rfl, by simp [hl], .inr ⟨id, t, rfl, hid, List.getElem?_set_self (List.getElem?_eq_some_iff.1 hr).1⟩⟩, by simp, fun q s hq hs => by rw [List.getElem?_set_ne (Ne.symm hq)]; exact hs⟩⟩
  have hj : j < k := by have := (List.getElem?_eq_some_iff.1 hx).1; rwa [R.len] at this
  simp only [cellAt, hr]
  show (cellsL R l)[i * k + j]? = some x
  rw [cellsL_get R hi hj]
  exact hx
end Go.Proofs.YtodbjnngkonklaaGreat

namespace Go.Proofs.YtodbjnngkonklaaGreat
open Go.RowKit
set_option linter.unusedVariables false
set_option linter.unusedSimpArgs false
set_option maxRecDepth 100000
attribute [local simp] List.getElem?_cons_zero
attribute [local irreducible] awCond awCall awLoop awDraw ow retQ retC resQ Keeps
section
variable {α : Type} {k : Nat}
/-- A box beside a source, one of whose fields is set. -/
theorem put_field {b g B kk : Nat} {M0 M : Mem} {id p : Nat} {vs cs : List Value} {t : Bool} {e : TypeId} {z : Nat} (hr : M[id]? = some (.live ⟨cs, true, t, e, z⟩)) (hb : b ≤ id) (hp : p + vs.length ≤ cs.length) (h1 : vs.all oneV = true) (hB : B ≤ id) (h : Src g B M kk) (h0 : M0.length ≤ id) (hg : Grow g M0 M) :
    ∃ M', putCells b M id p vs = some M' ∧ M'[id]? = some (.live ⟨splice cs p vs, true, t, e, z⟩) ∧ Src g B M' kk ∧ Grow g M0 M' ∧ M'.length = M.length ∧ ∀ (i : Nat) s, i ≠ id → M[i]? = some s → M'[i]? = some s :=
  ⟨_, put_splice hr hb hp h1, set_get (List.getElem?_eq_some_iff.1 hr).1, h.same (Same.set hB), ⟨by simpa using hg.1, fun i s hi hs => by rw [List.getElem?_set_ne (by have := (List.getElem?_eq_some_iff.1 hs).1; omega)]; exact hg.2 i s hi hs⟩, by simp,
    fun i s hi hs => by rw [List.getElem?_set_ne (Ne.symm hi)]; exact hs⟩
end
end Go.Proofs.YtodbjnngkonklaaGreat

namespace Go.Proofs.YtodbjnngkonklaaGreat
open Go.RowKit
set_option linter.unusedVariables false
set_option linter.unusedSimpArgs false
set_option maxRecDepth 100000
attribute [local simp] List.getElem?_cons_zero
attribute [local irreducible] awCond awCall awLoop awDraw ow retQ retC resQ Keeps
def chN : Nst Note (List Note) 1 7 := ⟨⟨fun p => [p.2], fun _ => rfl⟩, noteR, id, 24, 36⟩
/-- One more note of a channel. -/
def chS (acc : List (List Note)) (n : Note) : List (List Note) := match acc.getLast? with
  | some c => if (el c 0).at_ = n.at_ then acc.dropLast ++ [c ++ [n]] else acc ++ [[n]]
  | none => acc ++ [[n]]
def chF (l : List Note) (ch : Int) : List (List Note) := (l.filter fun n => decide (n.o = ch)).foldl chS []
theorem chF_take {l : List Note} {ch : Int} {k : Nat} (h : k < l.length) : chF (l.take (k + 1)) ch = if (el l k).o = ch then chS (chF (l.take k) ch) (el l k) else chF (l.take k) ch := by
  have e : l.take (k + 1) = l.take k ++ [el l k] := by rw [List.take_add_one]; simp [el, h]
  unfold chF
  rw [e, List.filter_append, List.foldl_append]
  by_cases ho : (el l k).o = ch
  · rw [if_pos ho]; simp [ho]
  · rw [if_neg ho]; simp [ho]
theorem chS_snoc (a : List (List Note)) (c : List Note) (n : Note) : chS (a ++ [c]) n = if (el c 0).at_ = n.at_ then a ++ [c ++ [n]] else (a ++ [c]) ++ [[n]] := by
  unfold chS
  simp
theorem chS_nil (n : Note) : chS [] n = [[n]] := rfl
def totN : List (List Note) → Nat
  | [] => 0
  | c :: r => c.length + totN r
theorem totN_app : ∀ a b, totN (a ++ b) = totN a + totN b
  | [], b => by simp [totN]
  | y :: a, b => by rw [List.cons_append, totN, totN, totN_app a b]; omega
/-- The chords, each in a row of its own. -/
structure ChT (B : Nat) (M : Mem) (v : Value) (cs : List (List Note)) (k : Nat) : Prop where
  ex : ∃ ps, ps.map (·.1) = cs ∧ TabP chN B M v ps ∧ ps.Pairwise fun p q => Sep p.2 q.2
  ne : ∀ c, c ∈ cs → c ≠ []
  tot : totN cs ≤ k
  len : cs.length ≤ k
theorem Acc.unput {α : Type} {k id n c : Nat} {R : RecV α k} {e : TypeId} {B : Nat} {M M' : Mem} {u : Value} {l : List α} (h : Acc R e B M u l) (hs : Sep (.slice (some ⟨id, 0, none⟩) n c) u) (hm : ∀ (q : Nat) s, q ≠ id → M[q]? = some s → M'[q]? = some s) : Acc R e B M' u l := by
  obtain ⟨A, n', c', rfl, hl, hA⟩ := h
  refine ⟨A, n', c', rfl, hl, ?_⟩
  rcases hA with hA | ⟨i, t, rfl, hid, hr⟩
  · exact .inl hA
  · exact .inr ⟨i, t, rfl, hid, hm i _ (Ne.symm (hs _ _ _ _ _ _ _ _ rfl rfl rfl rfl)) hr⟩
theorem fill_oneL (A : Option Addr) (n c : Nat) : Instr.fill (fun i => some (i, 1)) (zrow [.slice none 0 0] 1).toArray [(0, .slice A n c)] = some #[.slice A n c] := by rfl
theorem ch_new {b B id4 : Nat} {S : St} {M2 : Mem} {v : Value} {ps : List (List Note × Value)} {x : Note} {K : Value → Mem → Prop} (h : TabP chN B M2 v ps) (hp : ps.Pairwise fun p q => Sep p.2 q.2) (hk : Keeps M2 S.M) (hb : b ≤ B) (hB : B ≤ M2.length)
    (hr : S.M[M2.length]? = some (.live ⟨x.row, true, true, 36, 7⟩)) (hc : cellsAt S.M id4 0 1 = some [.slice (some ⟨M2.length, 0, none⟩) 1 1]) (hn : ps.length ≤ 100)
    (hK : ∀ v' M', TabP chN B M' v' (ps ++ [([x], .slice (some ⟨M2.length, 0, none⟩) 1 1)]) → (ps ++ [([x], Value.slice (some ⟨M2.length, 0, none⟩) 1 1)]).Pairwise (fun p q => Sep p.2 q.2) → Same B S.M M' → K v' M') :
    appendK Tryz.prog b S K 50 50 v (.slice (some ⟨id4, 0, none⟩) 1 1) := by
  have hl := (List.getElem?_eq_some_iff.1 hr).1
  have hu : Acc noteR 36 M2.length S.M (.slice (some ⟨M2.length, 0, none⟩) 1 1) [x] := ⟨_, 1, 1, rfl, rfl, .inr ⟨M2.length, true, rfl, Nat.le_refl _, by rw [hr]; simp [cellsL, noteR]⟩⟩
  refine (h.keeps hk).snoc (p := ([x], .slice (some ⟨M2.length, 0, none⟩) 1 1)) (by_ := 24) hb (by omega) (by simp [chN]) (by kernel_rfl) ?_ (by rfl) (hu.low hB) (hu.sep_new h.1 (Nat.le_refl _)).symm (by omega) (by unfold maxLen; omega) ?_
  · simp [srcOf, Tryz.underlying50, chN, hc]
  · intro v' M' a1 a2 a3
    refine hK v' M' a1 ?_ a2
    rw [List.pairwise_append]
    exact ⟨hp, List.pairwise_singleton _ _, fun p hpm q hq => by rw [List.mem_singleton.1 hq]; exact (hu.sep_new (h.2 p hpm).1 (Nat.le_refl _)).symm⟩
set_option maxHeartbeats 4000000 in
theorem chordsOf_i {M : Mem} {A : Option Addr} {n c : Nat} {l : List Note} (ch : Int) (h : Sl noteR M A n l) (hn : n ≤ 60) : Ctr Tryz.prog M.length 22 [.agg #[.slice A n c], iv ch] M fun r M' => ChT M.length M' r (chF l ch) n ∧ Keeps M M' := by
  have hl := h.1
  first | (refine ctr_fn Tryz.func22 rfl Tryz.ntmps22 Tryz.results22 rfl rfl (by simp) ?_) | (refine ctr_fnC Tryz.func22 rfl Tryz.ntmps22 Tryz.results22 rfl (by simp) ?_)
  simp
  refine awLoop_T (fun m T M' => ∃ (k : Nat) (v : Value), k + m = n ∧ Keeps M M' ∧ M.length + 2 ≤ M'.length ∧ ChT (M.length + 1) M' v (chF (l.take k) ch) k ∧ look T 13 = some (iv k) ∧ look T 12 = some (iv n) ∧ look T 11 = some (.slice A n c) ∧ look T 5 = some v ∧ look T 1 = some (iv ch)) n ⟨0, _, by omega, keeps_app _, by simp, ⟨⟨[], rfl, TabP.box (N := chN) (id := M.length + 1) (t := true) (Nat.le_refl _) (by simp [chN]), .nil⟩, (fun c h => by cases h), Nat.zero_le _, Nat.zero_le _⟩, by simp, by simp, by simp, by simp, by simp⟩ ?_
  rintro m T M1 ⟨k, v, hm, hK, hl1, hC, t13, t12, t11, t5, t1⟩
  by_cases hlt : k < n
  case neg =>
    obtain rfl : k = n := by omega
    rw [List.take_of_length_le (by omega)] at hC
    simp (disch := omega) [t13, t12, t11, t5]
    obtain ⟨⟨ps, e1, e2, e3⟩, h2, h3, h4⟩ := hC
    exact ⟨⟨⟨ps, e1, e2.low (by omega), e3⟩, h2, h3, h4⟩, hK⟩
  have hlt' : (k : Int) < n := by omega
  have hKl := hK.len
  obtain ⟨id, off, rfl, he, hcl⟩ := (h.keeps hK).at_ hlt
  have ld := note_load hcl
  simp (disch := omega) [t13, t12, t11, t5, t1, hlt, hlt', he, ld]
  obtain ⟨x, hx⟩ : ∃ x, x = el l k := ⟨_, rfl⟩
  have hstep := chF_take (ch := ch) (show k < l.length by omega)
  rw [← hx] at ld hstep ⊢
  obtain ⟨M2, hM2⟩ : ∃ M2 : Mem, M2 = M1 ++ [Slot.live ⟨[iv x.an, iv x.ad, iv x.ln, iv x.ld, iv x.k, iv x.u, iv x.o], true, true, 36, 7⟩] := ⟨_, rfl⟩
  have k12 : Keeps M1 M2 := by rw [hM2]; exact keeps_app _
  have l2 : M2.length = M1.length + 1 := by rw [hM2]; simp
  have bx : cellsAt M2 M1.length 0 7 = some [iv x.an, iv x.ad, iv x.ln, iv x.ld, iv x.k, iv x.u, iv x.o] := by rw [hM2]; simp
  have bx0 : cellsAt M2 M1.length 0 2 = some [iv x.an, iv x.ad] := by rw [hM2]; simp
  rw [← hM2]
  clear hM2
  by_cases ho : x.o = ch
  case neg =>
    rw [if_neg ho] at hstep
    simp (disch := omega) [ho, t13, wrap_in]
    obtain ⟨⟨ps, e1, e2, e3⟩, h2, h3, h4⟩ := hC
    exact lpI (m - 1) (by omega) ⟨k + 1, v, by omega, hK.trans k12, by omega, by rw [hstep]; exact ⟨⟨ps, e1, e2.keeps k12, e3⟩, h2, by omega, by omega⟩, by simp, by simp [t12], by simp [t11], by simp [t5], by simp [t1]⟩
  rw [if_pos ho] at hstep
  obtain ⟨⟨ps, e1, e2, e3⟩, h2, h3, h4⟩ := hC
  rw [← e1] at hstep h2 h3 h4
  rw [List.length_map] at h4
  obtain ⟨A2, c2, rfl⟩ := e2.one
  have e2' := e2.keeps k12
  simp (disch := omega) [ho, t5, wrap_in]
  refine awDraw_E 12 [[],[0],[1,0],[2,1,0],[2,1,0],[3,2,1,0,4],[5,3,2,1,0,4],[6,5,3,2,1,0,4],[7,6,5,3,2,1,0,4],[8,7,6,5,3,2,1,0,4],[2,1,0],[10,2,1,0],[9,8,7,6,5,3,2,1,0,4,11,10],[2,1,0,12,9,8,7,6,5,3,4,11,10]] (by kernel_rfl) (by kernel_rfl) ?_
  rcases List.eq_nil_or_concat ps with rfl | ⟨qs, q, rfl⟩
  · simp (disch := omega) [t13, t5, bx]
    rw [fill_oneL, ow_some]
    simp (disch := omega)
    refine ch_new (x := x) (M2 := M2) (B := M.length + 1) e2' e3 (keeps_app _) (by omega) (by omega) (by simp [Note.row]) (by simp [cellsAt]) (by simp) ?_
    intro v' M' g1 g2 g3
    simp (disch := omega) [t13, wrap_in]
    refine lpI (m - 1) (by omega) ⟨k + 1, v', by omega, g3.keeps ((hK.trans k12).trans (keeps_app _)) (by omega), by have := g3.1; simp at this; omega, ⟨⟨_, ?_, g1, g2⟩, ?_, ?_, ?_⟩, by simp, by simp [t12], by simp [t11], by simp, by simp [t1]⟩
    · rw [hstep]; simp [chS]
    · rw [hstep]; simp [chS]
    · rw [hstep]; simp [chS, totN]
    · rw [hstep]; simp [chS]
  try simp only [List.concat_eq_append] at *
  have hql : (qs ++ [q]).length = qs.length + 1 := by simp
  rw [hql] at h4
  have hq := e2'.2 q (by simp)
  have hqn : 0 < q.1.length := List.length_pos_iff.2 (h2 q.1 (by simp))
  obtain ⟨A3, n3, c3, hq2, hn3, hq3, -⟩ := hq.1.sl
  obtain ⟨A2', n2', c2', e2'', hn2, hs2, -⟩ := e2'.1.sl
  cases e2''
  obtain ⟨id2, off2, rfl, he2, hc2⟩ := hs2.at_ (i := qs.length) (by omega)
  have elq : el (qs ++ [q]) qs.length = q := by simp [el]
  rw [elq] at hc2
  obtain ⟨c0, u⟩ := q
  simp only at hq2 hqn
  subst hq2
  have hqn3 : n3 = c0.length := hn3.symm
  obtain ⟨id3, off3, rfl, he3, hc3⟩ := hq3.at_ (i := 0) (by omega)
  have d2 : cellAt M2 id2 (off2 + qs.length) = some (.slice (some ⟨id3, off3, none⟩) n3 c3) := by simpa using hc2 0 _ rfl
  obtain ⟨d3, -⟩ := note_cellsN hc3
  have ec : el (chN.sub c0) 0 = el c0 0 := rfl
  rw [ec] at d3
  simp only [Nat.zero_mul, Nat.add_zero] at d3
  have hn3' : 0 < n3 := by omega
  rw [hql] at e2' hq ⊢
  have hc0 : c0.length ≤ k := by rw [List.map_append, totN_app] at h3; simp [totN] at h3; omega
  simp (disch := omega) [t5, bx, bx0, d2, d3, he2, he3, wrap_in, hn3']
  refine ⟨by omega, ?_⟩
  have hsame : binV Tryz.prog .eql 34 (.agg #[iv (el c0 0).an, iv (el c0 0).ad]) (.agg #[iv x.an, iv x.ad]) = some (.bool (decide ((el c0 0).at_ = x.at_))) := by
    show binV Tryz.prog .eql 34 (.agg #[iv (el c0 0).at_.n, iv (el c0 0).at_.d]) (.agg #[iv x.at_.n, iv x.at_.d]) = _
    simp only [binV, eqV, Tryz.underlying34, frac_same, Option.map_some]
  rw [hsame]
  rw [List.map_append, List.map_singleton] at hstep
  rw [chS_snoc] at hstep
  by_cases hat : (el c0 0).at_ = x.at_
  case neg =>
    rw [if_neg hat] at hstep
    simp (disch := omega) [hat, t13, t5, bx, fill_oneL]
    refine ch_new (x := x) (M2 := M2) (B := M.length + 1) e2' e3 (keeps_app _) (by omega) (by omega) (by simp [Note.row]) (by simp [cellsAt]) (by omega) ?_
    intro v' M' g1 g2 g3
    simp (disch := omega) [t13, wrap_in]
    refine lpI (m - 1) (by omega) ⟨k + 1, v', by omega, g3.keeps ((hK.trans k12).trans (keeps_app _)) (by omega), by have := g3.1; simp at this; omega, ⟨⟨_, ?_, g1, g2⟩, ?_, ?_, ?_⟩, by simp, by simp [t12], by simp [t11], by simp, by simp [t1]⟩
    · rw [hstep]; simp
    · rw [hstep]
      intro c hc
      rcases List.mem_append.1 hc with hc | hc
      · exact h2 c (by rw [List.map_append]; exact hc)
      · rw [List.mem_singleton.1 hc]; simp
    · rw [hstep, totN_app]
      rw [List.map_append] at h3
      simp [totN] at h3 ⊢
      omega
    · rw [hstep]
      simp
      omega
  rw [if_pos hat] at hstep
  simp (disch := omega) [hat, t13, t5, bx]
  refine awDraw_M 8 [[],[],[],[],[2,3],[4,2,3],[],[6],[5,4,2,3,7,6],[0,1,2,3,4,5,6,7,8],[9,0,1,2,3,4,5,6,7,8]] [0,1] (by kernel_rfl) (by decide +kernel) (by decide +kernel) ?_
  simp (disch := omega) [hat, t13, t5, bx, d2, he2]
  refine ⟨by omega, ?_⟩
  have hpw := List.pairwise_append.1 e3
  have hsq : ∀ p, p ∈ qs → Sep p.2 (.slice (some ⟨id3, off3, none⟩) n3 c3) := fun p hp => hpw.2.2 p hp (c0, .slice (some ⟨id3, off3, none⟩) n3 c3) (by simp)
  have kx := keeps_app (M := M2) [Slot.live ⟨[iv x.an, iv x.ad, iv x.ln, iv x.ld, iv x.k, iv x.u, iv x.o], true, true, 36, 7⟩]
  have hu0 : Acc noteR 36 (M.length + 1) M2 (.slice (some ⟨id3, off3, none⟩) n3 c3) c0 := hq.1
  refine (hu0.keeps kx).append2 (a := x) (by_ := 56) (by omega) (by simp; omega) (by omega) (by simp) (by kernel_rfl) (by simp [srcOf, Tryz.underlying24, noteR, Note.row]) (by rfl) (show (c0.length + 1) * 56 ≤ _ by omega) (show c0.length + 1 ≤ _ by unfold maxLen; omega) ?_
  intro u' M3 a1 a2 a3
  obtain ⟨f1, f2⟩ := (e2'.1.keeps kx).aside hq.2.symm a3
  have f3 : ∀ p, p ∈ qs → Acc noteR 36 (M.length + 1) M3 p.2 p.1 ∧ Sep u' p.2 := fun p hp => Acc.aside (((e2'.2 p (by simp [hp])).1).keeps kx) (hsq p hp).symm a3
  obtain ⟨id4, ei, hid4, he4, hcell, hput⟩ := f1.put (b := M.length) (by omega) (by simp)
  cases ei
  obtain ⟨M4, p1, p2, p3, p4⟩ := hput qs.length (c0 ++ [x], u') (by simp) (by obtain ⟨_, _, _, rfl, -⟩ := a1; rfl)
  have p1' : putCells M.length M3 id2 qs.length [u'] = some M4 := by simpa [chN] using p1
  obtain ⟨A5, n5, c5, rfl, hn5, -, -⟩ := a1.sl
  simp (disch := omega) [t5, t13, he4, p1', wrap_in]
  refine ⟨by omega, ?_⟩
  have a21 := a2.1
  simp only [List.length_append, List.length_singleton] at a21
  have hSm : Same M.length (M2 ++ [Slot.live ⟨[iv x.an, iv x.ad, iv x.ln, iv x.ld, iv x.k, iv x.u, iv x.o], true, true, 36, 7⟩]) M4 := ⟨by rw [p3]; exact a2.1, fun i s hi hs => p4 i s (by omega) (a2.2 i s (by omega) hs)⟩
  have eset : (qs ++ [(c0, Value.slice (some ⟨id3, off3, none⟩) n3 c3)]).set qs.length (c0 ++ [x], Value.slice A5 n5 c5) = qs ++ [(c0 ++ [x], Value.slice A5 n5 c5)] := by simp
  rw [eset] at p2
  have gu : Acc noteR 36 (M.length + 1) M4 (.slice A5 n5 c5) (c0 ++ [x]) := a1.unput f2.symm p4
  have gq : ∀ p, p ∈ qs → Acc noteR 36 (M.length + 1) M4 p.2 p.1 := fun p hp => (f3 p hp).1.unput (e2'.2 p (by simp [hp])).2 p4
  refine lpI (m - 1) (by omega) ⟨k + 1, _, by omega, hSm.keeps ((hK.trans k12).trans kx) (Nat.le_refl _), by omega, ⟨⟨qs ++ [(c0 ++ [x], .slice A5 n5 c5)], by rw [hstep]; simp, ⟨p2, ?_⟩, ?_⟩, ?_, ?_, ?_⟩, by simp, by simp [t12], by simp [t11], by simp [t5], by simp [t1]⟩
  · intro p hp
    rcases List.mem_append.1 hp with hp | hp
    · exact ⟨gq p hp, (e2'.2 p (by simp [hp])).2⟩
    · rw [List.mem_singleton.1 hp]
      exact ⟨gu, f2.symm⟩
  · rw [List.pairwise_append]
    exact ⟨hpw.1, List.pairwise_singleton _ _, fun p hp q hq => by rw [List.mem_singleton.1 hq]; exact (f3 p hp).2.symm⟩
  · rw [hstep]
    intro c hc
    rcases List.mem_append.1 hc with hc | hc
    · exact h2 c (by simp at hc ⊢; exact .inl hc)
    · rw [List.mem_singleton.1 hc]; simp
  · rw [hstep, totN_app]
    rw [List.map_append, totN_app] at h3
    simp [totN] at h3 ⊢
    omega
  · rw [hstep]
    simp
    omega
end Go.Proofs.YtodbjnngkonklaaGreat

namespace Go.Proofs.YtodbjnngkonklaaGreat
open Go.RowKit
set_option linter.unusedVariables false
set_option linter.unusedSimpArgs false
set_option maxRecDepth 100000
attribute [local simp] List.getElem?_cons_zero
attribute [local irreducible] awCond awCall awLoop awDraw ow retQ retC resQ Keeps
theorem ChT.keeps {B : Nat} {M M' : Mem} {v : Value} {cs : List (List Note)} {k : Nat} (h : ChT B M v cs k) (hk : Keeps M M') : ChT B M' v cs k := by
  obtain ⟨⟨ps, e1, e2, e3⟩, h2, h3, h4⟩ := h
  exact ⟨⟨ps, e1, e2.keeps hk, e3⟩, h2, h3, h4⟩
theorem el_map {α β : Type} [Inhabited α] [Inhabited β] (f : α → β) {l : List α} {i : Nat} (h : i < l.length) : el (l.map f) i = f (el l i) := by simp [el, h]
theorem ChT.at_ {B : Nat} {M : Mem} {v : Value} {cs : List (List Note)} {k i : Nat} (h : ChT B M v cs k) (hi : i < cs.length) : ∃ id off c A2 n2 c2, v = .slice (some ⟨id, off, none⟩) cs.length c ∧ rowEsz M id = some 1 ∧ cellAt M id (off + i) = some (.slice (some A2) n2 c2) ∧ Sl noteR M (some A2) n2 (el cs i) ∧ 0 < n2 := by
  obtain ⟨⟨ps, e1, e2, e3⟩, h2, h3, h4⟩ := h
  subst e1
  rw [List.length_map] at hi ⊢
  obtain ⟨A, n, c, rfl, hn, hs, -⟩ := e2.1.sl
  obtain ⟨id, off, rfl, he, hc⟩ := hs.at_ (i := i) (by omega)
  have hm := el_mem hi
  obtain ⟨A2, n2, c2, hq, hn2, hs2, -⟩ := (e2.2 _ hm).1.sl
  have hne : 0 < n2 := by
    have := h2 (el ps i).1 (List.mem_map.2 ⟨_, hm, rfl⟩)
    have := List.length_pos_iff.2 this
    rw [← hn2]
    exact this
  obtain ⟨id2, off2, rfl, -, -⟩ := hs2.at_ hne
  refine ⟨id, off, c, _, n2, c2, by rw [hn], he, ?_, by rw [el_map _ hi]; exact hs2, hne⟩
  have := hc 0 _ rfl
  simpa [hq] using this
def okR (cs : List (List Note)) (i : Nat) : Bool := (el cs i).all (fun n => decide (n.len = (el (el cs i) 0).len) && decide (n.u = (el (el cs i) 0).u)) && (decide ((el cs i).length ≤ 6) && (decide (i = 0) || decide (0 ≤ cmpF (el (el cs i) 0).at_ (el (el cs (i - 1)) 0).fin)))
def areC (cs : List (List Note)) : Bool := (List.range cs.length).all (okR cs)
theorem areC_no {cs : List (List Note)} {i : Nat} (hi : i < cs.length) (h : okR cs i = false) : areC cs = false := by
  unfold areC
  rw [List.all_eq_false]
  exact ⟨i, List.mem_range.2 hi, by simp [h]⟩
theorem totN_mem : ∀ (cs : List (List Note)) c, c ∈ cs → c.length ≤ totN cs
  | [], c, h => by cases h
  | a :: r, c, h => by
    rw [totN]
    rcases List.mem_cons.1 h with h | h
    · rw [h]; omega
    · have := totN_mem r c h
      omega
theorem frac_is (a b : Frac) : binV Tryz.prog .neq 34 (.agg #[iv a.n, iv a.d]) (.agg #[iv b.n, iv b.d]) = some (.bool (decide (a ≠ b))) := by
  simp only [binV, eqV, Tryz.underlying34, frac_same, Option.map_some]
  simp
theorem okR_all {cs : List (List Note)} {i : Nat} (h : ∀ q, q < (el cs i).length → (el (el cs i) q).len = (el (el cs i) 0).len ∧ (el (el cs i) q).u = (el (el cs i) 0).u) : (el cs i).all (fun n => decide (n.len = (el (el cs i) 0).len) && decide (n.u = (el (el cs i) 0).u)) = true := by
  rw [List.all_eq_true]
  intro n hn
  obtain ⟨q, hq, rfl⟩ := List.mem_iff_getElem.1 hn
  have := h q hq
  have e : el (el cs i) q = (el cs i)[q] := by
    generalize el cs i = c at *
    simp [el, hq]
  rw [e] at this
  rw [this.1, this.2]
  simp
theorem okR_no {cs : List (List Note)} {i q : Nat} (hq : q < (el cs i).length) (h : ¬ ((el (el cs i) q).len = (el (el cs i) 0).len ∧ (el (el cs i) q).u = (el (el cs i) 0).u)) : okR cs i = false := by
  unfold okR
  rw [Bool.and_eq_false_iff]
  refine .inl ?_
  rw [List.all_eq_false]
  exact ⟨_, el_mem hq, by simpa using h⟩
set_option maxHeartbeats 4000000 in
theorem areChords_i {M : Mem} {B k : Nat} {v : Value} {cs : List (List Note)} (h : ChT B M v cs k) (hk : k ≤ 60) (hv : ∀ c, c ∈ cs → ∀ n, n ∈ c → noteB n = true) : Det Tryz.prog M.length 23 [v] M (.bool (areC cs)) M := by
  have hlen := h.len
  obtain ⟨A, c, rfl⟩ : ∃ A c, v = .slice A cs.length c := by
    obtain ⟨⟨ps, e1, e2, e3⟩, -, -, -⟩ := h
    obtain ⟨A, c, rfl⟩ := e2.one
    exact ⟨A, c, by rw [← e1, List.length_map]⟩
  first | (refine det_fn Tryz.func23 rfl Tryz.ntmps23 Tryz.results23 rfl rfl rfl (by simp) ?_) | (refine det_fnC Tryz.func23 rfl Tryz.ntmps23 Tryz.results23 rfl rfl (by simp) ?_)
  simp
  refine awLoop_T (fun m T M' => ∃ i : Nat, i + m = cs.length ∧ Keeps M M' ∧ (∀ j, j < i → okR cs j = true) ∧ look T 9 = some (iv i) ∧ look T 8 = some (iv cs.length) ∧ look T 7 = some (.slice A cs.length c) ∧ look T 0 = some (.slice A cs.length c)) cs.length ⟨0, by omega, Keeps.refl _, fun j hj => by omega, by simp, by simp, by simp, by simp⟩ ?_
  rintro m T M1 ⟨i, hm, hK, hok, t9, t8, t7, t0⟩
  have hKl := hK.len
  by_cases hlt : i < cs.length
  case neg =>
    obtain rfl : i = cs.length := by omega
    have e : areC cs = true := by unfold areC; rw [List.all_eq_true]; exact fun j hj => hok j (List.mem_range.1 hj)
    simp (disch := omega) [t9, t8, t7, e, hK]
  have hlt' : (i : Int) < cs.length := by omega
  obtain ⟨id, off, c', A2, n2, c2, ev, he, hcell, hs, hn2⟩ := (h.keeps hK).at_ hlt
  injection ev with ev1 ev2 ev3
  subst ev1 ev3
  have hl2 := hs.1
  have htm := totN_mem cs _ (el_mem hlt)
  have htot := h.tot
  simp (disch := omega) [t9, t8, t7, t0, hlt, hlt', he, hcell]
  have hsB := hs
  refine awLoop_T (fun m T M' => ∃ j : Nat, j + m = n2 ∧ Keeps M1 M' ∧ (∀ q, q < j → (el (el cs i) q).len = (el (el cs i) 0).len ∧ (el (el cs i) q).u = (el (el cs i) 0).u) ∧ look T 16 = some (iv j) ∧ look T 15 = some (iv n2) ∧ look T 14 = some (.slice (some A2) n2 c2) ∧ look T 4 = some (.slice (some A2) n2 c2) ∧ look T 3 = some (iv i) ∧ look T 9 = some (iv i) ∧ look T 8 = some (iv cs.length) ∧ look T 7 = some (.slice (some ⟨id, off, none⟩) cs.length c) ∧ look T 0 = some (.slice (some ⟨id, off, none⟩) cs.length c)) n2 ⟨0, by omega, Keeps.refl _, fun q hq => by omega, by simp, by simp, by simp, by simp, by simp, by simp [t9], by simp [t8], by simp [t7], by simp [t0]⟩ ?_
  clear t9 t8 t7 t0
  rintro m2 T2 M2 ⟨j, hm2, hK2, hj, t16, t15, t14, t4, t3, t9, t8, t7, t0⟩
  have hKl2 := hK2.len
  obtain ⟨id2, off2, e2, he2, hc0⟩ := (hs.keeps hK2).at_ hn2
  cases e2
  have ld0 := note_load hc0
  obtain ⟨lda, ldb⟩ := note_cellsN hc0
  obtain ⟨-, -, -, -, -, lc0, -⟩ := note_cells hc0
  simp only [Nat.zero_mul, Nat.add_zero] at ld0 lda ldb lc0
  by_cases hj2 : j < n2
  · have hj2' : (j : Int) < n2 := by omega
    obtain ⟨_, _, e3, he3, hc3⟩ := (hs.keeps hK2).at_ hj2
    cases e3
    have ld := note_load hc3
    simp (disch := omega) [t16, t15, t14, hj2, hj2', he3, ld]
    obtain ⟨x, hx⟩ : ∃ x, x = el (el cs i) j := ⟨_, rfl⟩
    obtain ⟨y, hy⟩ : ∃ y, y = el (el cs i) 0 := ⟨_, rfl⟩
    rw [← hx]
    rw [← hy] at ldb lc0 hj
    have hno : ¬ (x.len = y.len ∧ x.u = y.u) → okR cs i = false := fun hh => okR_no (q := j) (by omega) (by rw [← hx, ← hy]; exact hh)
    obtain ⟨M3, hM3⟩ : ∃ M3 : Mem, M3 = M2 ++ [Slot.live ⟨[iv x.an, iv x.ad, iv x.ln, iv x.ld, iv x.k, iv x.u, iv x.o], true, true, 36, 7⟩] := ⟨_, rfl⟩
    have k23 : Keeps M2 M3 := by rw [hM3]; exact keeps_app _
    have l3 : M3.length = M2.length + 1 := by rw [hM3]; simp
    have b2 : cellsAt M3 M2.length 2 2 = some [iv x.len.n, iv x.len.d] := by rw [hM3]; simp [cellsAt]; exact ⟨rfl, rfl⟩
    have b5 : cellAt M3 M2.length 5 = some (iv x.u) := by rw [hM3]; simp [cellAt]
    rw [← hM3]
    clear hM3
    have ldb3 : cellsAt M3 id2 (off2 + 2) 2 = some [iv y.len.n, iv y.len.d] := cellsAt_keeps k23 ldb
    have lc3 := cellAt_keeps k23 lc0
    have he23 := rowEsz_keeps k23 he2
    refine awDraw_E 14 [[],[0],[],[2],[3,2],[4,3,2],[1,0,5,4,3,2],[6,1,0,5,4,3,2],[7,6,1,0,5,4,3,2],[8,7,6,1,0,5,4,3,2],[7,6,1,0,5,4,3,2],[10,7,6,1,0,5,4,3,2],[11,10,7,6,1,0,5,4,3,2],[12,11,10,7,6,1,0,5,4,3,2],[9,8,7,6,1,0,5,4,3,2,13,12,11,10],[7,6,1,0,5,4,3,2,14,9,8,13,12,11,10]] (by kernel_rfl) (by kernel_rfl) ?_
    simp (disch := omega) [t4, hn2, he23, ldb3, lc3, b2, b5, frac_is]
    by_cases h1 : x.len = y.len
    case neg =>
      simp (disch := omega) [h1, areC_no hlt (hno fun e => h1 e.1), (hK.trans hK2).trans k23]
    simp (disch := omega) [h1, t4, hn2, he23, ldb3, lc3, b2, b5]
    by_cases h2 : x.u = y.u
    case neg =>
      simp (disch := omega) [h2, areC_no hlt (hno fun e => h2 e.2), (hK.trans hK2).trans k23]
    simp (disch := omega) [h2, t16, wrap_in]
    refine lpI (m2 - 1) (by omega) ⟨j + 1, by omega, hK2.trans k23, fun q hq => ?_, by simp, by simp [t15], by simp [t14], by simp [t4], by simp [t3], by simp [t9], by simp [t8], by simp [t7], by simp [t0]⟩
    rcases Nat.lt_or_ge q j with hqj | hqj
    · rw [← hy]; exact hj q hqj
    · obtain rfl : q = j := by omega
      rw [← hx, ← hy]; exact ⟨h1, h2⟩
  · obtain rfl : j = n2 := by omega
    simp (disch := omega) [t16, t15, t14, t4]
    have hall := okR_all (cs := cs) (i := i) (fun q hq => hj q (by omega))
    have hkk := hK.trans hK2
    have ep : okR cs i = (decide ((el cs i).length ≤ 6) && (decide (i = 0) || decide (0 ≤ cmpF (el (el cs i) 0).at_ (el (el cs (i - 1)) 0).fin))) := by unfold okR; rw [hall, Bool.true_and]
    rw [hl2] at ep
    refine awDraw_E 19 [[],[0],[1,0],[2,1,0],[3,2,1,0],[4,3,2,1,0],[5,4,3,2,1,0],[6,5,4,3,2,1,0],[7,6,5,4,3,2,1,0],[8,7,6,5,4,3,2,1,0],[9,8,7,6,5,4,3,2,1,0],[6,5,4,3,2,1,0],[6,5,4,3,2,1,0],[12,6,5,4,3,2,1,0],[11,6,5,4,3,2,1,0,13,12],[14,11,6,5,4,3,2,1,0,13,12],[15,14,11,6,5,4,3,2,1,0,13,12],[16,15,14,11,6,5,4,3,2,1,0,13,12],[17,16,15,14,11,6,5,4,3,2,1,0,13,12],[10,9,8,7,6,5,4,3,2,1,0,18,17,16,15,14,11,13,12],[19,10,9,8,7,6,5,4,3,2,1,0,18,17,16,15,14,11,13,12],[6,5,4,3,2,1,0,20,19,10,9,8,7,18,17,16,15,14,11,13,12],[3,2,1,0,21,6,5,4,20,19,10,9,8,7,18,17,16,15,14,11,13,12]] (by kernel_rfl) (by kernel_rfl) ?_
    by_cases h6 : j ≤ 6
    case neg =>
      have e : okR cs i = false := by rw [ep]; simp [h6]
      have h6' : 6 < j := by omega
      have h6'' : ¬ (j : Int) ≤ 6 := by omega
      have h6''' : (6 : Int) < j := by omega
      simp (disch := omega) [t4, h6, h6', h6'', h6''', areC_no hlt e, hkk]
    have h6' : ¬ 6 < j := by omega
    have h6'' : ¬ (6 : Int) < j := by omega
    by_cases hi0 : i = 0
    · subst hi0
      have e : okR cs 0 = true := by rw [ep]; simp [h6]
      simp (disch := omega) [t4, t3, h6', h6'', t9, wrap_in]
      exact lpI (m - 1) (by omega) ⟨1, by omega, hkk, (fun q hq => (show q = 0 by omega) ▸ e), by simp, by simp [t8], by simp [t7], by simp [t0]⟩
    have hi0' : (0 : Int) < i := by omega
    have hi0'' : 0 < i := by omega
    obtain ⟨_, _, _, A3, n3, c3, ev, he4, hcell4, hs4, hn4⟩ := (h.keeps hkk).at_ (i := i - 1) (by omega)
    injection ev with ev1 ev2 ev3
    cases ev1
    obtain ⟨id5, off5, e5, he5, hc5⟩ := hs4.at_ hn4
    cases e5
    have ld5 := note_load hc5
    obtain ⟨ld5a, -⟩ := note_cellsN hc5
    simp only [Nat.zero_mul, Nat.add_zero] at ld5 ld5a
    simp (disch := omega) [t4, t3, h6', h6'', t7, t0, hi0', hi0'', wrap_in, he2, hn2, lda, he4, hcell4, he5, ld5, hn4]
    refine ⟨by omega, ?_⟩
    refine awCall_det' (end_i (el (el cs (i - 1)) 0)) (by omega) ?_
    refine ⟨rfl, ?_⟩
    have v1 := hv _ (el_mem (l := cs) (i := i - 1) (by omega)) _ (el_mem (l := el cs (i - 1)) (i := 0) (by have := hs4.1; omega))
    have v0 := hv _ (el_mem hlt) _ (el_mem (l := el cs i) (i := 0) (by omega))
    refine awCall_det' (compare_i (el (el cs i) 0).at_ (el (el cs (i - 1)) 0).fin (note_end v0).1 (note_end v1).2) (by omega) ?_
    by_cases hc : 0 ≤ cmpF (el (el cs i) 0).at_ (el (el cs (i - 1)) 0).fin
    case neg =>
      have e : okR cs i = false := by rw [ep]; simp [h6, hi0, hc]
      have hc' : cmpF (el (el cs i) 0).at_ (el (el cs (i - 1)) 0).fin < 0 := by omega
      simp (disch := omega) [hc', areC_no hlt e, hkk]
    have e : okR cs i = true := by rw [ep]; simp [h6, hc]
    have hc' : ¬ cmpF (el (el cs i) 0).at_ (el (el cs (i - 1)) 0).fin < 0 := by omega
    simp (disch := omega) [hc', t9, wrap_in]
    refine lpI (m - 1) (by omega) ⟨i + 1, by omega, hkk, fun q hq => ?_, by simp, by simp [t8], by simp [t7], by simp [t0]⟩
    rcases Nat.lt_or_ge q i with hqi | hqi
    · exact hok q hqi
    · obtain rfl : q = i := by omega
      exact e
end Go.Proofs.YtodbjnngkonklaaGreat
