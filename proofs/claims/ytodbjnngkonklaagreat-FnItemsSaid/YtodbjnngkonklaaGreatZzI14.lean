/- Parts of the proof, together: Names of intervals, in both packages. The reference reads numbers: what it gives is a number and a yes or no. The reference moves pitches: what it gives with the code zero is valid. Tempo maps: how the program comes to a position, in plain words. Fractions as rational numbers; positions grow with beats. The order of notes; the reference sorts notes. The reference sorts notes. Tempo maps: the refer No conditions. -/
import Derived.Test.YtodbjnngkonklaaGreatZzI13
import Derived.Test.YtodbjnngkonklaaGreatZzI10
import Derived.Laws.Strings
import Derived.Test.YtodbjnngkonklaaGreatZzI9
import Derived.Test.YtodbjnngkonklaaGreatZzI8
import Derived.Test.YtodbjnngkonklaaGreatZzI11
namespace Go.Proofs.YtodbjnngkonklaaGreat
open Go.RowKit
set_option linter.unusedVariables false
set_option linter.unusedSimpArgs false
set_option maxRecDepth 100000
attribute [local simp] List.getElem?_cons_zero
attribute [local irreducible] awCond awCall awLoop awDraw ow retQ retC resQ Keeps
def augB : ByteArray := ⟨#[65]⟩
def dimB : ByteArray := ⟨#[100]⟩
def perB : ByteArray := ⟨#[80]⟩
def majB : ByteArray := ⟨#[77]⟩
def minB : ByteArray := ⟨#[109]⟩
def dshB : ByteArray := ⟨#[45]⟩
theorem augB_lit : (⟨#[65]⟩ : ByteArray) = augB := rfl
theorem dimB_lit : (⟨#[100]⟩ : ByteArray) = dimB := rfl
theorem perB_lit : (⟨#[80]⟩ : ByteArray) = perB := rfl
theorem majB_lit : (⟨#[77]⟩ : ByteArray) = majB := rfl
theorem minB_lit : (⟨#[109]⟩ : ByteArray) = minB := rfl
theorem dshB_lit : (⟨#[45]⟩ : ByteArray) = dshB := rfl
theorem augB_sz : augB.size = 1 := rfl
theorem dimB_sz : dimB.size = 1 := rfl
theorem dshB_sz : dshB.size = 1 := rfl
def perfB (s : Int) : Bool := decide (s % 7 = 0) || (decide (s % 7 = 3) || decide (s % 7 = 4))
def qualS (d s : Int) : ByteArray :=
  if 0 < d then repB augB d.toNat
  else if perfB s = true ∧ d = 0 then perB
  else if d = 0 then majB
  else if perfB s = true then repB dimB (-d).toNat
  else if d = -1 then minB
  else repB dimB (-d - 1).toNat
def nameS (i : Interval) : ByteArray := (if i.t < 0 then dshB else ⟨#[]⟩) ++ (qualS (overV i) (upI i).t ++ decS ((upI i).t + 1))
theorem qualS_size {d s : Int} (h : -3 ≤ d ∧ d ≤ 3) : (qualS d s).size ≤ 3 := by
  have z1 : perB.size = 1 := rfl
  have z2 : majB.size = 1 := rfl
  have z3 : minB.size = 1 := rfl
  unfold qualS
  repeat' split
  all_goals first | omega | (rw [repB_size]; first | (rw [augB_sz]; omega) | (rw [dimB_sz]; omega))
theorem intervalB_r {i : Interval} (h : intervalB i = true) : (-28 ≤ i.t ∧ i.t ≤ 28) ∧ (-100 ≤ i.h ∧ i.h ≤ 100) ∧ (-3 ≤ overV i ∧ overV i ≤ 3) ∧ (0 ≤ (upI i).t ∧ (upI i).t ≤ 28) := by
  unfold intervalB at h
  simp only [Bool.and_eq_true, inB_iff] at h
  refine ⟨h.1.1, h.1.2, h.2, ?_⟩
  unfold upI
  split <;> (try simp only) <;> omega






























































































theorem nameS_neg {i : Interval} (h : i.t < 0) : nameS i = dshB ++ (qualS (overV i) (upI i).t ++ decS ((upI i).t + 1)) := by unfold nameS; rw [if_pos h]
theorem nameS_pos {i : Interval} (h : ¬ i.t < 0) : nameS i = qualS (overV i) (upI i).t ++ decS ((upI i).t + 1) := by
  unfold nameS
  rw [if_neg h]
  exact ByteArray.empty_append
theorem perB_sz : perB.size = 1 := rfl
theorem majB_sz : majB.size = 1 := rfl
theorem minB_sz : minB.size = 1 := rfl
set_option maxHeartbeats 4000000 in
theorem l16Name_s {M : Mem} (i : Interval) (hi : intervalB i = true) : Det Tryz.prog M.length 109 [i.v] M (.string (nameS i)) M := by
  obtain ⟨i1, i2, i3, i4⟩ := intervalB_r hi
  have e2 : (upI i).t.tmod 7 = (upI i).t % 7 := Int.tmod_eq_emod_of_nonneg i4.1
  have z2 := decS_size ((upI i).t + 1) (by omega) (by omega)
  first | (refine det_fn Tryz.func109 rfl Tryz.ntmps109 Tryz.results109 rfl rfl rfl (by simp) ?_) | (refine det_fnC Tryz.func109 rfl Tryz.ntmps109 Tryz.results109 rfl rfl (by simp) ?_)
  simp
  refine awCall_det' (l16Over_s i i1 i2) (by first | omega | simp) ?_
  simp (disch := omega) [wrap_in]
  by_cases q0 : (upI i).t % 7 = 0
  · have hp : perfB (upI i).t = true := by unfold perfB; simp [q0]
    try simp (disch := omega) [e2, q0]
    by_cases d1 : 0 < (overV i)
    · have e : qualS (overV i) (upI i).t = repB augB ((overV i)).toNat := by unfold qualS; rw [if_pos d1]
      have zq := qualS_size (s := (upI i).t) i3
      rw [e] at zq
      by_cases hneg : i.t < 0
      · rw [nameS_neg hneg, e]
        simp (disch := omega) [d1, q0, e2, augB_lit, dimB_lit, perB_lit, majB_lit, minB_lit, wrap_in]
        refine awCall_det' (l16Times_s augB ((overV i)) (by omega) (by rw [augB_sz]; omega)) (by first | omega | simp) ?_
        simp (disch := first | omega | (simp only [ByteArray.size_append, dshB_sz]; omega)) [hneg, d1, q0, e2, augB_lit, dimB_lit, perB_lit, majB_lit, minB_lit, wrap_in, dshB_lit, str_addX]
        refine awCall_det' (l01Dec_a _ (by omega) (by omega)) (by first | omega | simp) ?_
        simp (disch := first | omega | (simp only [ByteArray.size_append, dshB_sz, perB_sz, majB_sz, minB_sz]; omega)) [hneg, str_addX, ByteArray.append_assoc, keeps_app]
      · rw [nameS_pos hneg, e]
        simp (disch := omega) [d1, q0, e2, augB_lit, dimB_lit, perB_lit, majB_lit, minB_lit, wrap_in]
        refine awCall_det' (l16Times_s augB ((overV i)) (by omega) (by rw [augB_sz]; omega)) (by first | omega | simp) ?_
        simp (disch := first | omega | (simp only [ByteArray.size_append, dshB_sz]; omega)) [hneg, d1, q0, e2, augB_lit, dimB_lit, perB_lit, majB_lit, minB_lit, wrap_in, dshB_lit, str_addX]
        refine awCall_det' (l01Dec_a _ (by omega) (by omega)) (by first | omega | simp) ?_
        simp (disch := first | omega | (simp only [ByteArray.size_append, dshB_sz, perB_sz, majB_sz, minB_sz]; omega)) [hneg, str_addX, ByteArray.append_assoc, keeps_app]
    by_cases d0 : (overV i) = 0
    · have e : qualS (overV i) (upI i).t = perB := by unfold qualS; rw [if_neg d1, if_pos ⟨hp, d0⟩]
      have zq := qualS_size (s := (upI i).t) i3
      rw [e] at zq
      by_cases hneg : i.t < 0
      · rw [nameS_neg hneg, e]
        simp (disch := first | omega | (simp only [ByteArray.size_append, dshB_sz, perB_sz, majB_sz, minB_sz]; omega)) [hneg, d0, q0, e2, augB_lit, dimB_lit, perB_lit, majB_lit, minB_lit, wrap_in, dshB_lit, str_addX]
        refine awCall_det' (l01Dec_a _ (by omega) (by omega)) (by first | omega | simp) ?_
        simp (disch := first | omega | (simp only [ByteArray.size_append, dshB_sz, perB_sz, majB_sz, minB_sz]; omega)) [hneg, str_addX, ByteArray.append_assoc, keeps_app]
      · rw [nameS_pos hneg, e]
        simp (disch := first | omega | (simp only [ByteArray.size_append, dshB_sz, perB_sz, majB_sz, minB_sz]; omega)) [hneg, d0, q0, e2, augB_lit, dimB_lit, perB_lit, majB_lit, minB_lit, wrap_in, dshB_lit, str_addX]
        refine awCall_det' (l01Dec_a _ (by omega) (by omega)) (by first | omega | simp) ?_
        simp (disch := first | omega | (simp only [ByteArray.size_append, dshB_sz, perB_sz, majB_sz, minB_sz]; omega)) [hneg, str_addX, ByteArray.append_assoc, keeps_app]
    have e : qualS (overV i) (upI i).t = repB dimB (-(overV i)).toNat := by unfold qualS; rw [if_neg d1, if_neg (fun h => d0 h.2), if_neg d0, if_pos hp]
    have zq := qualS_size (s := (upI i).t) i3
    rw [e] at zq
    by_cases hneg : i.t < 0
    · rw [nameS_neg hneg, e]
      simp (disch := omega) [d1, d0, q0, e2, augB_lit, dimB_lit, perB_lit, majB_lit, minB_lit, wrap_in]
      refine awCall_det' (l16Times_s dimB (-(overV i)) (by omega) (by rw [dimB_sz]; omega)) (by first | omega | simp) ?_
      simp (disch := first | omega | (simp only [ByteArray.size_append, dshB_sz]; omega)) [hneg, d1, d0, q0, e2, augB_lit, dimB_lit, perB_lit, majB_lit, minB_lit, wrap_in, dshB_lit, str_addX]
      refine awCall_det' (l01Dec_a _ (by omega) (by omega)) (by first | omega | simp) ?_
      simp (disch := first | omega | (simp only [ByteArray.size_append, dshB_sz, perB_sz, majB_sz, minB_sz]; omega)) [hneg, str_addX, ByteArray.append_assoc, keeps_app]
    · rw [nameS_pos hneg, e]
      simp (disch := omega) [d1, d0, q0, e2, augB_lit, dimB_lit, perB_lit, majB_lit, minB_lit, wrap_in]
      refine awCall_det' (l16Times_s dimB (-(overV i)) (by omega) (by rw [dimB_sz]; omega)) (by first | omega | simp) ?_
      simp (disch := first | omega | (simp only [ByteArray.size_append, dshB_sz]; omega)) [hneg, d1, d0, q0, e2, augB_lit, dimB_lit, perB_lit, majB_lit, minB_lit, wrap_in, dshB_lit, str_addX]
      refine awCall_det' (l01Dec_a _ (by omega) (by omega)) (by first | omega | simp) ?_
      simp (disch := first | omega | (simp only [ByteArray.size_append, dshB_sz, perB_sz, majB_sz, minB_sz]; omega)) [hneg, str_addX, ByteArray.append_assoc, keeps_app]
  by_cases q3 : (upI i).t % 7 = 3
  · have hp : perfB (upI i).t = true := by unfold perfB; simp [q0, q3]
    try simp (disch := omega) [e2, q0, q3]
    by_cases d1 : 0 < (overV i)
    · have e : qualS (overV i) (upI i).t = repB augB ((overV i)).toNat := by unfold qualS; rw [if_pos d1]
      have zq := qualS_size (s := (upI i).t) i3
      rw [e] at zq
      by_cases hneg : i.t < 0
      · rw [nameS_neg hneg, e]
        simp (disch := omega) [d1, q0, q3, e2, augB_lit, dimB_lit, perB_lit, majB_lit, minB_lit, wrap_in]
        refine awCall_det' (l16Times_s augB ((overV i)) (by omega) (by rw [augB_sz]; omega)) (by first | omega | simp) ?_
        simp (disch := first | omega | (simp only [ByteArray.size_append, dshB_sz]; omega)) [hneg, d1, q0, q3, e2, augB_lit, dimB_lit, perB_lit, majB_lit, minB_lit, wrap_in, dshB_lit, str_addX]
        refine awCall_det' (l01Dec_a _ (by omega) (by omega)) (by first | omega | simp) ?_
        simp (disch := first | omega | (simp only [ByteArray.size_append, dshB_sz, perB_sz, majB_sz, minB_sz]; omega)) [hneg, str_addX, ByteArray.append_assoc, keeps_app]
      · rw [nameS_pos hneg, e]
        simp (disch := omega) [d1, q0, q3, e2, augB_lit, dimB_lit, perB_lit, majB_lit, minB_lit, wrap_in]
        refine awCall_det' (l16Times_s augB ((overV i)) (by omega) (by rw [augB_sz]; omega)) (by first | omega | simp) ?_
        simp (disch := first | omega | (simp only [ByteArray.size_append, dshB_sz]; omega)) [hneg, d1, q0, q3, e2, augB_lit, dimB_lit, perB_lit, majB_lit, minB_lit, wrap_in, dshB_lit, str_addX]
        refine awCall_det' (l01Dec_a _ (by omega) (by omega)) (by first | omega | simp) ?_
        simp (disch := first | omega | (simp only [ByteArray.size_append, dshB_sz, perB_sz, majB_sz, minB_sz]; omega)) [hneg, str_addX, ByteArray.append_assoc, keeps_app]
    by_cases d0 : (overV i) = 0
    · have e : qualS (overV i) (upI i).t = perB := by unfold qualS; rw [if_neg d1, if_pos ⟨hp, d0⟩]
      have zq := qualS_size (s := (upI i).t) i3
      rw [e] at zq
      by_cases hneg : i.t < 0
      · rw [nameS_neg hneg, e]
        simp (disch := first | omega | (simp only [ByteArray.size_append, dshB_sz, perB_sz, majB_sz, minB_sz]; omega)) [hneg, d0, q0, q3, e2, augB_lit, dimB_lit, perB_lit, majB_lit, minB_lit, wrap_in, dshB_lit, str_addX]
        refine awCall_det' (l01Dec_a _ (by omega) (by omega)) (by first | omega | simp) ?_
        simp (disch := first | omega | (simp only [ByteArray.size_append, dshB_sz, perB_sz, majB_sz, minB_sz]; omega)) [hneg, str_addX, ByteArray.append_assoc, keeps_app]
      · rw [nameS_pos hneg, e]
        simp (disch := first | omega | (simp only [ByteArray.size_append, dshB_sz, perB_sz, majB_sz, minB_sz]; omega)) [hneg, d0, q0, q3, e2, augB_lit, dimB_lit, perB_lit, majB_lit, minB_lit, wrap_in, dshB_lit, str_addX]
        refine awCall_det' (l01Dec_a _ (by omega) (by omega)) (by first | omega | simp) ?_
        simp (disch := first | omega | (simp only [ByteArray.size_append, dshB_sz, perB_sz, majB_sz, minB_sz]; omega)) [hneg, str_addX, ByteArray.append_assoc, keeps_app]
    have e : qualS (overV i) (upI i).t = repB dimB (-(overV i)).toNat := by unfold qualS; rw [if_neg d1, if_neg (fun h => d0 h.2), if_neg d0, if_pos hp]
    have zq := qualS_size (s := (upI i).t) i3
    rw [e] at zq
    by_cases hneg : i.t < 0
    · rw [nameS_neg hneg, e]
      simp (disch := omega) [d1, d0, q0, q3, e2, augB_lit, dimB_lit, perB_lit, majB_lit, minB_lit, wrap_in]
      refine awCall_det' (l16Times_s dimB (-(overV i)) (by omega) (by rw [dimB_sz]; omega)) (by first | omega | simp) ?_
      simp (disch := first | omega | (simp only [ByteArray.size_append, dshB_sz]; omega)) [hneg, d1, d0, q0, q3, e2, augB_lit, dimB_lit, perB_lit, majB_lit, minB_lit, wrap_in, dshB_lit, str_addX]
      refine awCall_det' (l01Dec_a _ (by omega) (by omega)) (by first | omega | simp) ?_
      simp (disch := first | omega | (simp only [ByteArray.size_append, dshB_sz, perB_sz, majB_sz, minB_sz]; omega)) [hneg, str_addX, ByteArray.append_assoc, keeps_app]
    · rw [nameS_pos hneg, e]
      simp (disch := omega) [d1, d0, q0, q3, e2, augB_lit, dimB_lit, perB_lit, majB_lit, minB_lit, wrap_in]
      refine awCall_det' (l16Times_s dimB (-(overV i)) (by omega) (by rw [dimB_sz]; omega)) (by first | omega | simp) ?_
      simp (disch := first | omega | (simp only [ByteArray.size_append, dshB_sz]; omega)) [hneg, d1, d0, q0, q3, e2, augB_lit, dimB_lit, perB_lit, majB_lit, minB_lit, wrap_in, dshB_lit, str_addX]
      refine awCall_det' (l01Dec_a _ (by omega) (by omega)) (by first | omega | simp) ?_
      simp (disch := first | omega | (simp only [ByteArray.size_append, dshB_sz, perB_sz, majB_sz, minB_sz]; omega)) [hneg, str_addX, ByteArray.append_assoc, keeps_app]
  by_cases q4 : (upI i).t % 7 = 4
  · have hp : perfB (upI i).t = true := by unfold perfB; simp [q0, q3, q4]
    try simp (disch := omega) [e2, q0, q3, q4]
    by_cases d1 : 0 < (overV i)
    · have e : qualS (overV i) (upI i).t = repB augB ((overV i)).toNat := by unfold qualS; rw [if_pos d1]
      have zq := qualS_size (s := (upI i).t) i3
      rw [e] at zq
      by_cases hneg : i.t < 0
      · rw [nameS_neg hneg, e]
        simp (disch := omega) [d1, q0, q3, q4, e2, augB_lit, dimB_lit, perB_lit, majB_lit, minB_lit, wrap_in]
        refine awCall_det' (l16Times_s augB ((overV i)) (by omega) (by rw [augB_sz]; omega)) (by first | omega | simp) ?_
        simp (disch := first | omega | (simp only [ByteArray.size_append, dshB_sz]; omega)) [hneg, d1, q0, q3, q4, e2, augB_lit, dimB_lit, perB_lit, majB_lit, minB_lit, wrap_in, dshB_lit, str_addX]
        refine awCall_det' (l01Dec_a _ (by omega) (by omega)) (by first | omega | simp) ?_
        simp (disch := first | omega | (simp only [ByteArray.size_append, dshB_sz, perB_sz, majB_sz, minB_sz]; omega)) [hneg, str_addX, ByteArray.append_assoc, keeps_app]
      · rw [nameS_pos hneg, e]
        simp (disch := omega) [d1, q0, q3, q4, e2, augB_lit, dimB_lit, perB_lit, majB_lit, minB_lit, wrap_in]
        refine awCall_det' (l16Times_s augB ((overV i)) (by omega) (by rw [augB_sz]; omega)) (by first | omega | simp) ?_
        simp (disch := first | omega | (simp only [ByteArray.size_append, dshB_sz]; omega)) [hneg, d1, q0, q3, q4, e2, augB_lit, dimB_lit, perB_lit, majB_lit, minB_lit, wrap_in, dshB_lit, str_addX]
        refine awCall_det' (l01Dec_a _ (by omega) (by omega)) (by first | omega | simp) ?_
        simp (disch := first | omega | (simp only [ByteArray.size_append, dshB_sz, perB_sz, majB_sz, minB_sz]; omega)) [hneg, str_addX, ByteArray.append_assoc, keeps_app]
    by_cases d0 : (overV i) = 0
    · have e : qualS (overV i) (upI i).t = perB := by unfold qualS; rw [if_neg d1, if_pos ⟨hp, d0⟩]
      have zq := qualS_size (s := (upI i).t) i3
      rw [e] at zq
      by_cases hneg : i.t < 0
      · rw [nameS_neg hneg, e]
        simp (disch := first | omega | (simp only [ByteArray.size_append, dshB_sz, perB_sz, majB_sz, minB_sz]; omega)) [hneg, d0, q0, q3, q4, e2, augB_lit, dimB_lit, perB_lit, majB_lit, minB_lit, wrap_in, dshB_lit, str_addX]
        refine awCall_det' (l01Dec_a _ (by omega) (by omega)) (by first | omega | simp) ?_
        simp (disch := first | omega | (simp only [ByteArray.size_append, dshB_sz, perB_sz, majB_sz, minB_sz]; omega)) [hneg, str_addX, ByteArray.append_assoc, keeps_app]
      · rw [nameS_pos hneg, e]
        simp (disch := first | omega | (simp only [ByteArray.size_append, dshB_sz, perB_sz, majB_sz, minB_sz]; omega)) [hneg, d0, q0, q3, q4, e2, augB_lit, dimB_lit, perB_lit, majB_lit, minB_lit, wrap_in, dshB_lit, str_addX]
        refine awCall_det' (l01Dec_a _ (by omega) (by omega)) (by first | omega | simp) ?_
        simp (disch := first | omega | (simp only [ByteArray.size_append, dshB_sz, perB_sz, majB_sz, minB_sz]; omega)) [hneg, str_addX, ByteArray.append_assoc, keeps_app]
    have e : qualS (overV i) (upI i).t = repB dimB (-(overV i)).toNat := by unfold qualS; rw [if_neg d1, if_neg (fun h => d0 h.2), if_neg d0, if_pos hp]
    have zq := qualS_size (s := (upI i).t) i3
    rw [e] at zq
    by_cases hneg : i.t < 0
    · rw [nameS_neg hneg, e]
      simp (disch := omega) [d1, d0, q0, q3, q4, e2, augB_lit, dimB_lit, perB_lit, majB_lit, minB_lit, wrap_in]
      refine awCall_det' (l16Times_s dimB (-(overV i)) (by omega) (by rw [dimB_sz]; omega)) (by first | omega | simp) ?_
      simp (disch := first | omega | (simp only [ByteArray.size_append, dshB_sz]; omega)) [hneg, d1, d0, q0, q3, q4, e2, augB_lit, dimB_lit, perB_lit, majB_lit, minB_lit, wrap_in, dshB_lit, str_addX]
      refine awCall_det' (l01Dec_a _ (by omega) (by omega)) (by first | omega | simp) ?_
      simp (disch := first | omega | (simp only [ByteArray.size_append, dshB_sz, perB_sz, majB_sz, minB_sz]; omega)) [hneg, str_addX, ByteArray.append_assoc, keeps_app]
    · rw [nameS_pos hneg, e]
      simp (disch := omega) [d1, d0, q0, q3, q4, e2, augB_lit, dimB_lit, perB_lit, majB_lit, minB_lit, wrap_in]
      refine awCall_det' (l16Times_s dimB (-(overV i)) (by omega) (by rw [dimB_sz]; omega)) (by first | omega | simp) ?_
      simp (disch := first | omega | (simp only [ByteArray.size_append, dshB_sz]; omega)) [hneg, d1, d0, q0, q3, q4, e2, augB_lit, dimB_lit, perB_lit, majB_lit, minB_lit, wrap_in, dshB_lit, str_addX]
      refine awCall_det' (l01Dec_a _ (by omega) (by omega)) (by first | omega | simp) ?_
      simp (disch := first | omega | (simp only [ByteArray.size_append, dshB_sz, perB_sz, majB_sz, minB_sz]; omega)) [hneg, str_addX, ByteArray.append_assoc, keeps_app]
  have hp : ¬ perfB (upI i).t = true := by unfold perfB; simp [q0, q3, q4]
  try simp (disch := omega) [e2, q0, q3, q4]
  by_cases d1 : 0 < (overV i)
  · have e : qualS (overV i) (upI i).t = repB augB ((overV i)).toNat := by unfold qualS; rw [if_pos d1]
    have zq := qualS_size (s := (upI i).t) i3
    rw [e] at zq
    by_cases hneg : i.t < 0
    · rw [nameS_neg hneg, e]
      simp (disch := omega) [d1, q0, q3, q4, e2, augB_lit, dimB_lit, perB_lit, majB_lit, minB_lit, wrap_in]
      refine awCall_det' (l16Times_s augB ((overV i)) (by omega) (by rw [augB_sz]; omega)) (by first | omega | simp) ?_
      simp (disch := first | omega | (simp only [ByteArray.size_append, dshB_sz]; omega)) [hneg, d1, q0, q3, q4, e2, augB_lit, dimB_lit, perB_lit, majB_lit, minB_lit, wrap_in, dshB_lit, str_addX]
      refine awCall_det' (l01Dec_a _ (by omega) (by omega)) (by first | omega | simp) ?_
      simp (disch := first | omega | (simp only [ByteArray.size_append, dshB_sz, perB_sz, majB_sz, minB_sz]; omega)) [hneg, str_addX, ByteArray.append_assoc, keeps_app]
    · rw [nameS_pos hneg, e]
      simp (disch := omega) [d1, q0, q3, q4, e2, augB_lit, dimB_lit, perB_lit, majB_lit, minB_lit, wrap_in]
      refine awCall_det' (l16Times_s augB ((overV i)) (by omega) (by rw [augB_sz]; omega)) (by first | omega | simp) ?_
      simp (disch := first | omega | (simp only [ByteArray.size_append, dshB_sz]; omega)) [hneg, d1, q0, q3, q4, e2, augB_lit, dimB_lit, perB_lit, majB_lit, minB_lit, wrap_in, dshB_lit, str_addX]
      refine awCall_det' (l01Dec_a _ (by omega) (by omega)) (by first | omega | simp) ?_
      simp (disch := first | omega | (simp only [ByteArray.size_append, dshB_sz, perB_sz, majB_sz, minB_sz]; omega)) [hneg, str_addX, ByteArray.append_assoc, keeps_app]
  by_cases d0 : (overV i) = 0
  · have e : qualS (overV i) (upI i).t = majB := by unfold qualS; rw [if_neg d1, if_neg (fun h => hp h.1), if_pos d0]
    have zq := qualS_size (s := (upI i).t) i3
    rw [e] at zq
    by_cases hneg : i.t < 0
    · rw [nameS_neg hneg, e]
      simp (disch := first | omega | (simp only [ByteArray.size_append, dshB_sz, perB_sz, majB_sz, minB_sz]; omega)) [hneg, d0, q0, q3, q4, e2, augB_lit, dimB_lit, perB_lit, majB_lit, minB_lit, wrap_in, dshB_lit, str_addX]
      refine awCall_det' (l01Dec_a _ (by omega) (by omega)) (by first | omega | simp) ?_
      simp (disch := first | omega | (simp only [ByteArray.size_append, dshB_sz, perB_sz, majB_sz, minB_sz]; omega)) [hneg, str_addX, ByteArray.append_assoc, keeps_app]
    · rw [nameS_pos hneg, e]
      simp (disch := first | omega | (simp only [ByteArray.size_append, dshB_sz, perB_sz, majB_sz, minB_sz]; omega)) [hneg, d0, q0, q3, q4, e2, augB_lit, dimB_lit, perB_lit, majB_lit, minB_lit, wrap_in, dshB_lit, str_addX]
      refine awCall_det' (l01Dec_a _ (by omega) (by omega)) (by first | omega | simp) ?_
      simp (disch := first | omega | (simp only [ByteArray.size_append, dshB_sz, perB_sz, majB_sz, minB_sz]; omega)) [hneg, str_addX, ByteArray.append_assoc, keeps_app]
  by_cases dm : (overV i) = -1
  · have e : qualS (overV i) (upI i).t = minB := by unfold qualS; rw [if_neg d1, if_neg (fun h => hp h.1), if_neg d0, if_neg hp, if_pos dm]
    have zq := qualS_size (s := (upI i).t) i3
    rw [e] at zq
    by_cases hneg : i.t < 0
    · rw [nameS_neg hneg, e]
      simp (disch := first | omega | (simp only [ByteArray.size_append, dshB_sz, perB_sz, majB_sz, minB_sz]; omega)) [hneg, dm, q0, q3, q4, e2, augB_lit, dimB_lit, perB_lit, majB_lit, minB_lit, wrap_in, dshB_lit, str_addX]
      refine awCall_det' (l01Dec_a _ (by omega) (by omega)) (by first | omega | simp) ?_
      simp (disch := first | omega | (simp only [ByteArray.size_append, dshB_sz, perB_sz, majB_sz, minB_sz]; omega)) [hneg, str_addX, ByteArray.append_assoc, keeps_app]
    · rw [nameS_pos hneg, e]
      simp (disch := first | omega | (simp only [ByteArray.size_append, dshB_sz, perB_sz, majB_sz, minB_sz]; omega)) [hneg, dm, q0, q3, q4, e2, augB_lit, dimB_lit, perB_lit, majB_lit, minB_lit, wrap_in, dshB_lit, str_addX]
      refine awCall_det' (l01Dec_a _ (by omega) (by omega)) (by first | omega | simp) ?_
      simp (disch := first | omega | (simp only [ByteArray.size_append, dshB_sz, perB_sz, majB_sz, minB_sz]; omega)) [hneg, str_addX, ByteArray.append_assoc, keeps_app]
  rcases (show (overV i) = -2 ∨ (overV i) = -3 by omega) with d2 | d2
  · have e : qualS (overV i) (upI i).t = repB dimB 1 := by unfold qualS; rw [if_neg d1, if_neg (fun h => hp h.1), if_neg d0, if_neg hp, if_neg dm, d2]; rfl
    have zq := qualS_size (s := (upI i).t) i3
    rw [e] at zq
    by_cases hneg : i.t < 0
    · rw [nameS_neg hneg, e]
      simp (disch := omega) [d2, q0, q3, q4, e2, augB_lit, dimB_lit, perB_lit, majB_lit, minB_lit, wrap_in]
      refine awCall_det' (l16Times_s dimB 1 (by omega) (by rw [dimB_sz]; omega)) (by first | omega | simp) ?_
      simp (disch := first | omega | (simp only [ByteArray.size_append, dshB_sz]; omega)) [hneg, d2, q0, q3, q4, e2, augB_lit, dimB_lit, perB_lit, majB_lit, minB_lit, wrap_in, dshB_lit, str_addX]
      refine awCall_det' (l01Dec_a _ (by omega) (by omega)) (by first | omega | simp) ?_
      simp (disch := first | omega | (simp only [ByteArray.size_append, dshB_sz, perB_sz, majB_sz, minB_sz]; omega)) [hneg, str_addX, ByteArray.append_assoc, keeps_app]
    · rw [nameS_pos hneg, e]
      simp (disch := omega) [d2, q0, q3, q4, e2, augB_lit, dimB_lit, perB_lit, majB_lit, minB_lit, wrap_in]
      refine awCall_det' (l16Times_s dimB 1 (by omega) (by rw [dimB_sz]; omega)) (by first | omega | simp) ?_
      simp (disch := first | omega | (simp only [ByteArray.size_append, dshB_sz]; omega)) [hneg, d2, q0, q3, q4, e2, augB_lit, dimB_lit, perB_lit, majB_lit, minB_lit, wrap_in, dshB_lit, str_addX]
      refine awCall_det' (l01Dec_a _ (by omega) (by omega)) (by first | omega | simp) ?_
      simp (disch := first | omega | (simp only [ByteArray.size_append, dshB_sz, perB_sz, majB_sz, minB_sz]; omega)) [hneg, str_addX, ByteArray.append_assoc, keeps_app]
  · have e : qualS (overV i) (upI i).t = repB dimB 2 := by unfold qualS; rw [if_neg d1, if_neg (fun h => hp h.1), if_neg d0, if_neg hp, if_neg dm, d2]; rfl
    have zq := qualS_size (s := (upI i).t) i3
    rw [e] at zq
    by_cases hneg : i.t < 0
    · rw [nameS_neg hneg, e]
      simp (disch := omega) [d2, q0, q3, q4, e2, augB_lit, dimB_lit, perB_lit, majB_lit, minB_lit, wrap_in]
      refine awCall_det' (l16Times_s dimB 2 (by omega) (by rw [dimB_sz]; omega)) (by first | omega | simp) ?_
      simp (disch := first | omega | (simp only [ByteArray.size_append, dshB_sz]; omega)) [hneg, d2, q0, q3, q4, e2, augB_lit, dimB_lit, perB_lit, majB_lit, minB_lit, wrap_in, dshB_lit, str_addX]
      refine awCall_det' (l01Dec_a _ (by omega) (by omega)) (by first | omega | simp) ?_
      simp (disch := first | omega | (simp only [ByteArray.size_append, dshB_sz, perB_sz, majB_sz, minB_sz]; omega)) [hneg, str_addX, ByteArray.append_assoc, keeps_app]
    · rw [nameS_pos hneg, e]
      simp (disch := omega) [d2, q0, q3, q4, e2, augB_lit, dimB_lit, perB_lit, majB_lit, minB_lit, wrap_in]
      refine awCall_det' (l16Times_s dimB 2 (by omega) (by rw [dimB_sz]; omega)) (by first | omega | simp) ?_
      simp (disch := first | omega | (simp only [ByteArray.size_append, dshB_sz]; omega)) [hneg, d2, q0, q3, q4, e2, augB_lit, dimB_lit, perB_lit, majB_lit, minB_lit, wrap_in, dshB_lit, str_addX]
      refine awCall_det' (l01Dec_a _ (by omega) (by omega)) (by first | omega | simp) ?_
      simp (disch := first | omega | (simp only [ByteArray.size_append, dshB_sz, perB_sz, majB_sz, minB_sz]; omega)) [hneg, str_addX, ByteArray.append_assoc, keeps_app]
end Go.Proofs.YtodbjnngkonklaaGreat

namespace Go.Proofs.YtodbjnngkonklaaGreat
open Go.RowKit
set_option linter.unusedVariables false
set_option linter.unusedSimpArgs false
set_option maxRecDepth 100000
attribute [local simp] List.getElem?_cons_zero
attribute [local irreducible] awCond awCall awLoop awDraw ow retQ retC resQ Keeps
def strE (x y : ByteArray) : Bool := x.toList == y.toList
theorem strV_eqE (x y : ByteArray) : strV .eql x y = some (.bool (strE x y)) := rfl
theorem strV_neE (x y : ByteArray) : strV .neq x y = some (.bool (!strE x y)) := rfl
theorem strE_nil (x : ByteArray) : strE x ⟨#[]⟩ = decide (x.size = 0) := by
  have h : x.toList = x.data.toList := ByteArray.toList_eq x
  have h2 : (⟨#[]⟩ : ByteArray).toList = [] := by rw [ByteArray.toList_eq]
  have h3 : x.data.toList.length = x.size := rfl
  rw [Bool.eq_iff_iff]
  unfold strE
  rw [h, h2, beq_iff_eq, decide_eq_true_eq, ← h3, List.length_eq_zero_iff]
theorem ext_size (s : ByteArray) (a b : Nat) : (s.extract a b).size ≤ s.size := by
  rw [ByteArray.size_extract]; omega
theorem strAt_in (s : ByteArray) (i : Nat) : 0 ≤ strAt s i ∧ strAt s i ≤ 255 := by
  unfold strAt
  have := (s.data.toList.getD i 0).toNat_lt
  omega
theorem l01Digit_w {M : Mem} (c : Int) : Det Tryz.prog M.length 107 [.int .u8 c] M (.bool (decide (48 ≤ c) && decide (c ≤ 57))) M := by
  first | (refine det_fn Tryz.func107 rfl Tryz.ntmps107 Tryz.results107 rfl rfl rfl (by simp) ?_) | (refine det_fnC Tryz.func107 rfl Tryz.ntmps107 Tryz.results107 rfl rfl (by simp) ?_)
  simp
  by_cases h : 48 ≤ c
  · simp [h, Keeps.refl]
  · simp [h, Keeps.refl]
set_option maxHeartbeats 2000000 in
theorem l01Number_w {M : Mem} (s : ByteArray) (hs : s.size ≤ 1000) : Ctr Tryz.prog M.length 108 [.string s] M fun r M' => ∃ (n : Int) (ok : Bool), r = .tuple #[iv n, .bool ok] ∧ Keeps M M' := by
  first | (refine ctr_fn Tryz.func108 rfl Tryz.ntmps108 Tryz.results108 rfl rfl (by simp) ?_) | (refine ctr_fnC Tryz.func108 rfl Tryz.ntmps108 Tryz.results108 rfl (by simp) ?_)
  simp [-aw_seq]
  rw [aw_seq]
  simp [-aw_seq]
  rw [aw_seq]
  simp [-aw_seq]
  rw [aw_seq]
  refine awThen_join (fun T' M' => M' = M ∧ ∃ t : ByteArray, t.size ≤ 1000 ∧ look T' 4 = some (.string t) ∧ look T' 0 = some (.string s)) ?_ ?_
  · intro Q' hQ
    by_cases h0 : s.size = 0
    · simp (disch := omega) [strV_neE, strE_nil, h0]
      exact hQ _ _ ⟨rfl, s, hs, by simp, by simp⟩
    have h0' : (0 : Int) < s.size := by omega
    have h01 : (1 : Int) ≤ s.size := by omega
    simp (disch := omega) [strV_neE, strE_nil, h0, h0']
    refine ⟨by omega, ?_⟩
    by_cases h1 : strAt s 0 = 45
    · simp (disch := omega) [h1]
      refine ⟨by omega, hQ _ _ ⟨rfl, s.extract 1 s.size, ?_, by simp, by simp⟩⟩
      have := ext_size s 1 s.size
      omega
    · simp (disch := omega) [h1]
      exact hQ _ _ ⟨rfl, s, hs, by simp, by simp⟩
  rintro T1 M2 ⟨rfl, t, ht, t4, t0⟩
  by_cases h1 : t.size < 1
  · have h1' : (t.size : Int) < 1 := by omega
    simp [t4, h1, h1', Keeps.refl]
  have h1' : ¬ (t.size : Int) < 1 := by omega
  by_cases h2 : 18 < t.size
  · have h2' : (18 : Int) < t.size := by omega
    simp [t4, h1, h1', h2, h2', Keeps.refl]
  have h2' : ¬ (18 : Int) < t.size := by omega
  simp [t4, t0, h1, h1', h2, h2']
  refine awLoop_T (fun m T M' => ∃ (i : Nat) (x : Int), i + m = t.size ∧ M' = M2 ∧ 0 ≤ x ∧ x < (10 : Int) ^ i ∧ look T 6 = some (iv i) ∧ look T 5 = some (iv x) ∧ look T 4 = some (.string t) ∧ look T 0 = some (.string s)) t.size
    ⟨0, 0, by omega, rfl, by omega, by decide, by simp, by simp, by simp [t4], by simp [t0]⟩ ?_
  clear t4 t0
  rintro m T M' ⟨i, x, hm, rfl, x0, x1, t6, t5, t4, t0⟩
  have hp18 : (10 : Int) ^ i ≤ 10 ^ 18 := by
    have : (10 : Nat) ^ i ≤ 10 ^ 18 := Nat.pow_le_pow_right (by omega) (by omega)
    exact_mod_cast this
  have e18 : (10 : Int) ^ 18 = 1000000000000000000 := by decide
  by_cases hlt : i < t.size
  · have hlt' : (i : Int) < t.size := by omega
    have hp17 : (10 : Int) ^ i ≤ 10 ^ 17 := by
      have : (10 : Nat) ^ i ≤ 10 ^ 17 := Nat.pow_le_pow_right (by omega) (by omega)
      exact_mod_cast this
    have e17 : (10 : Int) ^ 17 = 100000000000000000 := by decide
    have hs1 := strAt_in t i
    simp (disch := omega) [t6, t5, t4, t0, hlt, hlt']
    refine awCall_det' (l01Digit_w _) (by omega) ?_
    by_cases h3 : 48 ≤ strAt t i
    case neg => simp (disch := omega) [h3, Keeps.refl]
    by_cases h4 : strAt t i ≤ 57
    case neg => simp (disch := omega) [h3, h4, Keeps.refl]
    have hw8 : IntKind.u8.wrap (strAt t i - 48) = strAt t i - 48 := wrap_u8 (by omega) (by omega)
    simp (disch := omega) [h3, h4, t6, t5, t4, t0, hlt, hlt', hw8, wrap_in]
    refine lpI (m - 1) (by omega) ⟨i + 1, 10 * x + (strAt t i - 48), by omega, rfl, by omega, by rw [Int.pow_succ]; omega, by simp, by simp, by simp [t4], by simp [t0]⟩
  · have hlt' : ¬ (i : Int) < t.size := by omega
    simp (disch := omega) [t6, t5, t4, t0, hlt, hlt']
    by_cases h5 : t.size < s.size
    · have h5' : (t.size : Int) < s.size := by omega
      simp (disch := omega) [h5, h5', t5, t0, wrap_in]
      refine awCall_det' (l01Dec_a _ (by omega) (by omega)) (by omega) ?_
      simp (disch := omega) [strV_neE, t5, t0, wrap_in]
      cases strE (decS (-x)) s <;> simp [Keeps.refl]
    · have h5' : ¬ (t.size : Int) < s.size := by omega
      simp (disch := omega) [h5, h5', t5, t0]
      refine awCall_det' (l01Dec_a _ (by omega) (by omega)) (by omega) ?_
      simp (disch := omega) [strV_neE, t5, t0]
      cases strE (decS x) s <;> simp [Keeps.refl, t5]
theorem natV_le : ∀ k : Fin 29, 0 ≤ natV (k.1 : Int) ∧ natV (k.1 : Int) ≤ 97 := by decide +kernel
theorem near_ok {n d : Int} (hn : 1 ≤ n ∧ n ≤ 29) (hd : -3 ≤ d ∧ d ≤ 3) : (0 ≤ natV (n - 1) ∧ natV (n - 1) ≤ 97) ∧ intervalB ⟨n - 1, natV (n - 1) + d⟩ = true ∧ intervalB ⟨-(n - 1), -(natV (n - 1) + d)⟩ = true := by
  have h := natV_le ⟨(n - 1).toNat, by omega⟩
  rw [show (((⟨(n - 1).toNat, by omega⟩ : Fin 29).1 : Nat) : Int) = n - 1 by show ((n - 1).toNat : Int) = n - 1; omega] at h
  have o1 : overV ⟨n - 1, natV (n - 1) + d⟩ = d := by rw [over_pos (by show ¬ n - 1 < 0; omega)]; show natV (n - 1) + d - natV (n - 1) = d; omega
  refine ⟨h, ?_, ?_⟩
  · unfold intervalB
    rw [o1]
    simp only [Bool.and_eq_true, inB_iff]
    omega
  · have o2 : overV ⟨-(n - 1), -(natV (n - 1) + d)⟩ = d ∨ (n = 1) := by
      by_cases h0 : -(n - 1) < 0
      · left
        rw [over_neg (by exact h0)]
        show - -(natV (n - 1) + d) - natV (- -(n - 1)) = d
        rw [Int.neg_neg, Int.neg_neg]; omega
      · right; omega
    rcases o2 with o2 | o2
    · unfold intervalB
      rw [o2]
      simp only [Bool.and_eq_true, inB_iff]
      omega
    · subst o2
      have e : overV ⟨-(1 - 1), -(natV (1 - 1) + d)⟩ = -d := by
        rw [over_pos (by show ¬ (-(1 - 1) : Int) < 0; decide)]
        show -(natV (1 - 1) + d) - natV (-(1 - 1)) = -d
        have : natV (1 - 1) = 0 := by decide
        have : natV (-(1 - 1)) = 0 := by decide
        omega
      unfold intervalB
      rw [e]
      simp only [Bool.and_eq_true, inB_iff]
      omega
def zInt : Slot := .live ⟨[iv 0, iv 0], true, true, 58, 2⟩
theorem fin_int {M N : Mem} (t h : Int) (hk : Keeps M N) (hr : N[M.length]? = some zInt) : ow (putCells M.length N M.length 0 [iv t, iv h]) fun M' => ow (cellsAt M' M.length 0 2) fun cs => (∃ x : Interval, Value.agg cs.toArray = x.v) ∧ Keeps M M' := by
  have lr := (List.getElem?_eq_some_iff.1 hr).1
  rw [put_whole (vs := [iv t, iv h]) hr (Nat.le_refl _) rfl (by simp), ow_some, cells_hr (r := ⟨[iv t, iv h], true, true, 58, 2⟩) (n := 2) (set_get lr) rfl, ow_some]
  exact ⟨⟨⟨t, h⟩, rfl⟩, keeps_set hk (Nat.le_refl _)⟩
theorem in_build (a b : Int) : Instr.fill (fun x => [(0, 1), (1, 1)][x]?) #[iv 0, iv 0] [(0, iv a), (1, iv b)] = some #[iv a, iv b] := by rfl
theorem in_build0 : Instr.fill (fun x => [(0, 1), (1, 1)][x]?) #[iv 0, iv 0] [] = some #[iv 0, iv 0] := by rfl
set_option maxHeartbeats 4000000 in
theorem ReadInterval_w {M : Mem} (s : ByteArray) (hs : s.size ≤ 1000) : Ctr Tryz.prog M.length 84 [.string s] M fun r M' => ∃ (i : Interval) (ok : Bool), r = .tuple #[i.v, .bool ok] ∧ Keeps M M' := by
  first | (refine ctr_fn Tryz.func84 rfl Tryz.ntmps84 Tryz.results84 rfl rfl (by simp) ?_) | (refine ctr_fnC Tryz.func84 rfl Tryz.ntmps84 Tryz.results84 rfl (by simp) ?_)
  simp
  obtain ⟨M0, hM0⟩ : ∃ M0 : Mem, M0 = M ++ [Slot.live ⟨[iv 0, iv 0], true, true, 58, 2⟩] := ⟨_, rfl⟩
  have k0 : Keeps M M0 := by rw [hM0]; exact keeps_app _
  have r0 : M0[M.length]? = some zInt := by rw [hM0]; exact getElem?_snoc_eq
  have n0 : M0.length = M.length + 1 := by rw [hM0]; simp
  rw [← hM0]
  clear hM0
  by_cases h0 : s.size = 0
  · simp (disch := omega) [strV_eqE, strE_nil, h0]
    exact fin_int 0 0 k0 r0
  have h0' : ¬ (s.size : Int) = 0 := by omega
  by_cases h7 : 7 < s.size
  · have h7' : (7 : Int) < s.size := by omega
    simp (disch := omega) [strV_eqE, strE_nil, h0, h7']
    exact fin_int 0 0 k0 r0
  have h7' : ¬ (7 : Int) < s.size := by omega
  simp (disch := omega) [strV_eqE, strE_nil, h0, h7']
  refine awLoop_join (fun T' M' => M' = M0 ∧ ∃ m : Nat, m ≤ s.size ∧ look T' 4 = some (iv m) ∧ look T' 0 = some (.string s) ∧ look T' 2 = some (.pointer (some ⟨M.length, 0, none⟩))) ?_ ?_
  · intro Q' hQ
    refine awLoop_T (fun m T M' => M' = M0 ∧ m ≤ s.size ∧ look T 4 = some (iv m) ∧ look T 0 = some (.string s) ∧ look T 2 = some (.pointer (some ⟨M.length, 0, none⟩))) s.size
      ⟨rfl, Nat.le_refl _, by simp, by simp, by simp⟩ ?_
    rintro m T M' ⟨rfl, hm, t4, t0, t2⟩
    rcases m with _ | m
    · simp (disch := omega) [t4, t0, t2]
      exact hQ _ _ ⟨rfl, 0, by omega, by simp [t4], by simp [t0], by simp [t2]⟩
    have e : (0 : Int) < ((m + 1 : Nat) : Int) := by omega
    have hms : (m : Int) < s.size := by omega
    simp (disch := omega) [t4, t0, t2, e, wrap_in, hms]
    refine awCall_det' (l01Digit_w _) (by omega) ?_
    by_cases hd : 48 ≤ strAt s m ∧ strAt s m ≤ 57
    · simp (disch := omega) [hd, t4, wrap_in]
      exact lpI m (by omega) ⟨rfl, by omega, by simp, by simp [t0], by simp [t2]⟩
    · have hd' : (decide (48 ≤ strAt s m) && decide (strAt s m ≤ 57)) = false := by simpa using hd
      simp (disch := omega) [hd', t4, wrap_in]
      exact hQ _ _ ⟨rfl, m + 1, hm, by simp [t4], by simp [t0], by simp [t2]⟩
  rintro T1 M1 ⟨rfl, m, hm, t4, t0, t2⟩
  simp (disch := omega) [t4, t0, t2]
  refine ⟨by omega, ?_⟩
  refine awCall_ctr ((l01Number_w _ (by have := ext_size s m s.size; omega)).weaken (by omega)) ?_
  rintro _ M2 ⟨n, ok, rfl, k2⟩
  have kk := k0.trans k2
  have r2 := k2.get r0
  have n2 := k2.len
  cases ok
  · simp [t2, in_build0]
    exact fin_int 0 0 kk r2
  simp (disch := omega) [t2]
  refine awCall_det' (l00In_a _ _ _) (by omega) ?_
  by_cases hin : inB n 1 29 = true
  case neg =>
    simp [hin, t2, in_build0]
    exact fin_int 0 0 kk r2
  have hnn := inB_iff.1 hin
  simp (disch := omega) [hin]
  refine awLoop_T (fun m T M' => ∃ d : Int, -3 ≤ d ∧ d + m = 4 ∧ Keeps M M' ∧ M'[M.length]? = some zInt ∧ look T 7 = some (iv d) ∧ look T 5 = some (iv n) ∧ look T 0 = some (.string s) ∧ look T 2 = some (.pointer (some ⟨M.length, 0, none⟩))) 7
    ⟨-3, by omega, by omega, kk, r2, by simp, by simp, by simp [t0], by simp [t2]⟩ ?_
  clear t4 t0 t2 kk r2 k2 n2
  rintro m3 T M3 ⟨d, hd0, hd1, k3, r3, t7, t5, t0, t2⟩
  have l3 := (List.getElem?_eq_some_iff.1 r3).1
  by_cases hd3 : d ≤ 3
  case neg =>
    simp (disch := omega) [t7, t2, hd3, in_build0]
    exact fin_int 0 0 k3 r3
  obtain ⟨hnv, hok1, hok2⟩ := near_ok hnn ⟨hd0, hd3⟩
  have hnat := natural_s (M := M3) (n - 1) (by omega) (by omega)
  simp (disch := omega) [t7, t5, t0, t2, hd3, wrap_in]
  refine awCall_det' hnat (by omega) ?_
  simp (disch := omega) [t7, t5, t0, t2, wrap_in, in_build]
  obtain ⟨M4, hM4⟩ : ∃ M4 : Mem, M4 = M3 ++ [Slot.live ⟨[iv (n - 1), iv (natV (n - 1) + d)], true, true, 58, 2⟩] := ⟨_, rfl⟩
  have k4 : Keeps M3 M4 := by rw [hM4]; exact keeps_app _
  have b4 : M4[M3.length]? = some (.live ⟨[iv (n - 1), iv (natV (n - 1) + d)], true, true, 58, 2⟩) := by rw [hM4]; exact getElem?_snoc_eq
  have n4 : M4.length = M3.length + 1 := by rw [hM4]; simp
  rw [← hM4]
  clear hM4
  have r4 := k4.get r3
  have kk4 := k3.trans k4
  have cc4 := cells_hr (n := 2) b4 rfl
  simp only at cc4
  refine awCall_det' (l16Name_s ⟨n - 1, natV (n - 1) + d⟩ hok1) (by omega) ?_
  simp only [binV_str, strV_eqE, ow_some]
  cases he : strE (nameS ⟨n - 1, natV (n - 1) + d⟩) s
  case true =>
    simp [he, cc4, t2]
    exact fin_int _ _ kk4 r4
  simp (disch := omega) [he, cell_hr b4, wrap_in, in_build]
  obtain ⟨M5, hM5⟩ : ∃ M5 : Mem, M5 = M4 ++ [Slot.live ⟨[iv (-(n - 1)), iv (-(natV (n - 1) + d))], true, true, 58, 2⟩] := ⟨_, rfl⟩
  have k5 : Keeps M4 M5 := by rw [hM5]; exact keeps_app _
  have b5 : M5[M4.length]? = some (.live ⟨[iv (-(n - 1)), iv (-(natV (n - 1) + d))], true, true, 58, 2⟩) := by rw [hM5]; exact getElem?_snoc_eq
  have n5 : M5.length = M4.length + 1 := by rw [hM5]; simp
  rw [← hM5]
  clear hM5
  have r5 := k5.get r4
  have kk5 := kk4.trans k5
  have cc5 := cells_hr (n := 2) b5 rfl
  simp only at cc5
  by_cases h1n : 1 < n
  · simp (disch := omega) [h1n, cc5, t0]
    refine awCall_det' (l16Name_s ⟨-(n - 1), -(natV (n - 1) + d)⟩ hok2) (by omega) ?_
    simp only [binV_str, strV_eqE, ow_some]
    cases he2 : strE (nameS ⟨-(n - 1), -(natV (n - 1) + d)⟩) s
    · simp (disch := omega) [he2, t7, wrap_in]
      exact lpI (m3 - 1) (by omega) ⟨d + 1, by omega, by omega, kk5, r5, by simp, by simp [t5], by simp [t0], by simp [t2]⟩
    · simp (disch := omega) [he2, cc5, t2]
      exact fin_int _ _ kk5 r5
  · simp (disch := omega) [h1n, t7, wrap_in]
    exact lpI (m3 - 1) (by omega) ⟨d + 1, by omega, by omega, kk5, r5, by simp, by simp [t5], by simp [t0], by simp [t2]⟩
end Go.Proofs.YtodbjnngkonklaaGreat

namespace Go.Proofs.YtodbjnngkonklaaGreat
open Go.RowKit
set_option linter.unusedVariables false
set_option linter.unusedSimpArgs false
set_option maxRecDepth 100000
attribute [local simp] List.getElem?_cons_zero
attribute [local irreducible] awCond awCall awLoop awDraw ow retQ retC resQ Keeps
theorem l16Key_w {M : Mem} (p : Pitch) (h1 : 0 ≤ p.s ∧ p.s ≤ 6) (h2 : -2 ≤ p.a ∧ p.a ≤ 2) (h3 : -100 ≤ p.o ∧ p.o ≤ 100) : Det Tryz.prog M.length 44 [p.v] M (iv (keyV p)) M := by
  have hb := nat_bd p.s (by omega) (by omega)
  first | (refine det_fn Tryz.func44 rfl Tryz.ntmps44 Tryz.results44 rfl rfl rfl (by simp) ?_) | (refine det_fnC Tryz.func44 rfl Tryz.ntmps44 Tryz.results44 rfl rfl (by simp) ?_)
  simp (disch := omega) [wrap_in]
  refine awDraw_E 10 [[],[0],[1,0],[2,1,0],[],[4],[5,4],[3,2,1,0,6,5,4],[],[8],[7,3,2,1,0,6,5,4,9,8],[10,7,3,2,1,0,6,5,4,9,8]] (by kernel_rfl) (by kernel_rfl) ?_
  simp (disch := omega) [wrap_in]
  refine awCall_det' (natural_s p.s (by omega) (by omega)) (by first | omega | simp) ?_
  simp (disch := omega) [wrap_in, keyV, keeps_app]
theorem keyV_bd {p : Pitch} (h1 : 0 ≤ p.s ∧ p.s ≤ 6) (h2 : -2 ≤ p.a ∧ p.a ≤ 2) (h3 : -100 ≤ p.o ∧ p.o ≤ 100) : -10000 ≤ keyV p ∧ keyV p ≤ 10000 := by
  have hb := nat_bd p.s (by omega) (by omega)
  unfold keyV
  omega
def zPit : Slot := .live ⟨[iv 0, iv 0, iv 0], true, true, 62, 3⟩
theorem pt3_build (a : Int) : Instr.fill (fun x => [(0, 1), (1, 1), (2, 1)][x]?) #[iv 0, iv 0, iv 0] [(2, iv a)] = some #[iv 0, iv 0, iv a] := by rfl
theorem pt0_build : Instr.fill (fun x => [(0, 1), (1, 1), (2, 1)][x]?) #[iv 0, iv 0, iv 0] [] = some #[iv 0, iv 0, iv 0] := by rfl
def movO (p : Pitch) (i : Interval) : Pitch := ⟨7 * p.o + p.s + i.t - 7 * ((7 * p.o + p.s + i.t) / 7), keyV p + i.h - keyV ⟨7 * p.o + p.s + i.t - 7 * ((7 * p.o + p.s + i.t) / 7), 0, (7 * p.o + p.s + i.t) / 7⟩, (7 * p.o + p.s + i.t) / 7⟩
def movP (p : Pitch) (i : Interval) : Pitch × Int := if pitchB p = true ∧ intervalB i = true then (if pitchB (movO p i) = true then (movO p i, 0) else (⟨0, 0, 0⟩, 2)) else (⟨0, 0, 0⟩, 1)
theorem movP_ok {p : Pitch} {i : Interval} (h : (movP p i).2 = 0) : pitchB (movP p i).1 = true := by
  unfold movP at h ⊢
  split at h
  · rename_i h1
    rw [if_pos h1]
    split at h
    · rename_i h2; rw [if_pos h2]; exact h2
    · cases h
  · cases h
theorem fin_ptc {M N : Mem} {x : Pitch × Int} (e0 a b c : Int) (hp : x = (⟨a, b, c⟩, e0)) (hk : Keeps M N) (hr : N[M.length + 2]? = some zPit) : ow (putCells M.length N (M.length + 2) 0 [iv a, iv b, iv c]) fun M' => ow (cellsAt M' (M.length + 2) 0 3) fun cs => (Value.agg cs.toArray = x.1.v ∧ e0 = x.2) ∧ Keeps M M' := by
  have lr := (List.getElem?_eq_some_iff.1 hr).1
  rw [put_whole (vs := [iv a, iv b, iv c]) hr (by omega) rfl (by simp), ow_some, cells_hr (r := ⟨[iv a, iv b, iv c], true, true, 62, 3⟩) (n := 3) (set_get lr) rfl, ow_some, hp]
  exact ⟨⟨rfl, rfl⟩, keeps_set hk (by omega)⟩
set_option maxHeartbeats 4000000 in
theorem MovePitch_c {M : Mem} (p : Pitch) (i : Interval) : Ctr Tryz.prog M.length 103 [p.v, i.v] M fun r M' => r = .tuple #[(movP p i).1.v, iv (movP p i).2] ∧ Keeps M M' := by
  first | (refine ctr_fn Tryz.func103 rfl Tryz.ntmps103 Tryz.results103 rfl rfl (by simp) ?_) | (refine ctr_fnC Tryz.func103 rfl Tryz.ntmps103 Tryz.results103 rfl (by simp) ?_)
  simp
  obtain ⟨M0, hM0⟩ : ∃ M0 : Mem, M0 = M ++ [Slot.live ⟨[iv p.s, iv p.a, iv p.o], true, true, 62, 3⟩, Slot.live ⟨[iv i.t, iv i.h], true, true, 58, 2⟩, Slot.live ⟨[iv 0, iv 0, iv 0], true, true, 62, 3⟩] := ⟨_, rfl⟩
  have k0 : Keeps M M0 := by rw [hM0]; exact keeps_app _
  have bp : M0[M.length]? = some (.live ⟨[iv p.s, iv p.a, iv p.o], true, true, 62, 3⟩) := by rw [hM0]; simp
  have bi : M0[M.length + 1]? = some (.live ⟨[iv i.t, iv i.h], true, true, 58, 2⟩) := by rw [hM0]; simp
  have br : M0[M.length + 2]? = some zPit := by rw [hM0]; simp [zPit]
  have n0 : M0.length = M.length + 3 := by rw [hM0]; simp
  rw [← hM0]
  clear hM0
  have cp := cells_hr (n := 3) bp rfl
  have ci := cells_hr (n := 2) bi rfl
  simp only at cp ci
  refine awCall_det' (l16Ok_s p) (by omega) ?_
  by_cases hp : pitchB p = true
  case neg =>
    simp [hp, pt0_build]
    exact fin_ptc 1 0 0 0 (by unfold movP; rw [if_neg (fun h => hp h.1)]) k0 br
  simp [hp, ci]
  refine awCall_det' (l16Interval_s i) (by omega) ?_
  by_cases hi : intervalB i = true
  case neg =>
    simp [hi, pt0_build]
    exact fin_ptc 1 0 0 0 (by unfold movP; rw [if_neg (fun h => hi h.2)]) k0 br
  obtain ⟨p1, p2, p3, p4⟩ := pitchB_r hp
  obtain ⟨i1, i2, i3, i4⟩ := intervalB_r hi
  simp (disch := omega) [hi, cell_hr bp, cell_hr bi, wrap_in]
  obtain ⟨n, hn⟩ : ∃ n, n = 7 * p.o + p.s + i.t := ⟨_, rfl⟩
  rw [← hn]
  refine awCall_det' (floorDiv_s n 7 (by omega) (by omega) (by omega)) (by omega) ?_
  simp [pt3_build]
  rw [put_box (b := M.length) (cs := [iv 0, iv 0, iv 0]) (vs := [iv 0, iv 0, iv (n / 7)]) (by omega) rfl (by simp), ow_some]
  obtain ⟨M1, hM1⟩ : ∃ M1 : Mem, M1 = M0 ++ [Slot.live ⟨[iv 0, iv 0, iv (n / 7)], true, true, 62, 3⟩] := ⟨_, rfl⟩
  have k1 : Keeps M0 M1 := by rw [hM1]; exact keeps_app _
  have bo1 : M1[M0.length]? = some (.live ⟨[iv 0, iv 0, iv (n / 7)], true, true, 62, 3⟩) := by rw [hM1]; exact getElem?_snoc_eq
  rw [← hM1]
  clear hM1
  have lo := (List.getElem?_eq_some_iff.1 bo1).1
  have hp2 := put_row (b := M.length) (p := 0) (v := iv (n - 7 * (n / 7))) bo1 (by omega) (by simp) rfl
  simp only [List.set_cons_zero] at hp2
  obtain ⟨M2, hM2⟩ : ∃ M2 : Mem, M2 = M1.set M0.length (.live ⟨[iv (n - 7 * (n / 7)), iv 0, iv (n / 7)], true, true, 62, 3⟩) := ⟨_, rfl⟩
  have k2 : Keeps M0 M2 := by rw [hM2]; exact keeps_set k1 (Nat.le_refl _)
  have bo2 : M2[M0.length]? = some (.live ⟨[iv (n - 7 * (n / 7)), iv 0, iv (n / 7)], true, true, 62, 3⟩) := by rw [hM2]; exact set_get lo
  have n2 : M2.length = M1.length := by rw [hM2]; simp
  rw [← hM2] at hp2
  simp (disch := omega) [cell_hr bo1, wrap_in, hp2]
  clear hM2
  have cp2 := cells_hr (n := 3) (k2.get bp) rfl
  have co2 := cells_hr (n := 3) bo2 rfl
  simp only at cp2 co2
  have ci2 := cell_hr (k2.get bi) 1
  simp at ci2
  obtain ⟨w, hw⟩ : ∃ w : Pitch, w = ⟨n - 7 * (n / 7), 0, n / 7⟩ := ⟨_, rfl⟩
  have hk1 := l16Key_w (M := M2) p p1 p2 (by omega)
  have hk2 := l16Key_w (M := M2) w (by rw [hw]; show 0 ≤ n - 7 * (n / 7) ∧ n - 7 * (n / 7) ≤ 6; omega) (by rw [hw]; show (-2 : Int) ≤ 0 ∧ (0 : Int) ≤ 2; omega) (by rw [hw]; show -100 ≤ n / 7 ∧ n / 7 ≤ 100; omega)
  have hb2 := keyV_bd (p := w) (by rw [hw]; show 0 ≤ n - 7 * (n / 7) ∧ n - 7 * (n / 7) ≤ 6; omega) (by rw [hw]; show (-2 : Int) ≤ 0 ∧ (0 : Int) ≤ 2; omega) (by rw [hw]; show -100 ≤ n / 7 ∧ n / 7 ≤ 100; omega)
  rw [hw] at hk2
  rw [hw] at hb2
  refine awDraw_E 7 [[],[0],[],[2],[1,0,3,2],[],[5,1,0],[4,1,0,3,2,6,5],[0,1,2,3,4,5,6,7],[8,0,1,2,3,4,5,6,7]] (by kernel_rfl) (by kernel_rfl) ?_
  simp (disch := omega) [cp2, ci2, co2, wrap_in]
  refine awCall_det' (d := true) hk1 (by omega) ?_
  simp (disch := omega) [cp2, ci2, co2, wrap_in]
  refine awCall_det' (d := true) hk2 (by omega) ?_
  simp (disch := omega) [cp2, ci2, co2, wrap_in]
  obtain ⟨a, ha⟩ : ∃ a, a = keyV p + i.h - keyV ⟨n - 7 * (n / 7), 0, n / 7⟩ := ⟨_, rfl⟩
  rw [← ha]
  have hp3 := put_row (b := M.length) (p := 1) (v := iv a) bo2 (by omega) (by simp) rfl
  simp only [List.set_cons_zero, List.set_cons_succ] at hp3
  rw [hp3, ow_some]
  obtain ⟨M3, hM3⟩ : ∃ M3 : Mem, M3 = M2.set M0.length (.live ⟨[iv (n - 7 * (n / 7)), iv a, iv (n / 7)], true, true, 62, 3⟩) := ⟨_, rfl⟩
  have k3 : Keeps M0 M3 := by rw [hM3]; exact keeps_set k2 (Nat.le_refl _)
  have bo3 : M3[M0.length]? = some (.live ⟨[iv (n - 7 * (n / 7)), iv a, iv (n / 7)], true, true, 62, 3⟩) := by rw [hM3]; exact set_get (by omega)
  have n3 : M3.length = M2.length := by rw [hM3]; simp
  rw [← hM3]
  clear hM3 hp3
  have co3 := cells_hr (n := 3) bo3 rfl
  simp only at co3
  have br3 := k3.get br
  have kk3 := k0.trans k3
  simp (disch := omega) [co3]
  refine awCall_det' (l16Ok_s ⟨n - 7 * (n / 7), a, n / 7⟩) (by omega) ?_
  by_cases hq : pitchB ⟨n - 7 * (n / 7), a, n / 7⟩ = true
  · simp [hq, co3]
    exact fin_ptc 0 _ _ _ (by unfold movP; rw [if_pos ⟨hp, hi⟩, if_pos (by unfold movO; rw [← hn, ← ha]; exact hq)]; unfold movO; rw [← hn, ← ha]) kk3 br3
  · simp [hq, pt0_build]
    exact fin_ptc 2 0 0 0 (by unfold movP; rw [if_pos ⟨hp, hi⟩, if_neg (by unfold movO; rw [← hn, ← ha]; exact hq)]) kk3 br3
theorem MovePitch_w {M : Mem} (p : Pitch) (i : Interval) : Det Tryz.prog M.length 103 [p.v, i.v] M (.tuple #[(movP p i).1.v, iv (movP p i).2]) M := (MovePitch_c p i).pure rfl
end Go.Proofs.YtodbjnngkonklaaGreat

namespace Go.Proofs.YtodbjnngkonklaaGreat
open Go.RowKit
set_option linter.unusedVariables false
set_option linter.unusedSimpArgs false
set_option maxRecDepth 100000
attribute [local simp] List.getElem?_cons_zero
attribute [local irreducible] awCond awCall awLoop awDraw ow retQ retC resQ Keeps
end Go.Proofs.YtodbjnngkonklaaGreat

namespace Go.Proofs.YtodbjnngkonklaaGreat
open Go.RowKit
set_option linter.unusedVariables false
set_option linter.unusedSimpArgs false
set_option maxRecDepth 100000
attribute [local simp] List.getElem?_cons_zero
attribute [local irreducible] awCond awCall awLoop awDraw ow retQ retC resQ Keeps
def Frac.q (f : Frac) : Rat := Rat.divInt f.n f.d
theorem divInt_le {a b c d : Int} (hb : 0 < b) (hd : 0 < d) : Rat.divInt a b ≤ Rat.divInt c d ↔ a * d ≤ c * b := by
  rw [Rat.le_iff_sub_nonneg, Rat.divInt_sub_divInt _ _ (by omega) (by omega), Rat.divInt_nonneg_iff_of_pos_right (Int.mul_pos hd hb)]
  constructor <;> intro h <;> omega
theorem cmpF_q {a b : Frac} (ha : 1 ≤ a.d) (hb : 1 ≤ b.d) : cmpF a b ≤ 0 ↔ a.q ≤ b.q := by
  rw [cmpF_le]
  exact (divInt_le (by omega) (by omega)).symm
theorem mkF_q {n d : Int} (hd : 0 < d) (h : (mkF n d).2 = 0) : (mkF n d).1.q = Rat.divInt n d := by
  unfold mkF at h ⊢
  rw [if_neg (by omega)] at h ⊢
  split at h
  · cases h
  · rename_i hx
    rw [if_neg hx]
    clear h hx
    have hg : 0 < n.natAbs.gcd d.natAbs := Nat.gcd_pos_of_pos_right _ (by omega)
    generalize hgg : n.natAbs.gcd d.natAbs = g at hg
    obtain ⟨a, ha⟩ : g ∣ n.natAbs := by rw [← hgg]; exact Nat.gcd_dvd_left _ _
    obtain ⟨b, hb⟩ : g ∣ d.natAbs := by rw [← hgg]; exact Nat.gcd_dvd_right _ _
    rw [ha, hb, Nat.mul_div_cancel_left _ hg, Nat.mul_div_cancel_left _ hg]
    have hg' : (g : Int) ≠ 0 := by omega
    have ed : d = (g : Int) * b := by rw [← Int.natCast_mul, ← hb]; omega
    have hdn : ¬ d < 0 := by omega
    by_cases hn : n < 0
    · have en : n = (g : Int) * -(a : Int) := by rw [Int.mul_neg, ← Int.natCast_mul, ← ha]; omega
      simp only [hn, hdn, decide_true, decide_false]
      show Rat.divInt (-(a : Int)) b = _
      rw [en, ed, Rat.divInt_mul_left hg']
    · have en : n = (g : Int) * (a : Int) := by rw [← Int.natCast_mul, ← ha]; omega
      simp only [hn, hdn, decide_false]
      show Rat.divInt (a : Int) b = _
      rw [en, ed, Rat.divInt_mul_left hg']
theorem addF_q {a b : Frac} (ha : fracB a = true) (hb : fracB b = true) (h : (addF a b).2 = 0) : (addF a b).1.q = a.q + b.q := by
  obtain ⟨a1, -⟩ := fracB_iff.1 ha
  obtain ⟨b1, -⟩ := fracB_iff.1 hb
  have hd : 0 < a.d * b.d := Int.mul_pos (by omega) (by omega)
  unfold addF at h ⊢
  rw [if_pos ⟨ha, hb⟩] at h ⊢
  rw [mkF_q hd h]
  exact (Rat.divInt_add_divInt a.n b.n (by omega) (by omega)).symm
theorem subF_q {a b : Frac} (ha : fracB a = true) (hb : fracB b = true) (h : (subF a b).2 = 0) : (subF a b).1.q = a.q - b.q := by
  obtain ⟨a1, -⟩ := fracB_iff.1 ha
  obtain ⟨b1, -⟩ := fracB_iff.1 hb
  have hd : 0 < a.d * b.d := Int.mul_pos (by omega) (by omega)
  unfold subF at h ⊢
  rw [if_pos ⟨ha, hb⟩] at h ⊢
  rw [mkF_q hd h]
  exact (Rat.divInt_sub_divInt a.n b.n (by omega) (by omega)).symm
end Go.Proofs.YtodbjnngkonklaaGreat

namespace Go.Proofs.YtodbjnngkonklaaGreat
open Go.RowKit
set_option linter.unusedVariables false
set_option linter.unusedSimpArgs false
set_option maxRecDepth 100000
attribute [local simp] List.getElem?_cons_zero
attribute [local irreducible] awCond awCall awLoop awDraw ow retQ retC resQ Keeps
theorem cmpF_neg (a b : Frac) : cmpF b a = -cmpF a b := by
  unfold cmpF
  repeat' split
  all_goals omega
theorem note_den {n : Note} (h : noteB n = true) : 1 ≤ n.at_.d := (fracB_iff.1 (beatB_iff.1 (noteB_iff.1 h).1).1).1.1
theorem ordN_le {a b : Note} (ha : noteB a = true) (hb : noteB b = true) : ordN a b ≤ 0 ↔ a.at_.q < b.at_.q ∨ (a.at_.q = b.at_.q ∧ (a.o < b.o ∨ (a.o = b.o ∧ a.k ≤ b.k))) := by
  have h1 := cmpF_q (note_den ha) (note_den hb)
  have h2 := cmpF_q (note_den hb) (note_den ha)
  rw [cmpF_neg] at h2
  unfold ordN
  by_cases hz : cmpF a.at_ b.at_ = 0
  · have e : a.at_.q = b.at_.q := Rat.le_antisymm (h1.1 (by omega)) (h2.1 (by omega))
    rw [if_neg (by omega)]
    have : ¬ a.at_.q < b.at_.q := by rw [e]; exact Rat.lt_irrefl
    split <;> constructor <;> intro h
    · exact .inr ⟨e, by omega⟩
    · rcases h with h | ⟨-, h⟩
      · exact absurd h this
      · omega
    · exact .inr ⟨e, by omega⟩
    · rcases h with h | ⟨-, h⟩
      · exact absurd h this
      · omega
  · rw [if_pos hz]
    constructor
    · intro h
      left
      have : ¬ b.at_.q ≤ a.at_.q := fun hh => by have := h2.2 hh; omega
      exact Rat.not_le.1 this
    · rintro (h | ⟨e, -⟩)
      · exact h1.2 (Rat.le_of_lt h)
      · have e1 := h1.2 (by rw [e]; exact Rat.le_refl)
        have e2 := h2.2 (by rw [e]; exact Rat.le_refl)
        omega
theorem ordN_neg (a b : Note) : ordN b a = -ordN a b := by
  have := cmpF_neg a.at_ b.at_
  unfold ordN
  repeat' split
  all_goals omega
theorem ordN_trans {a b c : Note} (ha : noteB a = true) (hb : noteB b = true) (hc : noteB c = true) (h1 : ordN a b ≤ 0) (h2 : ordN b c ≤ 0) : ordN a c ≤ 0 := by
  rw [ordN_le ha hb] at h1
  rw [ordN_le hb hc] at h2
  rw [ordN_le ha hc]
  generalize a.at_.q = x at *
  generalize b.at_.q = y at *
  generalize c.at_.q = z at *
  rcases h1 with h1 | ⟨rfl, h1⟩ <;> rcases h2 with h2 | ⟨rfl, h2⟩
  · left; grind
  · exact .inl h1
  · exact .inl h2
  · exact .inr ⟨rfl, by omega⟩
/-- In order up to i. -/
def SortTo (l : List Note) (i : Nat) : Prop := ∀ a b, a < b → b < i → ordN (el l a) (el l b) ≤ 0
/-- In order up to i, but for the one at k, which may be too far behind. -/
def SortIn (l : List Note) (i k : Nat) : Prop := ∀ a b, a < b → b ≤ i → b ≠ k → ordN (el l a) (el l b) ≤ 0
theorem SortTo.in_ {l : List Note} {i : Nat} (h : SortTo l i) : SortIn l i i := fun a b h1 h2 h3 => h a b h1 (by omega)
theorem elSet_ne {α : Type} [Inhabited α] {l : List α} {j q : Nat} {x : α} (h : j ≠ q) : el (l.set j x) q = el l q := by simp [el, List.getElem?_set_ne h]
theorem elSet_eq {α : Type} [Inhabited α] {l : List α} {j : Nat} {x : α} (h : j < l.length) : el (l.set j x) j = x := by simp [el, h]
def swapL {α : Type} [Inhabited α] (l : List α) (i j : Nat) : List α := (l.set i (el l j)).set j (el l i)
theorem SortIn.step {l : List Note} {i k : Nat} (h : SortIn l i (k + 1)) (hk : k + 1 ≤ i) (hi : i < l.length) (ho : ordN (el l (k + 1)) (el l k) < 0) : SortIn (swapL l (k + 1) k) i k := by
  have e1 : el (swapL l (k + 1) k) k = el l (k + 1) := elSet_eq (by simp; omega)
  have e2 : el (swapL l (k + 1) k) (k + 1) = el l k := by rw [swapL, elSet_ne (by omega), elSet_eq (by omega)]
  have e3 : ∀ q, q ≠ k → q ≠ k + 1 → el (swapL l (k + 1) k) q = el l q := fun q h1 h2 => by rw [swapL, elSet_ne (Ne.symm h1), elSet_ne (Ne.symm h2)]
  intro a b hab hb hbk
  by_cases b1 : b = k + 1
  · subst b1
    rw [e2]
    by_cases a1 : a = k
    · subst a1; rw [e1]; omega
    · rw [e3 a a1 (by omega)]; exact h a k (by omega) (by omega) (by omega)
  · rw [e3 b hbk b1]
    by_cases a1 : a = k
    · subst a1; rw [e1]; exact h (a + 1) b (by omega) hb b1
    · by_cases a2 : a = k + 1
      · subst a2; rw [e2]; exact h k b (by omega) hb b1
      · rw [e3 a a1 a2]; exact h a b hab hb b1
theorem SortIn.done {l : List Note} {i k : Nat} (h : SortIn l i k) (hk : k ≤ i) (hi : i < l.length) (hv : ∀ n, n ∈ l → noteB n = true) (ho : 0 < k → ¬ ordN (el l k) (el l (k - 1)) < 0) : SortTo l (i + 1) := by
  intro a b hab hb
  by_cases b1 : b = k
  · subst b1
    have h1 := ho (by omega)
    rw [ordN_neg] at h1
    by_cases a1 : a = b - 1
    · subst a1; omega
    · exact ordN_trans (hv _ (el_mem (by omega))) (hv _ (el_mem (l := l) (i := b - 1) (by omega))) (hv _ (el_mem (by omega))) (h a (b - 1) (by omega) (by omega) (by omega)) (by omega)
  · exact h a b hab (by omega) b1
theorem swapL_perm {α : Type} [Inhabited α] {l : List α} {i j : Nat} (hi : i < l.length) (hj : j < l.length) : (swapL l i j).Perm l := by
  unfold swapL
  rw [← el_eq hi, ← el_eq hj]
  exact List.set_set_perm hi hj
end Go.Proofs.YtodbjnngkonklaaGreat

namespace Go.Proofs.YtodbjnngkonklaaGreat
open Go.RowKit
set_option linter.unusedVariables false
set_option linter.unusedSimpArgs false
set_option maxRecDepth 100000
attribute [local simp] List.getElem?_cons_zero
attribute [local irreducible] awCond awCall awLoop awDraw ow retQ retC resQ Keeps
theorem note_one (l : List Note) : (cellsL noteR l).all (fun u => u.oneCell') = true := by
  induction l with
  | nil => rfl
  | cons a l ih => rw [cellsL_cons, List.all_append, ih]; rfl
theorem nil_src {P : Program} {M : Mem} {k : Nat} {tx e : TypeId} {c : Nat} {A : Option Addr} (h : P.underlying tx = some (.slice e)) (hc : A = none → c = 0) : srcOf P M k tx (.slice A 0 c) = some (0, []) := by
  cases A
  · simp [srcOf, h, hc rfl]
  · simp [srcOf, h]
theorem note_src {M : Mem} {A : Option Addr} {n c : Nat} {l : List Note} (h : Sl noteR M A n l) (hc : A = none → c = 0) : srcOf Tryz.prog M 7 24 (.slice A n c) = some (l.length, cellsL noteR l) := by
  have hl := h.1
  rcases A with _ | ad
  · have h0 : n = 0 := by
      rcases Nat.eq_zero_or_pos n with e | e
      · exact e
      · obtain ⟨_, _, e', _⟩ := h.2 e
        cases e'
    subst h0
    rw [nil_src Tryz.underlying24 hc, List.eq_nil_of_length_eq_zero hl]
    rfl
  · exact h.src (by omega) ⟨_, Tryz.underlying24⟩
set_option maxHeartbeats 2000000 in
theorem l18Sort_a {M : Mem} {A : Option Addr} {n c : Nat} {l : List Note} (h : Sl noteR M A n l) (hn : n ≤ 100000) (hc : A = none → c = 0) (hv : ∀ x, x ∈ l → noteB x = true) :
    Ctr Tryz.prog M.length 73 [.slice A n c] M fun r M' => ∃ l', Acc noteR 36 M.length M' r l' ∧ l'.Perm l ∧ SortTo l' l'.length ∧ Keeps M M' := by
  have hl := h.1
  first | (refine ctr_fn Tryz.func73 rfl Tryz.ntmps73 Tryz.results73 rfl rfl (by simp) ?_) | (refine ctr_fnC Tryz.func73 rfl Tryz.ntmps73 Tryz.results73 rfl (by simp) ?_)
  simp
  have hA0 : Acc noteR 36 M.length (M ++ [Slot.live ⟨[], true, true, 36, 7⟩]) (.slice (some ⟨M.length, 0, none⟩) 0 0) [] := ⟨_, 0, 0, rfl, rfl, .inr ⟨M.length, true, rfl, Nat.le_refl _, by simp [cellsL]⟩⟩
  refine hA0.extend (ls := l) (by_ := 56) (Nat.le_refl _) (by simp) (by simp) (by kernel_rfl) (note_src (h.app _) hc) (note_one _) (by simp; omega) (by unfold maxLen; simp; omega) ?_
  intro v M1 hA hS
  have k1 : Keeps M M1 := hS.keeps (keeps_app _) (Nat.le_refl _)
  simp only [List.nil_append] at hA
  have hl1 := k1.len
  try simp
  refine awLoop_T (fun m T M' => ∃ (l' : List Note) (i : Nat), (i + m = n ∨ (m = 0 ∧ n ≤ i)) ∧ Acc noteR 36 M.length M' v l' ∧ l'.Perm l ∧ SortTo l' i ∧ Keeps M M' ∧ look T 4 = some (iv i) ∧ look T 3 = some v) (n - 1)
    ⟨l, 1, by omega, hA, .refl _, fun a b h1 h2 => by omega, k1, by simp, by simp⟩ ?_
  rintro m T M2 ⟨l', i, hm, hA2, hp, hs, k2, t4, t3⟩
  have hpl := hp.length_eq
  obtain ⟨A2, n2, c2, rfl, hq, hsl, -⟩ := hA2.sl
  by_cases hlt : i < n
  · have e1 : (i : Int) < n2 := by omega
    simp (disch := omega) [t4, t3, e1]
    refine awLoop_T (fun m T M' => ∃ (l2 : List Note), Acc noteR 36 M.length M' (.slice A2 n2 c2) l2 ∧ l2.Perm l ∧ SortIn l2 i m ∧ m ≤ i ∧ Keeps M M' ∧ look T 5 = some (iv m) ∧ look T 4 = some (iv i) ∧ look T 3 = some (.slice A2 n2 c2)) i
      ⟨l', hA2, hp, hs.in_, Nat.le_refl _, k2, by simp, by simp [t4], by simp [t3]⟩ ?_
    rintro k T M3 ⟨l2, hA3, hp3, hs3, hki, k3, t5, t4, t3⟩
    have hpl3 := hp3.length_eq
    have hv3 : ∀ x, x ∈ l2 → noteB x = true := fun x hx => hv x (hp3.mem_iff.1 hx)
    have hl3 := k3.len
    rcases k with _ | k
    · simp (disch := omega) [t5]
      refine awDraw_E 10 [[],[0],[1,0],[2,1,0],[2,1,0],[3,2,1,0,4],[2,1,0],[2,1,0],[7,2,1,0],[6,2,1,0,8,7],[5,3,2,1,0,4,9,6,8,7],[10,5,3,2,1,0,4,9,6,8,7],[2,1,0,11,10,5,3,4,9,6,8,7]] (by kernel_rfl) (by kernel_rfl) ?_
      simp (disch := omega) [t5, t4, t3, wrap_in]
      exact lpI (m - 1) (by omega) ⟨l2, i + 1, by omega, hA3, hp3, hs3.done hki (by omega) hv3 (fun h => by omega), k3, by simp, by simp [t3]⟩
    · obtain ⟨id, rfl, hid, he, hcl, hput⟩ := hA3.put (b := M.length) (Nat.le_refl _) (by omega)
      have hc1 : Cl M3 id ((k + 1) * 7) (el l2 (k + 1)).row := fun j x hx => hcl (k + 1) j x (by omega) hx
      have hc0 : Cl M3 id (k * 7) (el l2 k).row := fun j x hx => hcl k j x (by omega) hx
      simp (disch := omega) [t5]
      refine awDraw_E 10 [[],[0],[1,0],[2,1,0],[2,1,0],[3,2,1,0,4],[2,1,0],[2,1,0],[7,2,1,0],[6,2,1,0,8,7],[5,3,2,1,0,4,9,6,8,7],[10,5,3,2,1,0,4,9,6,8,7],[2,1,0,11,10,5,3,4,9,6,8,7]] (by kernel_rfl) (by kernel_rfl) ?_
      have ek : (k : Int) + 1 < n2 := by omega
      have ek0 : (k : Int) < n2 := by omega
      simp (disch := omega) [t5, t4, t3, wrap_in, ek, ek0, he]
      refine ⟨by omega, awCall_det' (l18Order_a hc1 hc0 (hv3 _ (el_mem (by omega))) (hv3 _ (el_mem (by omega)))) hl3 ?_⟩
      by_cases ho : ordN (el l2 (k + 1)) (el l2 k) < 0
      · simp (disch := omega) [ho, t5, t4, t3, wrap_in, ek, ek0, he]
        refine ⟨by omega, ?_⟩
        rw [cellsAt_of (n := 7) hc1 rfl (by omega), ow_some]
        refine ⟨rfl, ?_⟩
        rw [put_box (b := M.length) (cs := [iv 0, iv 0, iv 0, iv 0, iv 0, iv 0, iv 0]) (vs := (Value.agg (el l2 (k + 1)).row.toArray).cells.toList) (by omega) rfl (by simp [Note.row]), ow_some, cellsAt_app (cellsAt_of (n := 7) hc0 rfl (by omega)), ow_some]
        refine ⟨by omega, rfl, ?_⟩
        obtain ⟨M4, hM4⟩ : ∃ M' : Mem, M' = M3 ++ [Slot.live ⟨(Value.agg (el l2 (k + 1)).row.toArray).cells.toList, true, true, 36, 7⟩] := ⟨_, rfl⟩
        have hA4 : Acc noteR 36 M.length M4 (.slice (some ⟨id, 0, none⟩) n2 c2) l2 := by rw [hM4]; exact hA3.keeps (keeps_app _)
        have r4 : M4[M3.length]? = some (Slot.live ⟨(el l2 (k + 1)).row, true, true, 36, 7⟩) := by rw [hM4]; exact getElem?_snoc_eq
        have k4 : Keeps M M4 := by rw [hM4]; exact k3.app _
        have hidl : id < M3.length := by
          unfold rowEsz at he
          cases hm : M3[id]? with
          | none => rw [hm] at he; cases he
          | some s => exact (List.getElem?_eq_some_iff.1 hm).1
        rw [← hM4]
        clear hM4
        obtain ⟨id', hh, -, -, -, hput⟩ := hA4.put (b := M.length) (Nat.le_refl _) (by omega)
        injection hh with hh
        injection hh with hh
        subst hh
        obtain ⟨M5, p5, hA5, n5, u5⟩ := hput (k + 1) (el l2 k) (by omega) (by simp [noteR, Note.row])
        have r5 := u5 _ _ (show M3.length ≠ id by omega) r4
        have k5 : Keeps M M5 := by
          unfold Keeps
          exact fun i s hs => u5 i s (by have := (List.getElem?_eq_some_iff.1 hs).1; omega) (k4.get hs)
        obtain ⟨id', hh, -, -, -, hput⟩ := hA5.put (b := M.length) (Nat.le_refl _) (by simp; omega)
        injection hh with hh
        injection hh with hh
        subst hh
        obtain ⟨M6, p6, hA6, n6, u6⟩ := hput k (el l2 (k + 1)) (by simp; omega) (by simp [noteR, Note.row])
        have k6 : Keeps M M6 := by
          unfold Keeps
          exact fun i s hs => u6 i s (by have := (List.getElem?_eq_some_iff.1 hs).1; omega) (k5.get hs)
        rw [show putCells M.length M4 id ((k + 1) * 7) (Value.agg (el l2 k).row.toArray).cells.toList = some M5 from p5, ow_some, cells_hr (n := 7) r5 rfl, ow_some]
        refine ⟨rfl, ?_⟩
        rw [show putCells M.length M5 id (k * 7) (Value.agg (el l2 (k + 1)).row.toArray).cells.toList = some M6 from p6, ow_some]
        exact lpI k (by omega) ⟨swapL l2 (k + 1) k, hA6, (swapL_perm (by omega) (by omega)).trans hp3, hs3.step hki (by omega) ho, by omega, k6, by simp, by simp [t4], by simp [t3]⟩
      · simp (disch := omega) [ho, t5, t4, t3, wrap_in]
        exact lpI (m - 1) (by omega) ⟨l2, i + 1, by omega, hA3, hp3, hs3.done hki (by omega) hv3 (fun h => ho), k3, by simp, by simp [t3]⟩
  · have e1 : ¬ (i : Int) < n2 := by omega
    simp (disch := omega) [t4, t3, e1]
    exact ⟨l', hA2, hp, fun a b h1 h2 => hs a b h1 (by omega), k2⟩
end Go.Proofs.YtodbjnngkonklaaGreat

namespace Go.Proofs.YtodbjnngkonklaaGreat
open Go.RowKit
set_option linter.unusedVariables false
set_option linter.unusedSimpArgs false
set_option maxRecDepth 100000
attribute [local simp] List.getElem?_cons_zero
attribute [local irreducible] awCond awCall awLoop awDraw ow retQ retC resQ Keeps
end Go.Proofs.YtodbjnngkonklaaGreat
