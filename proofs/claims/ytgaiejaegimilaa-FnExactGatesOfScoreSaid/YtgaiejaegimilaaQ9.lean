/- Tempo maps: how the program comes to a position, in plain words. No program in sight. -/
import Derived.Test.YtgaiejaegimilaaQ7
namespace Go.Proofs.Ytgaiejaegimilaa
open Go.RowKit
set_option linter.unusedVariables false
set_option linter.unusedSimpArgs false
set_option maxRecDepth 100000
attribute [local simp] List.getElem?_cons_zero
attribute [local irreducible] awCond awCall awLoop awDraw ow retQ retC resQ Keeps
def lastB (l : List Tempo) (b : Frac) (i : Nat) : Bool := decide (i + 1 = l.length) || decide (0 < cmpF (el l (i + 1)).beat b)
def goF (l : List Tempo) (b : Frac) : Nat → Nat → Frac → Frac × Int
  | 0, _, a => (a, 0)
  | f + 1, i, a =>
    if lastB l b i = true then onF (el l i).beat b (el l i).s a else
    if (onF (el l i).beat (el l (i + 1)).beat (el l i).s a).2 ≠ 0 then onF (el l i).beat (el l (i + 1)).beat (el l i).s a else goF l b f (i + 1) (onF (el l i).beat (el l (i + 1)).beat (el l i).s a).1
theorem posK_succ {l : List Tempo} {i : Nat} {a : Frac} (h : posK l i = some a) : posK l (i + 1) = if (onF (el l i).beat (el l (i + 1)).beat (el l i).s a).2 = 0 then some (onF (el l i).beat (el l (i + 1)).beat (el l i).s a).1 else none := by
  rw [posK, h]
  rfl
theorem posK_none {l : List Tempo} {i : Nat} (h : posK l i = none) : ∀ d, posK l (i + d) = none
  | 0 => h
  | d + 1 => by rw [← Nat.add_assoc, posK, posK_none h d]; rfl
theorem go_some {l : List Tempo} {b x : Frac} {K : Nat} (hK : K < l.length) (hl : lastB l b K = true) (hn : ∀ i, i < K → lastB l b i = false) (hx : posK l K = some x) :
    ∀ (d i : Nat) (a : Frac), i + d = K → posK l i = some a → goF l b (l.length - i) i a = onF (el l K).beat b (el l K).s x
  | 0, i, a, hi, ha => by
    obtain rfl : i = K := by omega
    rw [ha] at hx
    injection hx with hx
    subst hx
    rw [show l.length - i = (l.length - i - 1) + 1 by omega, goF, if_pos hl]
  | d + 1, i, a, hi, ha => by
    have hs := posK_succ ha
    rw [show l.length - i = (l.length - (i + 1)) + 1 by omega, goF, if_neg (by rw [hn i (by omega)]; simp)]
    by_cases hc : (onF (el l i).beat (el l (i + 1)).beat (el l i).s a).2 = 0
    · rw [if_pos hc] at hs
      rw [if_neg (by omega)]
      exact go_some hK hl hn hx d (i + 1) _ (by omega) hs
    · rw [if_neg hc] at hs
      have := posK_none hs (K - (i + 1))
      rw [show i + 1 + (K - (i + 1)) = K by omega, hx] at this
      cases this
theorem go_none {l : List Tempo} {b : Frac} {K : Nat} (hK : K < l.length) (hl : lastB l b K = true) (hn : ∀ i, i < K → lastB l b i = false) (hx : posK l K = none) :
    ∀ (d i : Nat) (a : Frac), i + d = K → posK l i = some a → (goF l b (l.length - i) i a).2 ≠ 0
  | 0, i, a, hi, ha => by
    obtain rfl : i = K := by omega
    rw [ha] at hx
    cases hx
  | d + 1, i, a, hi, ha => by
    have hs := posK_succ ha
    rw [show l.length - i = (l.length - (i + 1)) + 1 by omega, goF, if_neg (by rw [hn i (by omega)]; simp)]
    by_cases hc : (onF (el l i).beat (el l (i + 1)).beat (el l i).s a).2 = 0
    · rw [if_pos hc] at hs
      rw [if_neg (by omega)]
      exact go_none hK hl hn hx d (i + 1) _ (by omega) hs
    · rw [if_pos hc]
      exact hc
theorem last_ex {l : List Tempo} {b : Frac} (h : 0 < l.length) : ∃ K, K < l.length ∧ lastB l b K = true ∧ ∀ i, i < K → lastB l b i = false := by
  obtain ⟨K, h1, h2, h3⟩ := least_false (p := fun i => !lastB l b i) l.length ⟨l.length - 1, by omega, by
    have : lastB l b (l.length - 1) = true := by unfold lastB; rw [decide_eq_true (by omega)]; rfl
    simp [this]⟩
  exact ⟨K, h1, by simpa using h2, fun i hi => by simpa using h3 i hi⟩
theorem last_not {l : List Tempo} {b : Frac} {i : Nat} (h : lastB l b i = false) : i + 1 ≠ l.length ∧ cmpF (el l (i + 1)).beat b ≤ 0 := by
  unfold lastB at h
  simp only [Bool.or_eq_false_iff, decide_eq_false_iff_not] at h
  omega
/-- At the beat of a tempo: a code of 0 where the tempo has a position. -/
theorem go_self {l : List Tempo} (hl : tempA l = true) {j : Nat} (hj : j < l.length) : (goF l (el l j).beat l.length 0 ⟨0, 1⟩).2 = 0 ↔ (posK l j).isSome = true := by
  obtain ⟨⟨l1, l2⟩, ha, h0, hs⟩ := tempA_iff.1 hl
  have pos : ∀ i, i < l.length → fracB (el l i).beat = true := fun i hi => (beatB_iff.1 (tempoB_iff.1 (ha i hi)).1).1
  have lt : ∀ d i, i + (d + 1) < l.length → cmpF (el l i).beat (el l (i + (d + 1))).beat < 0 := by
    intro d
    induction d with
    | zero => intro i hi; have := hs (i + 1) hi (by omega); simpa using this
    | succ d ih =>
      intro i hi
      have h1 := ih i (by omega)
      have h2 := hs (i + (d + 1 + 1)) hi (by omega)
      rw [show i + (d + 1 + 1) - 1 = i + (d + 1) by omega] at h2
      exact cmpF_trans (fracB_iff.1 (pos _ (by omega))).1.1 (fracB_iff.1 (pos (i + (d + 1)) (by omega))).1.1 (fracB_iff.1 (pos _ hi)).1.1 h1 (by omega)
  have hlast : lastB l (el l j).beat j = true := by
    unfold lastB
    by_cases h : j + 1 = l.length
    · rw [decide_eq_true h]; rfl
    · have h1 := lt 0 j (by omega)
      rw [cmpF_lt] at h1
      have : 0 < cmpF (el l (j + 1)).beat (el l j).beat := by
        have : ¬ cmpF (el l (j + 1)).beat (el l j).beat ≤ 0 := by
          rw [cmpF_le]
          simp only [Nat.zero_add] at h1
          omega
        omega
      rw [decide_eq_true this]
      simp
  have hnot : ∀ i, i < j → lastB l (el l j).beat i = false := by
    intro i hi
    unfold lastB
    rw [decide_eq_false (by omega), Bool.false_or, decide_eq_false]
    by_cases h : i + 1 = j
    · rw [h]
      have : cmpF (el l j).beat (el l j).beat ≤ 0 := by rw [cmpF_le]; omega
      omega
    · have := lt (j - (i + 1) - 1) (i + 1) (by omega)
      rw [show i + 1 + (j - (i + 1) - 1 + 1) = j by omega] at this
      omega
  have hs0 : (1 ≤ (el l j).s ∧ (el l j).s ≤ 1000) := (tempoB_iff.1 (ha j hj)).2
  cases hp : posK l j with
  | none =>
    have := go_none hj hlast hnot hp j 0 ⟨0, 1⟩ (by omega) rfl
    rw [Nat.sub_zero] at this
    simp [this]
  | some x =>
    have := go_some hj hlast hnot hp j 0 ⟨0, 1⟩ (by omega) rfl
    rw [Nat.sub_zero] at this
    rw [this, onF_self (pos j hj) (posK_ok l hp) hs0]
    simp
/-- At any beat of a valid map: from the position of its tempo. -/
theorem go_beat {l : List Tempo} {b : Frac} (hl : tempB l = true) (hb : beatB b = true) : ∃ k a, idxT l b l.length = k ∧ k < l.length ∧ posK l k = some a ∧ goF l b l.length 0 ⟨0, 1⟩ = onF (el l k).beat b (el l k).s a := by
  have hA : tempA l = true := by simp only [tempB, Bool.and_eq_true] at hl; exact hl.1
  have hP : ∀ k, k < l.length → (posK l k).isSome = true := by simp only [tempB, Bool.and_eq_true, decide_eq_true_eq] at hl; exact hl.2
  obtain ⟨⟨l1, l2⟩, ha, h0, hs⟩ := tempA_iff.1 hA
  obtain ⟨hbf, hb0, -⟩ := beatB_iff.1 hb
  have hbd := (fracB_iff.1 hbf).1.1
  obtain ⟨K, k1, k2, k3⟩ := last_ex (l := l) (b := b) (by omega)
  obtain ⟨a, hpa⟩ := Option.isSome_iff_exists.1 (hP K k1)
  have h00 : cmpF (el l 0).beat b ≤ 0 := by
    rw [cmpF_le]
    have hz : (el l 0).beat.n = 0 := h0
    have hd0 := (fracB_iff.1 (beatB_iff.1 (tempoB_iff.1 (ha 0 (by omega))).1).1).1.1
    rw [hz, Int.zero_mul]
    exact Int.mul_nonneg hb0 (by omega)
  refine ⟨K, a, idx_last hA hbd k1 (fun i hi hi0 => ?_) h00 ?_, k1, hpa, ?_⟩
  · have := (last_not (k3 (i - 1) (by omega))).2
    rwa [show i - 1 + 1 = i by omega] at this
  · unfold lastB at k2
    simp only [Bool.or_eq_true, decide_eq_true_eq] at k2
    omega
  · have := go_some k1 k2 k3 hpa K 0 ⟨0, 1⟩ (by omega) rfl
    rwa [Nat.sub_zero] at this
end Go.Proofs.Ytgaiejaegimilaa
