/- Tempo maps, in plain words: positions of beats. No program in sight. -/
import Derived.Test.YtgaiejaegimilaaQ6
import Derived.Test.YtgaiejaegimilaaHTempoMap
namespace Go.Proofs.Ytgaiejaegimilaa
open Go.RowKit
set_option linter.unusedVariables false
set_option linter.unusedSimpArgs false
set_option maxRecDepth 100000
attribute [local simp] List.getElem?_cons_zero
attribute [local irreducible] awCond awCall awLoop awDraw ow retQ retC resQ Keeps
def Tempo.beat (t : Tempo) : Frac := ⟨t.bn, t.bd⟩
/-- A position behind another one, by a difference of beats times some samples; and a code. -/
def onF (frm beat : Frac) (s : Int) (at_ : Frac) : Frac × Int :=
  if (subF beat frm).2 ≠ 0 then (at_, (subF beat frm).2) else
  if (mulF (subF beat frm).1 ⟨s, 1⟩).2 ≠ 0 then (at_, (mulF (subF beat frm).1 ⟨s, 1⟩).2) else addF at_ (mulF (subF beat frm).1 ⟨s, 1⟩).1
def onY (frm beat : Frac) (s : Int) (at_ : Frac) : Frac := (addF at_ (mulF (subF beat frm).1 ⟨s, 1⟩).1).1
def onOk (frm beat : Frac) (s : Int) (at_ : Frac) : Bool := decide ((subF beat frm).2 = 0) && decide ((mulF (subF beat frm).1 ⟨s, 1⟩).2 = 0) && decide ((addF at_ (mulF (subF beat frm).1 ⟨s, 1⟩).1).2 = 0)
theorem onOk_iff {frm beat at_ : Frac} {s : Int} : onOk frm beat s at_ = true ↔ (onF frm beat s at_).2 = 0 := by
  unfold onOk onF
  simp only [Bool.and_eq_true, decide_eq_true_eq]
  constructor
  · rintro ⟨⟨h1, h2⟩, h3⟩
    rw [if_neg (by omega), if_neg (by omega)]
    exact h3
  · intro h
    split at h
    · rename_i h1; exact absurd h h1
    · rename_i h1
      split at h
      · rename_i h2; exact absurd h h2
      · rename_i h2
        exact ⟨⟨by omega, by omega⟩, h⟩
theorem onY_eq {frm beat at_ : Frac} {s : Int} (h : (onF frm beat s at_).2 = 0) : onY frm beat s at_ = (onF frm beat s at_).1 := by
  unfold onY
  unfold onF at h ⊢
  split at h
  · rename_i h1; exact absurd h h1
  · rename_i h1
    rw [if_neg h1]
    split at h
    · rename_i h2; exact absurd h h2
    · rename_i h2
      rw [if_neg h2]
theorem mkF_code {n d : Int} (hd : d ≠ 0) : (mkF n d).2 = 0 ∨ (mkF n d).2 = 2 := by
  unfold mkF
  rw [if_neg hd]
  split
  · exact .inr rfl
  · exact .inl rfl
theorem addF_code {a b : Frac} (ha : fracB a = true) (hb : fracB b = true) : (addF a b).2 = 0 ∨ (addF a b).2 = 2 := by
  obtain ⟨-, -, h, -⟩ := frac_bd ha hb
  unfold addF
  rw [if_pos ⟨ha, hb⟩]
  exact mkF_code (by omega)
theorem subF_code {a b : Frac} (ha : fracB a = true) (hb : fracB b = true) : (subF a b).2 = 0 ∨ (subF a b).2 = 2 := by
  obtain ⟨-, -, h, -⟩ := frac_bd ha hb
  unfold subF
  rw [if_pos ⟨ha, hb⟩]
  exact mkF_code (by omega)
theorem mulF_code {a b : Frac} (ha : fracB a = true) (hb : fracB b = true) : (mulF a b).2 = 0 ∨ (mulF a b).2 = 2 := by
  obtain ⟨-, -, h, -⟩ := frac_bd ha hb
  unfold mulF
  rw [if_pos ⟨ha, hb⟩]
  exact mkF_code (by omega)
theorem subF_ok {a b : Frac} (h : (subF a b).2 = 0) : fracB (subF a b).1 = true := by
  unfold subF at h ⊢
  split at h
  · rename_i hab
    rw [if_pos hab]
    exact mkF_ok h
  · cases h
theorem mulF_ok {a b : Frac} (h : (mulF a b).2 = 0) : fracB (mulF a b).1 = true := by
  unfold mulF at h ⊢
  split at h
  · rename_i hab
    rw [if_pos hab]
    exact mkF_ok h
  · cases h
theorem onF_ok {frm beat at_ : Frac} {s : Int} (h : (onF frm beat s at_).2 = 0) : fracB (onF frm beat s at_).1 = true := by
  unfold onF at h ⊢
  split at h
  · rename_i h1; exact absurd h h1
  · rename_i h1
    rw [if_neg h1]
    split at h
    · rename_i h2; exact absurd h h2
    · rename_i h2
      rw [if_neg h2]
      exact addF_ok h
theorem onF_code {frm beat at_ : Frac} {s : Int} (h1 : fracB frm = true) (h2 : fracB beat = true) (h3 : fracB at_ = true) (hs : 1 ≤ s ∧ s ≤ 1000) : (onF frm beat s at_).2 = 0 ∨ (onF frm beat s at_).2 = 2 := by
  have hc := subF_code h2 h1
  unfold onF
  split
  · rename_i h; simp only; omega
  · rename_i h
    have hd := subF_ok (a := beat) (b := frm) (by omega)
    have hc2 := mulF_code hd (whole_ok (n := s) (by omega) (by omega))
    split
    · rename_i h'; simp only; omega
    · rename_i h'
      exact addF_code h3 (mulF_ok (by omega))
theorem mkF_zero {d : Int} (hd : 0 < d) : mkF 0 d = (⟨0, 1⟩, 0) := by
  unfold mkF
  rw [if_neg (by omega)]
  have e : (0 : Int).natAbs.gcd d.natAbs = d.natAbs := by simp
  rw [e]
  have e2 : d.natAbs / d.natAbs = 1 := Nat.div_self (by omega)
  have hd' : ¬ d < 0 := by omega
  simp [e2, hd']
theorem zero_ok : fracB ⟨0, 1⟩ = true := by decide
/-- At a beat of one's own nothing is added. -/
theorem onF_self {b at_ : Frac} {s : Int} (hb : fracB b = true) (ha : fracB at_ = true) (hs : 1 ≤ s ∧ s ≤ 1000) : onF b b s at_ = (at_, 0) := by
  obtain ⟨-, -, h3, -⟩ := frac_bd hb hb
  have e1 : subF b b = (⟨0, 1⟩, 0) := by
    unfold subF
    rw [if_pos ⟨hb, hb⟩, Int.sub_self]
    exact mkF_zero (by omega)
  have hw := whole_ok (n := s) (by omega) (by omega)
  have e2 : mulF ⟨0, 1⟩ ⟨s, 1⟩ = (⟨0, 1⟩, 0) := by
    unfold mulF
    rw [if_pos ⟨zero_ok, hw⟩]
    simp only [Int.zero_mul, Int.mul_one]
    exact mkF_zero (by omega)
  have e3 : addF at_ ⟨0, 1⟩ = (at_, 0) := by
    unfold addF
    rw [if_pos ⟨ha, zero_ok⟩]
    simp only [Int.zero_mul, Int.mul_one, Int.add_zero]
    exact mkF_self ha
  unfold onF
  rw [e1]
  simp only
  rw [if_neg (by omega), e2]
  simp only
  rw [if_neg (by omega)]
  exact e3
/-- The position of a tempo. -/
def posK (l : List Tempo) : Nat → Option Frac
  | 0 => some ⟨0, 1⟩
  | k + 1 => (posK l k).bind fun at_ => if (onF (el l k).beat (el l (k + 1)).beat (el l k).s at_).2 = 0 then some (onF (el l k).beat (el l (k + 1)).beat (el l k).s at_).1 else none
theorem posK_ok (l : List Tempo) : ∀ {k : Nat} {f : Frac}, posK l k = some f → fracB f = true
  | 0, f, h => by
    injection h with h
    subst h
    exact zero_ok
  | k + 1, f, h => by
    obtain ⟨a, ha, h⟩ := Option.bind_eq_some_iff.1 h
    split at h
    · injection h with h
      rename_i hc
      rw [← h]
      exact onF_ok hc
    · cases h
theorem posK_back (l : List Tempo) {k : Nat} (h : (posK l (k + 1)).isSome = true) : (posK l k).isSome = true := by
  cases hk : posK l k with
  | none => simp [posK, hk] at h
  | some a => rfl
def tempoB (t : Tempo) : Bool := beatB t.beat && inB t.s 1 1000
/-- Tempos in order, of which the first is at 0. -/
def tempA (l : List Tempo) : Bool := inB l.length 1 8 && l.all tempoB && decide ((el l 0).bn = 0) && decide (∀ i, i < l.length → 0 < i → cmpF (el l (i - 1)).beat (el l i).beat < 0)
def tempB (l : List Tempo) : Bool := tempA l && decide (∀ k, k < l.length → (posK l k).isSome = true)
def posAll (l : List Tempo) : List Frac := (List.range l.length).map fun k => (posK l k).getD ⟨0, 1⟩
theorem tempoB_iff {t : Tempo} : tempoB t = true ↔ beatB t.beat = true ∧ 1 ≤ t.s ∧ t.s ≤ 1000 := by
  simp only [tempoB, Bool.and_eq_true, inB_iff]
theorem tempA_iff {l : List Tempo} : tempA l = true ↔ (1 ≤ l.length ∧ l.length ≤ 8) ∧ (∀ i, i < l.length → tempoB (el l i) = true) ∧ (el l 0).bn = 0 ∧ ∀ i, i < l.length → 0 < i → cmpF (el l (i - 1)).beat (el l i).beat < 0 := by
  simp only [tempA, Bool.and_eq_true, decide_eq_true_eq, inB_iff, and_assoc, List.all_eq_true]
  constructor
  · rintro ⟨h1, h2, h3, h4, h5⟩
    exact ⟨by omega, by omega, fun i hi => h3 _ (el_mem hi), h4, h5⟩
  · rintro ⟨h1, h2, h3, h4, h5⟩
    refine ⟨by omega, by omega, fun x hx => ?_, h4, h5⟩
    obtain ⟨i, hi, rfl⟩ := List.getElem_of_mem hx
    rw [el_eq hi]
    exact h3 i hi
/-- The tempo of a beat. -/
def idxT (l : List Tempo) (b : Frac) : Nat → Nat
  | 0 => 0
  | i + 1 => if cmpF (el l i).beat b ≤ 0 then i else idxT l b i
theorem cmpF_le {a b : Frac} : cmpF a b ≤ 0 ↔ a.n * b.d ≤ b.n * a.d := by
  unfold cmpF
  split
  · constructor <;> intro h <;> omega
  · split
    · constructor <;> intro h <;> omega
    · constructor <;> intro h <;> omega
theorem cmpF_lt {a b : Frac} : cmpF a b < 0 ↔ a.n * b.d < b.n * a.d := by
  unfold cmpF
  split
  · constructor <;> intro h <;> omega
  · split
    · constructor <;> intro h <;> omega
    · constructor <;> intro h <;> omega
theorem frac_lt {a b : Frac} : a.n * b.d < b.n * a.d ↔ a.n * b.d < b.n * a.d := Iff.rfl
/-- The order of fractions, over one in the middle. -/
theorem cmpF_trans {a b c : Frac} (ha : 1 ≤ a.d) (hb : 1 ≤ b.d) (hc : 1 ≤ c.d) (h1 : cmpF a b < 0) (h2 : cmpF b c ≤ 0) : cmpF a c < 0 := by
  rw [cmpF_lt] at h1 ⊢
  rw [cmpF_le] at h2
  have e1 : a.n * b.d * c.d < b.n * a.d * c.d := Int.mul_lt_mul_of_pos_right h1 (by omega)
  have e2 : b.n * c.d * a.d ≤ c.n * b.d * a.d := Int.mul_le_mul_of_nonneg_right h2 (by omega)
  have e3 : b.n * a.d * c.d = b.n * c.d * a.d := by rw [Int.mul_assoc, Int.mul_comm a.d, ← Int.mul_assoc]
  have e4 : (a.n * c.d) * b.d < (c.n * a.d) * b.d := by
    have x1 : a.n * c.d * b.d = a.n * b.d * c.d := by rw [Int.mul_assoc, Int.mul_comm c.d, ← Int.mul_assoc]
    have x2 : c.n * a.d * b.d = c.n * b.d * a.d := by rw [Int.mul_assoc, Int.mul_comm a.d, ← Int.mul_assoc]
    omega
  exact Int.lt_of_mul_lt_mul_right e4 (by omega)
/-- The first tempo that is the last one, or whose next one is behind the beat: it is the tempo of the beat. -/
theorem idx_last {l : List Tempo} {b : Frac} (hl : tempA l = true) (hb : 1 ≤ b.d) {k : Nat} (hk : k < l.length) (h1 : ∀ i, i ≤ k → 0 < i → cmpF (el l i).beat b ≤ 0) (h0 : cmpF (el l 0).beat b ≤ 0) (h2 : k + 1 = l.length ∨ ¬ cmpF (el l (k + 1)).beat b ≤ 0) : idxT l b l.length = k := by
  obtain ⟨⟨l1, l2⟩, ha, -, hs⟩ := tempA_iff.1 hl
  have pos : ∀ i, i < l.length → 1 ≤ (el l i).beat.d := fun i hi => (fracB_iff.1 (beatB_iff.1 (tempoB_iff.1 (ha i hi)).1).1).1.1
  have far : ∀ i, k < i → i < l.length → ¬ cmpF (el l i).beat b ≤ 0 := by
    intro i hi hil
    have : ∀ d, k + 1 + d < l.length → ¬ cmpF (el l (k + 1 + d)).beat b ≤ 0 := by
      intro d
      induction d with
      | zero =>
        intro hd
        rcases h2 with h2 | h2
        · omega
        · exact h2
      | succ d ih =>
        intro hd hc
        refine ih (by omega) ?_
        have := cmpF_trans (pos (k + 1 + d) (by omega)) (pos (k + 1 + (d + 1)) hd) hb (by have := hs (k + 1 + (d + 1)) hd (by omega); rwa [show k + 1 + (d + 1) - 1 = k + 1 + d by omega] at this) hc
        omega
    have := this (i - (k + 1)) (by omega)
    rwa [show k + 1 + (i - (k + 1)) = i by omega] at this
  have hkk : cmpF (el l k).beat b ≤ 0 := by
    rcases Nat.eq_zero_or_pos k with h | h
    · rw [h]; exact h0
    · exact h1 k (Nat.le_refl _) h
  have : ∀ d, k + 1 + d ≤ l.length → idxT l b (k + 1 + d) = k := by
    intro d
    induction d with
    | zero => intro _; show (if cmpF (el l k).beat b ≤ 0 then k else _) = k; rw [if_pos hkk]
    | succ d ih =>
      intro hd
      show (if cmpF (el l (k + 1 + d)).beat b ≤ 0 then k + 1 + d else idxT l b (k + 1 + d)) = k
      rw [if_neg (far _ (by omega) (by omega))]
      exact ih (by omega)
  have := this (l.length - (k + 1)) (by omega)
  rwa [show k + 1 + (l.length - (k + 1)) = l.length by omega] at this
theorem idx_le {l : List Tempo} {b : Frac} : ∀ n, 0 < n → idxT l b n < n
  | 0, h => by omega
  | n + 1, _ => by
    unfold idxT
    split
    · omega
    · rcases Nat.eq_zero_or_pos n with h | h
      · subst h; simp [idxT]
      · have := idx_le (l := l) (b := b) n h; omega
end Go.Proofs.Ytgaiejaegimilaa
