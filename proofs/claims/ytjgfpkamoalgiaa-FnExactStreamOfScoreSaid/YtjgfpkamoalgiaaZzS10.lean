/- Parts of the proof, together: Tempo: records in memory, and the laws' helpers on them. TempoMap: a struct that holds a slice of records. Tempo maps, in plain words: positions of beats. Tempo maps: how the program comes to a position, in plain words. Fractions as rational numbers; positions grow with beats. StreamEvent: records in memory, and the laws' helpers on them. Events in order, in plain words. Notes that overlap: the re No conditions. -/
import Derived.Test.YtjgfpkamoalgiaaZzS8
import Derived.Laws.StructEq
import Derived.Test.YtjgfpkamoalgiaaZzS9
namespace Go.Proofs.Ytjgfpkamoalgiaa
open Go.RowKit
set_option linter.unusedVariables false
set_option linter.unusedSimpArgs false
set_option maxRecDepth 100000
attribute [local simp] List.getElem?_cons_zero
attribute [local irreducible] awCond awCall awLoop awDraw ow retQ retC resQ Keeps
structure Tempo where
  (bn bd s : Int)
deriving Inhabited, DecidableEq
def Tempo.row (c : Tempo) : List Value := [iv c.bn, iv c.bd, iv c.s]
def tempoR : RecV Tempo 3 := ⟨Tempo.row, fun _ => rfl⟩
abbrev Tempo.v (c : Tempo) : Value := .agg #[iv c.bn, iv c.bd, iv c.s]
theorem tempo_cells {M : Mem} {id off : Nat} {g : Tempo} (h : Cl M id off g.row) : cellAt M id off = some (iv g.bn) ∧ cellAt M id (off + 1) = some (iv g.bd) ∧ cellAt M id (off + 2) = some (iv g.s) :=
  ⟨h 0 _ rfl, h 1 _ rfl, h 2 _ rfl⟩
theorem tempo_load {M : Mem} {id off : Nat} {g : Tempo} (h : Cl M id off g.row) : cellsAt M id off 3 = some [iv g.bn, iv g.bd, iv g.s] := cellsAt_of h rfl (by omega)
theorem tempo_eq {a b : Tempo} : a = b ↔ a.bn = b.bn ∧ a.bd = b.bd ∧ a.s = b.s := by
  cases a; cases b; simp
def tempoI : Ints tempoR := ⟨fun zs => ⟨gi zs 0, gi zs 1, gi zs 2⟩, fun zs h => by
  obtain ⟨x0, x1, x2, rfl⟩ : ∃ x0 x1 x2, zs = [x0, x1, x2] := by
    match zs, h with
    | [x0, x1, x2], _ => exact ⟨x0, x1, x2, rfl⟩
  rfl⟩














@[simp] theorem tempo_fill (x0 x1 x2 : Int) : Instr.fill (fun i => some (i * 3, 3)) (zrow [iv 0, iv 0, iv 0] 1).toArray [(0, .agg #[iv x0, iv x1, iv x2])] = some #[iv x0, iv x1, iv x2] := fill_agg (by omega) rfl rfl
def markTempo (z : Int) (i : Nat) : Tempo := ⟨z + i * 3, z + i * 3 + 1, z + i * 3 + 1 + 1⟩
def markTempoL (z : Int) (n : Nat) : List Tempo := (List.range n).map (markTempo z)
theorem markTempoL_succ (z : Int) (n : Nat) : markTempoL z (n + 1) = markTempoL z n ++ [markTempo z n] := by simp [markTempoL, List.range_succ]
/-! The same, as the laws use them. -/
end Go.Proofs.Ytjgfpkamoalgiaa

namespace Go.Proofs.Ytjgfpkamoalgiaa
open Go.RowKit
set_option linter.unusedVariables false
set_option linter.unusedSimpArgs false
set_option maxRecDepth 100000
attribute [local simp] List.getElem?_cons_zero
attribute [local irreducible] awCond awCall awLoop awDraw ow retQ retC resQ Keeps
end Go.Proofs.Ytjgfpkamoalgiaa

namespace Go.Proofs.Ytjgfpkamoalgiaa
open Go.RowKit
set_option linter.unusedVariables false
set_option linter.unusedSimpArgs false
set_option maxRecDepth 100000
attribute [local simp] List.getElem?_cons_zero
attribute [local irreducible] awCond awCall awLoop awDraw ow retQ retC resQ Keeps
def Tempo.beat (t : Tempo) : Frac := ⟨t.bn, t.bd⟩
/-- A position behind another one, by a difference of beats times some samples; and a code. -/
def onF (frm beat : Frac) (s : Int) (at_ : Frac) : Frac × Int :=
  if (subF beat frm).2 ≠ 0 then (at_, (subF beat frm).2) else
  if (mulF (subF beat frm).1 ⟨s, 1⟩).2 ≠ 0 then (at_, (mulF (subF beat frm).1 ⟨s, 1⟩).2) else addF at_ (mulF (subF beat frm).1 ⟨s, 1⟩).1
def onY (frm beat : Frac) (s : Int) (at_ : Frac) : Frac := (addF at_ (mulF (subF beat frm).1 ⟨s, 1⟩).1).1
def onOk (frm beat : Frac) (s : Int) (at_ : Frac) : Bool := decide ((subF beat frm).2 = 0) && decide ((mulF (subF beat frm).1 ⟨s, 1⟩).2 = 0) && decide ((addF at_ (mulF (subF beat frm).1 ⟨s, 1⟩).1).2 = 0)
theorem onOk_iff {frm beat at_ : Frac} {s : Int} : onOk frm beat s at_ = true ↔ (onF frm beat s at_).2 = 0 := by
  unfold onOk onF
  simp only [Bool.and_eq_true, decide_eq_true_eq]
  constructor
  · rintro ⟨⟨h1, h2⟩, h3⟩
    rw [if_neg (by omega), if_neg (by omega)]
    exact h3
  · intro h
    split at h
    · rename_i h1; exact absurd h h1
    · rename_i h1
      split at h
      · rename_i h2; exact absurd h h2
      · rename_i h2
        exact ⟨⟨by omega, by omega⟩, h⟩
theorem onY_eq {frm beat at_ : Frac} {s : Int} (h : (onF frm beat s at_).2 = 0) : onY frm beat s at_ = (onF frm beat s at_).1 := by
  unfold onY
  unfold onF at h ⊢
  split at h
  · rename_i h1; exact absurd h h1
  · rename_i h1
    rw [if_neg h1]
    split at h
    · rename_i h2; exact absurd h h2
    · rename_i h2
      rw [if_neg h2]
theorem mkF_code {n d : Int} (hd : d ≠ 0) : (mkF n d).2 = 0 ∨ (mkF n d).2 = 2 := by
  unfold mkF
  rw [if_neg hd]
  split
  · exact .inr rfl
  · exact .inl rfl
theorem addF_code {a b : Frac} (ha : fracB a = true) (hb : fracB b = true) : (addF a b).2 = 0 ∨ (addF a b).2 = 2 := by
  obtain ⟨-, -, h, -⟩ := frac_bd ha hb
  unfold addF
  rw [if_pos ⟨ha, hb⟩]
  exact mkF_code (by omega)
theorem subF_code {a b : Frac} (ha : fracB a = true) (hb : fracB b = true) : (subF a b).2 = 0 ∨ (subF a b).2 = 2 := by
  obtain ⟨-, -, h, -⟩ := frac_bd ha hb
  unfold subF
  rw [if_pos ⟨ha, hb⟩]
  exact mkF_code (by omega)
theorem mulF_code {a b : Frac} (ha : fracB a = true) (hb : fracB b = true) : (mulF a b).2 = 0 ∨ (mulF a b).2 = 2 := by
  obtain ⟨-, -, h, -⟩ := frac_bd ha hb
  unfold mulF
  rw [if_pos ⟨ha, hb⟩]
  exact mkF_code (by omega)
theorem subF_ok {a b : Frac} (h : (subF a b).2 = 0) : fracB (subF a b).1 = true := by
  unfold subF at h ⊢
  split at h
  · rename_i hab
    rw [if_pos hab]
    exact mkF_ok h
  · cases h
theorem mulF_ok {a b : Frac} (h : (mulF a b).2 = 0) : fracB (mulF a b).1 = true := by
  unfold mulF at h ⊢
  split at h
  · rename_i hab
    rw [if_pos hab]
    exact mkF_ok h
  · cases h
theorem onF_ok {frm beat at_ : Frac} {s : Int} (h : (onF frm beat s at_).2 = 0) : fracB (onF frm beat s at_).1 = true := by
  unfold onF at h ⊢
  split at h
  · rename_i h1; exact absurd h h1
  · rename_i h1
    rw [if_neg h1]
    split at h
    · rename_i h2; exact absurd h h2
    · rename_i h2
      rw [if_neg h2]
      exact addF_ok h
theorem onF_code {frm beat at_ : Frac} {s : Int} (h1 : fracB frm = true) (h2 : fracB beat = true) (h3 : fracB at_ = true) (hs : 1 ≤ s ∧ s ≤ 1000) : (onF frm beat s at_).2 = 0 ∨ (onF frm beat s at_).2 = 2 := by
  have hc := subF_code h2 h1
  unfold onF
  split
  · rename_i h; simp only; omega
  · rename_i h
    have hd := subF_ok (a := beat) (b := frm) (by omega)
    have hc2 := mulF_code hd (whole_ok (n := s) (by omega) (by omega))
    split
    · rename_i h'; simp only; omega
    · rename_i h'
      exact addF_code h3 (mulF_ok (by omega))
theorem mkF_zero {d : Int} (hd : 0 < d) : mkF 0 d = (⟨0, 1⟩, 0) := by
  unfold mkF
  rw [if_neg (by omega)]
  have e : (0 : Int).natAbs.gcd d.natAbs = d.natAbs := by simp
  rw [e]
  have e2 : d.natAbs / d.natAbs = 1 := Nat.div_self (by omega)
  have hd' : ¬ d < 0 := by omega
  simp [e2, hd']
theorem zero_ok : fracB ⟨0, 1⟩ = true := by decide
/-- At a beat of one's own nothing is added. -/
theorem onF_self {b at_ : Frac} {s : Int} (hb : fracB b = true) (ha : fracB at_ = true) (hs : 1 ≤ s ∧ s ≤ 1000) : onF b b s at_ = (at_, 0) := by
  obtain ⟨-, -, h3, -⟩ := frac_bd hb hb
  have e1 : subF b b = (⟨0, 1⟩, 0) := by
    unfold subF
    rw [if_pos ⟨hb, hb⟩, Int.sub_self]
    exact mkF_zero (by omega)
  have hw := whole_ok (n := s) (by omega) (by omega)
  have e2 : mulF ⟨0, 1⟩ ⟨s, 1⟩ = (⟨0, 1⟩, 0) := by
    unfold mulF
    rw [if_pos ⟨zero_ok, hw⟩]
    simp only [Int.zero_mul, Int.mul_one]
    exact mkF_zero (by omega)
  have e3 : addF at_ ⟨0, 1⟩ = (at_, 0) := by
    unfold addF
    rw [if_pos ⟨ha, zero_ok⟩]
    simp only [Int.zero_mul, Int.mul_one, Int.add_zero]
    exact mkF_self ha
  unfold onF
  rw [e1]
  simp only
  rw [if_neg (by omega), e2]
  simp only
  rw [if_neg (by omega)]
  exact e3
/-- The position of a tempo. -/
def posK (l : List Tempo) : Nat → Option Frac
  | 0 => some ⟨0, 1⟩
  | k + 1 => (posK l k).bind fun at_ => if (onF (el l k).beat (el l (k + 1)).beat (el l k).s at_).2 = 0 then some (onF (el l k).beat (el l (k + 1)).beat (el l k).s at_).1 else none
theorem posK_ok (l : List Tempo) : ∀ {k : Nat} {f : Frac}, posK l k = some f → fracB f = true
  | 0, f, h => by
    injection h with h
    subst h
    exact zero_ok
  | k + 1, f, h => by
    obtain ⟨a, ha, h⟩ := Option.bind_eq_some_iff.1 h
    split at h
    · injection h with h
      rename_i hc
      rw [← h]
      exact onF_ok hc
    · cases h
theorem posK_back (l : List Tempo) {k : Nat} (h : (posK l (k + 1)).isSome = true) : (posK l k).isSome = true := by
  cases hk : posK l k with
  | none => simp [posK, hk] at h
  | some a => rfl
def tempoB (t : Tempo) : Bool := beatB t.beat && inB t.s 1 1000
/-- Tempos in order, of which the first is at 0. -/
def tempA (l : List Tempo) : Bool := inB l.length 1 8 && l.all tempoB && decide ((el l 0).bn = 0) && decide (∀ i, i < l.length → 0 < i → cmpF (el l (i - 1)).beat (el l i).beat < 0)
def tempB (l : List Tempo) : Bool := tempA l && decide (∀ k, k < l.length → (posK l k).isSome = true)
def posAll (l : List Tempo) : List Frac := (List.range l.length).map fun k => (posK l k).getD ⟨0, 1⟩
theorem tempoB_iff {t : Tempo} : tempoB t = true ↔ beatB t.beat = true ∧ 1 ≤ t.s ∧ t.s ≤ 1000 := by
  simp only [tempoB, Bool.and_eq_true, inB_iff]
theorem tempA_iff {l : List Tempo} : tempA l = true ↔ (1 ≤ l.length ∧ l.length ≤ 8) ∧ (∀ i, i < l.length → tempoB (el l i) = true) ∧ (el l 0).bn = 0 ∧ ∀ i, i < l.length → 0 < i → cmpF (el l (i - 1)).beat (el l i).beat < 0 := by
  simp only [tempA, Bool.and_eq_true, decide_eq_true_eq, inB_iff, and_assoc, List.all_eq_true]
  constructor
  · rintro ⟨h1, h2, h3, h4, h5⟩
    exact ⟨by omega, by omega, fun i hi => h3 _ (el_mem hi), h4, h5⟩
  · rintro ⟨h1, h2, h3, h4, h5⟩
    refine ⟨by omega, by omega, fun x hx => ?_, h4, h5⟩
    obtain ⟨i, hi, rfl⟩ := List.getElem_of_mem hx
    rw [el_eq hi]
    exact h3 i hi
/-- The tempo of a beat. -/
def idxT (l : List Tempo) (b : Frac) : Nat → Nat
  | 0 => 0
  | i + 1 => if cmpF (el l i).beat b ≤ 0 then i else idxT l b i
theorem cmpF_le {a b : Frac} : cmpF a b ≤ 0 ↔ a.n * b.d ≤ b.n * a.d := by
  unfold cmpF
  split
  · constructor <;> intro h <;> omega
  · split
    · constructor <;> intro h <;> omega
    · constructor <;> intro h <;> omega
theorem cmpF_lt {a b : Frac} : cmpF a b < 0 ↔ a.n * b.d < b.n * a.d := by
  unfold cmpF
  split
  · constructor <;> intro h <;> omega
  · split
    · constructor <;> intro h <;> omega
    · constructor <;> intro h <;> omega
theorem frac_lt {a b : Frac} : a.n * b.d < b.n * a.d ↔ a.n * b.d < b.n * a.d := Iff.rfl
/-- The order of fractions, over one in the middle. -/
theorem cmpF_trans {a b c : Frac} (ha : 1 ≤ a.d) (hb : 1 ≤ b.d) (hc : 1 ≤ c.d) (h1 : cmpF a b < 0) (h2 : cmpF b c ≤ 0) : cmpF a c < 0 := by
  rw [cmpF_lt] at h1 ⊢
  rw [cmpF_le] at h2
  have e1 : a.n * b.d * c.d < b.n * a.d * c.d := Int.mul_lt_mul_of_pos_right h1 (by omega)
  have e2 : b.n * c.d * a.d ≤ c.n * b.d * a.d := Int.mul_le_mul_of_nonneg_right h2 (by omega)
  have e3 : b.n * a.d * c.d = b.n * c.d * a.d := by rw [Int.mul_assoc, Int.mul_comm a.d, ← Int.mul_assoc]
  have e4 : (a.n * c.d) * b.d < (c.n * a.d) * b.d := by
    have x1 : a.n * c.d * b.d = a.n * b.d * c.d := by rw [Int.mul_assoc, Int.mul_comm c.d, ← Int.mul_assoc]
    have x2 : c.n * a.d * b.d = c.n * b.d * a.d := by rw [Int.mul_assoc, Int.mul_comm a.d, ← Int.mul_assoc]
    omega
  exact Int.lt_of_mul_lt_mul_right e4 (by omega)
/-- The first tempo that is the last one, or whose next one is behind the beat: it is the tempo of the beat. -/
theorem idx_last {l : List Tempo} {b : Frac} (hl : tempA l = true) (hb : 1 ≤ b.d) {k : Nat} (hk : k < l.length) (h1 : ∀ i, i ≤ k → 0 < i → cmpF (el l i).beat b ≤ 0) (h0 : cmpF (el l 0).beat b ≤ 0) (h2 : k + 1 = l.length ∨ ¬ cmpF (el l (k + 1)).beat b ≤ 0) : idxT l b l.length = k := by
  obtain ⟨⟨l1, l2⟩, ha, -, hs⟩ := tempA_iff.1 hl
  have pos : ∀ i, i < l.length → 1 ≤ (el l i).beat.d := fun i hi => (fracB_iff.1 (beatB_iff.1 (tempoB_iff.1 (ha i hi)).1).1).1.1
  have far : ∀ i, k < i → i < l.length → ¬ cmpF (el l i).beat b ≤ 0 := by
    intro i hi hil
    have : ∀ d, k + 1 + d < l.length → ¬ cmpF (el l (k + 1 + d)).beat b ≤ 0 := by
      intro d
      induction d with
      | zero =>
        intro hd
        rcases h2 with h2 | h2
        · omega
        · exact h2
      | succ d ih =>
        intro hd hc
        refine ih (by omega) ?_
        have := cmpF_trans (pos (k + 1 + d) (by omega)) (pos (k + 1 + (d + 1)) hd) hb (by have := hs (k + 1 + (d + 1)) hd (by omega); rwa [show k + 1 + (d + 1) - 1 = k + 1 + d by omega] at this) hc
        omega
    have := this (i - (k + 1)) (by omega)
    rwa [show k + 1 + (i - (k + 1)) = i by omega] at this
  have hkk : cmpF (el l k).beat b ≤ 0 := by
    rcases Nat.eq_zero_or_pos k with h | h
    · rw [h]; exact h0
    · exact h1 k (Nat.le_refl _) h
  have : ∀ d, k + 1 + d ≤ l.length → idxT l b (k + 1 + d) = k := by
    intro d
    induction d with
    | zero => intro _; show (if cmpF (el l k).beat b ≤ 0 then k else _) = k; rw [if_pos hkk]
    | succ d ih =>
      intro hd
      show (if cmpF (el l (k + 1 + d)).beat b ≤ 0 then k + 1 + d else idxT l b (k + 1 + d)) = k
      rw [if_neg (far _ (by omega) (by omega))]
      exact ih (by omega)
  have := this (l.length - (k + 1)) (by omega)
  rwa [show k + 1 + (l.length - (k + 1)) = l.length by omega] at this
theorem idx_le {l : List Tempo} {b : Frac} : ∀ n, 0 < n → idxT l b n < n
  | 0, h => by omega
  | n + 1, _ => by
    unfold idxT
    split
    · omega
    · rcases Nat.eq_zero_or_pos n with h | h
      · subst h; simp [idxT]
      · have := idx_le (l := l) (b := b) n h; omega
end Go.Proofs.Ytjgfpkamoalgiaa

namespace Go.Proofs.Ytjgfpkamoalgiaa
open Go.RowKit
set_option linter.unusedVariables false
set_option linter.unusedSimpArgs false
set_option maxRecDepth 100000
attribute [local simp] List.getElem?_cons_zero
attribute [local irreducible] awCond awCall awLoop awDraw ow retQ retC resQ Keeps
def lastB (l : List Tempo) (b : Frac) (i : Nat) : Bool := decide (i + 1 = l.length) || decide (0 < cmpF (el l (i + 1)).beat b)
def goF (l : List Tempo) (b : Frac) : Nat → Nat → Frac → Frac × Int
  | 0, _, a => (a, 0)
  | f + 1, i, a =>
    if lastB l b i = true then onF (el l i).beat b (el l i).s a else
    if (onF (el l i).beat (el l (i + 1)).beat (el l i).s a).2 ≠ 0 then onF (el l i).beat (el l (i + 1)).beat (el l i).s a else goF l b f (i + 1) (onF (el l i).beat (el l (i + 1)).beat (el l i).s a).1
theorem posK_succ {l : List Tempo} {i : Nat} {a : Frac} (h : posK l i = some a) : posK l (i + 1) = if (onF (el l i).beat (el l (i + 1)).beat (el l i).s a).2 = 0 then some (onF (el l i).beat (el l (i + 1)).beat (el l i).s a).1 else none := by
  rw [posK, h]
  rfl
theorem posK_none {l : List Tempo} {i : Nat} (h : posK l i = none) : ∀ d, posK l (i + d) = none
  | 0 => h
  | d + 1 => by rw [← Nat.add_assoc, posK, posK_none h d]; rfl
theorem go_some {l : List Tempo} {b x : Frac} {K : Nat} (hK : K < l.length) (hl : lastB l b K = true) (hn : ∀ i, i < K → lastB l b i = false) (hx : posK l K = some x) :
    ∀ (d i : Nat) (a : Frac), i + d = K → posK l i = some a → goF l b (l.length - i) i a = onF (el l K).beat b (el l K).s x
  | 0, i, a, hi, ha => by
    obtain rfl : i = K := by omega
    rw [ha] at hx
    injection hx with hx
    subst hx
    rw [show l.length - i = (l.length - i - 1) + 1 by omega, goF, if_pos hl]
  | d + 1, i, a, hi, ha => by
    have hs := posK_succ ha
    rw [show l.length - i = (l.length - (i + 1)) + 1 by omega, goF, if_neg (by rw [hn i (by omega)]; simp)]
    by_cases hc : (onF (el l i).beat (el l (i + 1)).beat (el l i).s a).2 = 0
    · rw [if_pos hc] at hs
      rw [if_neg (by omega)]
      exact go_some hK hl hn hx d (i + 1) _ (by omega) hs
    · rw [if_neg hc] at hs
      have := posK_none hs (K - (i + 1))
      rw [show i + 1 + (K - (i + 1)) = K by omega, hx] at this
      cases this
theorem go_none {l : List Tempo} {b : Frac} {K : Nat} (hK : K < l.length) (hl : lastB l b K = true) (hn : ∀ i, i < K → lastB l b i = false) (hx : posK l K = none) :
    ∀ (d i : Nat) (a : Frac), i + d = K → posK l i = some a → (goF l b (l.length - i) i a).2 ≠ 0
  | 0, i, a, hi, ha => by
    obtain rfl : i = K := by omega
    rw [ha] at hx
    cases hx
  | d + 1, i, a, hi, ha => by
    have hs := posK_succ ha
    rw [show l.length - i = (l.length - (i + 1)) + 1 by omega, goF, if_neg (by rw [hn i (by omega)]; simp)]
    by_cases hc : (onF (el l i).beat (el l (i + 1)).beat (el l i).s a).2 = 0
    · rw [if_pos hc] at hs
      rw [if_neg (by omega)]
      exact go_none hK hl hn hx d (i + 1) _ (by omega) hs
    · rw [if_pos hc]
      exact hc
theorem last_ex {l : List Tempo} {b : Frac} (h : 0 < l.length) : ∃ K, K < l.length ∧ lastB l b K = true ∧ ∀ i, i < K → lastB l b i = false := by
  obtain ⟨K, h1, h2, h3⟩ := least_false (p := fun i => !lastB l b i) l.length ⟨l.length - 1, by omega, by
    have : lastB l b (l.length - 1) = true := by unfold lastB; rw [decide_eq_true (by omega)]; rfl
    simp [this]⟩
  exact ⟨K, h1, by simpa using h2, fun i hi => by simpa using h3 i hi⟩
theorem last_not {l : List Tempo} {b : Frac} {i : Nat} (h : lastB l b i = false) : i + 1 ≠ l.length ∧ cmpF (el l (i + 1)).beat b ≤ 0 := by
  unfold lastB at h
  simp only [Bool.or_eq_false_iff, decide_eq_false_iff_not] at h
  omega
/-- At the beat of a tempo: a code of 0 where the tempo has a position. -/
theorem go_self {l : List Tempo} (hl : tempA l = true) {j : Nat} (hj : j < l.length) : (goF l (el l j).beat l.length 0 ⟨0, 1⟩).2 = 0 ↔ (posK l j).isSome = true := by
  obtain ⟨⟨l1, l2⟩, ha, h0, hs⟩ := tempA_iff.1 hl
  have pos : ∀ i, i < l.length → fracB (el l i).beat = true := fun i hi => (beatB_iff.1 (tempoB_iff.1 (ha i hi)).1).1
  have lt : ∀ d i, i + (d + 1) < l.length → cmpF (el l i).beat (el l (i + (d + 1))).beat < 0 := by
    intro d
    induction d with
    | zero => intro i hi; have := hs (i + 1) hi (by omega); simpa using this
    | succ d ih =>
      intro i hi
      have h1 := ih i (by omega)
      have h2 := hs (i + (d + 1 + 1)) hi (by omega)
      rw [show i + (d + 1 + 1) - 1 = i + (d + 1) by omega] at h2
      exact cmpF_trans (fracB_iff.1 (pos _ (by omega))).1.1 (fracB_iff.1 (pos (i + (d + 1)) (by omega))).1.1 (fracB_iff.1 (pos _ hi)).1.1 h1 (by omega)
  have hlast : lastB l (el l j).beat j = true := by
    unfold lastB
    by_cases h : j + 1 = l.length
    · rw [decide_eq_true h]; rfl
    · have h1 := lt 0 j (by omega)
      rw [cmpF_lt] at h1
      have : 0 < cmpF (el l (j + 1)).beat (el l j).beat := by
        have : ¬ cmpF (el l (j + 1)).beat (el l j).beat ≤ 0 := by
          rw [cmpF_le]
          simp only [Nat.zero_add] at h1
          omega
        omega
      rw [decide_eq_true this]
      simp
  have hnot : ∀ i, i < j → lastB l (el l j).beat i = false := by
    intro i hi
    unfold lastB
    rw [decide_eq_false (by omega), Bool.false_or, decide_eq_false]
    by_cases h : i + 1 = j
    · rw [h]
      have : cmpF (el l j).beat (el l j).beat ≤ 0 := by rw [cmpF_le]; omega
      omega
    · have := lt (j - (i + 1) - 1) (i + 1) (by omega)
      rw [show i + 1 + (j - (i + 1) - 1 + 1) = j by omega] at this
      omega
  have hs0 : (1 ≤ (el l j).s ∧ (el l j).s ≤ 1000) := (tempoB_iff.1 (ha j hj)).2
  cases hp : posK l j with
  | none =>
    have := go_none hj hlast hnot hp j 0 ⟨0, 1⟩ (by omega) rfl
    rw [Nat.sub_zero] at this
    simp [this]
  | some x =>
    have := go_some hj hlast hnot hp j 0 ⟨0, 1⟩ (by omega) rfl
    rw [Nat.sub_zero] at this
    rw [this, onF_self (pos j hj) (posK_ok l hp) hs0]
    simp
/-- At any beat of a valid map: from the position of its tempo. -/
theorem go_beat {l : List Tempo} {b : Frac} (hl : tempB l = true) (hb : beatB b = true) : ∃ k a, idxT l b l.length = k ∧ k < l.length ∧ posK l k = some a ∧ goF l b l.length 0 ⟨0, 1⟩ = onF (el l k).beat b (el l k).s a := by
  have hA : tempA l = true := by simp only [tempB, Bool.and_eq_true] at hl; exact hl.1
  have hP : ∀ k, k < l.length → (posK l k).isSome = true := by simp only [tempB, Bool.and_eq_true, decide_eq_true_eq] at hl; exact hl.2
  obtain ⟨⟨l1, l2⟩, ha, h0, hs⟩ := tempA_iff.1 hA
  obtain ⟨hbf, hb0, -⟩ := beatB_iff.1 hb
  have hbd := (fracB_iff.1 hbf).1.1
  obtain ⟨K, k1, k2, k3⟩ := last_ex (l := l) (b := b) (by omega)
  obtain ⟨a, hpa⟩ := Option.isSome_iff_exists.1 (hP K k1)
  have h00 : cmpF (el l 0).beat b ≤ 0 := by
    rw [cmpF_le]
    have hz : (el l 0).beat.n = 0 := h0
    have hd0 := (fracB_iff.1 (beatB_iff.1 (tempoB_iff.1 (ha 0 (by omega))).1).1).1.1
    rw [hz, Int.zero_mul]
    exact Int.mul_nonneg hb0 (by omega)
  refine ⟨K, a, idx_last hA hbd k1 (fun i hi hi0 => ?_) h00 ?_, k1, hpa, ?_⟩
  · have := (last_not (k3 (i - 1) (by omega))).2
    rwa [show i - 1 + 1 = i by omega] at this
  · unfold lastB at k2
    simp only [Bool.or_eq_true, decide_eq_true_eq] at k2
    omega
  · have := go_some k1 k2 k3 hpa K 0 ⟨0, 1⟩ (by omega) rfl
    rwa [Nat.sub_zero] at this
end Go.Proofs.Ytjgfpkamoalgiaa

namespace Go.Proofs.Ytjgfpkamoalgiaa
open Go.RowKit
set_option linter.unusedVariables false
set_option linter.unusedSimpArgs false
set_option maxRecDepth 100000
attribute [local simp] List.getElem?_cons_zero
attribute [local irreducible] awCond awCall awLoop awDraw ow retQ retC resQ Keeps
def Frac.q (f : Frac) : Rat := Rat.divInt f.n f.d
theorem divInt_gcd {n d : Int} {g : Nat} (hg : 0 < g) (hn : (g : Int) ∣ n) (hd : (g : Int) ∣ d) : Rat.divInt (n / g) (d / g) = Rat.divInt n d := by
  obtain ⟨a, rfl⟩ := hn
  obtain ⟨b, rfl⟩ := hd
  have hg' : (g : Int) ≠ 0 := by omega
  rw [Int.mul_ediv_cancel_left _ hg', Int.mul_ediv_cancel_left _ hg', Rat.divInt_mul_left hg']
theorem divInt_le {a b c d : Int} (hb : 0 < b) (hd : 0 < d) : Rat.divInt a b ≤ Rat.divInt c d ↔ a * d ≤ c * b := by
  rw [Rat.le_iff_sub_nonneg, Rat.divInt_sub_divInt _ _ (by omega) (by omega), Rat.divInt_nonneg_iff_of_pos_right (Int.mul_pos hd hb)]
  constructor <;> intro h <;> omega
theorem cmpF_q {a b : Frac} (ha : 1 ≤ a.d) (hb : 1 ≤ b.d) : cmpF a b ≤ 0 ↔ a.q ≤ b.q := by
  rw [cmpF_le]
  exact (divInt_le (by omega) (by omega)).symm
theorem floor_q {f : Frac} (h : 0 < f.d) : f.q.floor = f.n / f.d := by
  have key : ∀ x : Int, x ≤ f.q.floor ↔ x ≤ f.n / f.d := by
    intro x
    have e : (x : Rat) = Rat.divInt x 1 := by rw [Rat.divInt_eq_div]; simp [Rat.div_def]; grind
    rw [Rat.le_floor_iff, e]
    unfold Frac.q
    rw [divInt_le (by omega) h, Int.le_ediv_iff_mul_le h, Int.mul_one]
  have h1 := (key _).1 (Int.le_refl _)
  have h2 := (key _).2 (Int.le_refl _)
  omega
theorem mkF_q {n d : Int} (hd : 0 < d) (h : (mkF n d).2 = 0) : (mkF n d).1.q = Rat.divInt n d := by
  unfold mkF at h ⊢
  rw [if_neg (by omega)] at h ⊢
  split at h
  · cases h
  · rename_i hx
    rw [if_neg hx]
    clear h hx
    have hg : 0 < n.natAbs.gcd d.natAbs := Nat.gcd_pos_of_pos_right _ (by omega)
    generalize hgg : n.natAbs.gcd d.natAbs = g at hg
    obtain ⟨a, ha⟩ : g ∣ n.natAbs := by rw [← hgg]; exact Nat.gcd_dvd_left _ _
    obtain ⟨b, hb⟩ : g ∣ d.natAbs := by rw [← hgg]; exact Nat.gcd_dvd_right _ _
    rw [ha, hb, Nat.mul_div_cancel_left _ hg, Nat.mul_div_cancel_left _ hg]
    have hg' : (g : Int) ≠ 0 := by omega
    have ed : d = (g : Int) * b := by rw [← Int.natCast_mul, ← hb]; omega
    have hdn : ¬ d < 0 := by omega
    by_cases hn : n < 0
    · have en : n = (g : Int) * -(a : Int) := by rw [Int.mul_neg, ← Int.natCast_mul, ← ha]; omega
      simp only [hn, hdn, decide_true, decide_false]
      show Rat.divInt (-(a : Int)) b = _
      rw [en, ed, Rat.divInt_mul_left hg']
    · have en : n = (g : Int) * (a : Int) := by rw [← Int.natCast_mul, ← ha]; omega
      simp only [hn, hdn, decide_false]
      show Rat.divInt (a : Int) b = _
      rw [en, ed, Rat.divInt_mul_left hg']
theorem addF_q {a b : Frac} (ha : fracB a = true) (hb : fracB b = true) (h : (addF a b).2 = 0) : (addF a b).1.q = a.q + b.q := by
  obtain ⟨a1, -⟩ := fracB_iff.1 ha
  obtain ⟨b1, -⟩ := fracB_iff.1 hb
  have hd : 0 < a.d * b.d := Int.mul_pos (by omega) (by omega)
  unfold addF at h ⊢
  rw [if_pos ⟨ha, hb⟩] at h ⊢
  rw [mkF_q hd h]
  exact (Rat.divInt_add_divInt a.n b.n (by omega) (by omega)).symm
theorem subF_q {a b : Frac} (ha : fracB a = true) (hb : fracB b = true) (h : (subF a b).2 = 0) : (subF a b).1.q = a.q - b.q := by
  obtain ⟨a1, -⟩ := fracB_iff.1 ha
  obtain ⟨b1, -⟩ := fracB_iff.1 hb
  have hd : 0 < a.d * b.d := Int.mul_pos (by omega) (by omega)
  unfold subF at h ⊢
  rw [if_pos ⟨ha, hb⟩] at h ⊢
  rw [mkF_q hd h]
  exact (Rat.divInt_sub_divInt a.n b.n (by omega) (by omega)).symm
theorem mulF_q {a b : Frac} (ha : fracB a = true) (hb : fracB b = true) (h : (mulF a b).2 = 0) : (mulF a b).1.q = a.q * b.q := by
  obtain ⟨a1, -⟩ := fracB_iff.1 ha
  obtain ⟨b1, -⟩ := fracB_iff.1 hb
  have hd : 0 < a.d * b.d := Int.mul_pos (by omega) (by omega)
  unfold mulF at h ⊢
  rw [if_pos ⟨ha, hb⟩] at h ⊢
  rw [mkF_q hd h]
  exact (Rat.divInt_mul_divInt a.n b.n).symm
theorem onF_q {frm beat at_ : Frac} {s : Int} (h1 : fracB frm = true) (h2 : fracB beat = true) (h3 : fracB at_ = true) (hs : 1 ≤ s ∧ s ≤ 1000) (h : (onF frm beat s at_).2 = 0) : (onF frm beat s at_).1.q = at_.q + (beat.q - frm.q) * s := by
  unfold onF at h ⊢
  split at h
  · rename_i h'; exact absurd h h'
  · rename_i h'
    rw [if_neg h']
    have e1 := subF_q h2 h1 (by omega)
    have f1 := subF_ok (a := beat) (b := frm) (by omega)
    have hw := whole_ok (n := s) (by omega) (by omega)
    split at h
    · rename_i h''; exact absurd h h''
    · rename_i h''
      rw [if_neg h'']
      rw [addF_q h3 (mulF_ok (by omega)) h, mulF_q f1 hw (by omega), e1]
      congr 2
      show Rat.divInt s 1 = s
      rw [Rat.divInt_eq_div]
      simp [Rat.div_def]
      grind
end Go.Proofs.Ytjgfpkamoalgiaa

namespace Go.Proofs.Ytjgfpkamoalgiaa
open Go.RowKit
set_option linter.unusedVariables false
set_option linter.unusedSimpArgs false
set_option maxRecDepth 100000
attribute [local simp] List.getElem?_cons_zero
attribute [local irreducible] awCond awCall awLoop awDraw ow retQ retC resQ Keeps
structure StreamEvent where
  (d j o k u : Int)
deriving Inhabited, DecidableEq
def StreamEvent.row (c : StreamEvent) : List Value := [iv c.d, iv c.j, iv c.o, iv c.k, iv c.u]
def streamEventR : RecV StreamEvent 5 := ⟨StreamEvent.row, fun _ => rfl⟩
abbrev StreamEvent.v (c : StreamEvent) : Value := .agg #[iv c.d, iv c.j, iv c.o, iv c.k, iv c.u]
theorem streamEvent_cells {M : Mem} {id off : Nat} {g : StreamEvent} (h : Cl M id off g.row) : cellAt M id off = some (iv g.d) ∧ cellAt M id (off + 1) = some (iv g.j) ∧ cellAt M id (off + 2) = some (iv g.o) ∧ cellAt M id (off + 3) = some (iv g.k) ∧ cellAt M id (off + 4) = some (iv g.u) :=
  ⟨h 0 _ rfl, h 1 _ rfl, h 2 _ rfl, h 3 _ rfl, h 4 _ rfl⟩
theorem streamEvent_load {M : Mem} {id off : Nat} {g : StreamEvent} (h : Cl M id off g.row) : cellsAt M id off 5 = some [iv g.d, iv g.j, iv g.o, iv g.k, iv g.u] := cellsAt_of h rfl (by omega)
theorem streamEvent_eq {a b : StreamEvent} : a = b ↔ a.d = b.d ∧ a.j = b.j ∧ a.o = b.o ∧ a.k = b.k ∧ a.u = b.u := by
  cases a; cases b; simp
def streamEventI : Ints streamEventR := ⟨fun zs => ⟨gi zs 0, gi zs 1, gi zs 2, gi zs 3, gi zs 4⟩, fun zs h => by
  obtain ⟨x0, x1, x2, x3, x4, rfl⟩ : ∃ x0 x1 x2 x3 x4, zs = [x0, x1, x2, x3, x4] := by
    match zs, h with
    | [x0, x1, x2, x3, x4], _ => exact ⟨x0, x1, x2, x3, x4, rfl⟩
  rfl⟩

/-- Equality of records, as the language has it. -/
theorem streamEvent_same (a b : StreamEvent) : aggEq Try.prog 53 #[iv a.d, iv a.j, iv a.o, iv a.k, iv a.u] #[iv b.d, iv b.j, iv b.o, iv b.k, iv b.u] = some (decide (a = b)) := by
  refine aggEq_of (by kernel_rfl) rfl rfl fun w => ?_
  unfold Op.equal
  rw [show Op.maxDepth = 9999 + 1 from rfl]
  rw [run_equalIn_agg _ _ _ _ _ Try.underlying53 (by kernel_rfl)]
  simp [go_sem]
  repeat' split
  all_goals simp_all [streamEvent_eq]
theorem streamEvent_eql (a b : StreamEvent) : binV Try.prog .eql 53 (.agg #[iv a.d, iv a.j, iv a.o, iv a.k, iv a.u]) (.agg #[iv b.d, iv b.j, iv b.o, iv b.k, iv b.u]) = some (.bool (decide (a = b))) := by
  simp only [binV, eqV, Try.underlying53, streamEvent_same, Option.map_some]
theorem streamEvent_neq (a b : StreamEvent) : binV Try.prog .neq 53 (.agg #[iv a.d, iv a.j, iv a.o, iv a.k, iv a.u]) (.agg #[iv b.d, iv b.j, iv b.o, iv b.k, iv b.u]) = some (.bool (!decide (a = b))) := by
  simp only [binV, eqV, Try.underlying53, streamEvent_same, Option.map_some]
@[simp] theorem streamEvent_fill (x0 x1 x2 x3 x4 : Int) : Instr.fill (fun i => some (i * 5, 5)) (zrow [iv 0, iv 0, iv 0, iv 0, iv 0] 1).toArray [(0, .agg #[iv x0, iv x1, iv x2, iv x3, iv x4])] = some #[iv x0, iv x1, iv x2, iv x3, iv x4] := fill_agg (by omega) rfl rfl
theorem eqStreamEvent_a {M : Mem} (a b : StreamEvent) : Det Try.prog M.length 28 [a.v, b.v] M (.bool (decide (a = b))) M := by
  first | (refine det_fn Try.func28 rfl Try.ntmps28 Try.results28 rfl rfl rfl (by simp) ?_) | (refine det_fnC Try.func28 rfl Try.ntmps28 Try.results28 rfl rfl (by simp) ?_)
  simp
  repeat' (first | (refine awCond_split ?_ ?_ <;> intro _) | (simp [keeps_app]))
  all_goals (simp_all [streamEvent_eq])
theorem eqStreamEventS_a {M : Mem} {A B : Option Addr} {n c m d : Nat} {x y : List StreamEvent} (hx : Sl streamEventR M A n x) (hy : Sl streamEventR M B m y) (hn : n ≤ 1099511627776) : Det Try.prog M.length 8 [.slice A n c, .slice B m d] M (.bool (decide (x = y))) M := by
  have hlx := hx.1
  have hly := hy.1
  first | (refine det_fn Try.func8 rfl Try.ntmps8 Try.results8 rfl rfl rfl (by simp) ?_) | (refine det_fnC Try.func8 rfl Try.ntmps8 Try.results8 rfl rfl (by simp) ?_)
  simp
  refine awCond_split ?_ ?_ <;> intro hnm
  · simp at hnm
    simp
    exact ⟨fun e => by subst e; omega, Keeps.refl _⟩
  · simp at hnm
    obtain rfl : n = m := by omega
    simp
    refine awLoop_T (fun m T M' => ∃ k : Nat, k + m = n ∧ M' = M ∧ look T 5 = some (iv k) ∧ look T 0 = some (.slice A n c) ∧ look T 1 = some (.slice B n d) ∧ x.take k = y.take k) n ⟨0, by omega, rfl, by simp, by simp, by simp, by simp⟩ ?_
    rintro m T M' ⟨k, hm, rfl, h4, h0, h1, hk⟩
    by_cases hlt : k < n
    · obtain ⟨id, off, rfl, he, hc⟩ := hx.at_ hlt
      obtain ⟨id', off', rfl, he', hc'⟩ := hy.at_ hlt
      simp (disch := omega) [h4, h0, h1, hlt, wrap_in]
      refine awDraw_E 8 [[],[],[0,1],[2,0,1],[],[],[4,5],[6,4,5],[3,2,0,1,7,6,4,5],[8,3,2,0,1,7,6,4,5]] (by kernel_rfl) (by kernel_rfl) ?_
      simp (disch := omega) [h4, h0, h1, hlt, wrap_in, streamEvent_load hc, streamEvent_load hc']
      refine awCall_det' (eqStreamEvent_a (el x k) (el y k)) (Nat.le_refl _) ?_
      simp
      refine awCond_split ?_ ?_ <;> intro he
      · simp at he
        simp
        exact ⟨fun e => he (by rw [e]), Keeps.refl _⟩
      · simp at he
        simp (disch := omega) [h4, h0, h1, wrap_in]
        refine lpI (m - 1) (by omega) ?_
        exact ⟨k + 1, by omega, rfl, by simp, by simp [h0], by simp [h1], by rw [take_el (by omega), take_el (by omega), hk, he]⟩
    · obtain rfl : k = n := by omega
      rw [List.take_of_length_le (by omega), List.take_of_length_le (by omega)] at hk
      simp [h4, h0, h1, hk, Keeps.refl]
def markStreamEvent (z : Int) (i : Nat) : StreamEvent := ⟨z + i * 5, z + i * 5 + 1, z + i * 5 + 1 + 1, z + i * 5 + 1 + 1 + 1, z + i * 5 + 1 + 1 + 1 + 1⟩
def markStreamEventL (z : Int) (n : Nat) : List StreamEvent := (List.range n).map (markStreamEvent z)
theorem markStreamEventL_succ (z : Int) (n : Nat) : markStreamEventL z (n + 1) = markStreamEventL z n ++ [markStreamEvent z n] := by simp [markStreamEventL, List.range_succ]
theorem markStreamEventS_a {M : Mem} {b : Nat} {A : Option Addr} {n c : Nat} {x : List StreamEvent} (z : Int) (hx : Sl streamEventR M A n x) (ho : Ownd M A n) (hb : ∀ a, A = some a → 0 < n → b ≤ a.block) (hn : n ≤ 1099511627776) (hz0 : 0 ≤ z) (hz : z ≤ 1152921504606846976) :
    Ctr Try.prog b 11 [.slice A n c, iv z] M fun v M' => v = iv (z + n * 5) ∧ Sl streamEventR M' A n (markStreamEventL z n) ∧ Ownd M' A n ∧ Turned A n M M' := by
  have hlx := hx.1
  rcases Nat.eq_zero_or_pos n with rfl | hp
  · first | (refine ctr_fn Try.func11 rfl Try.ntmps11 Try.results11 rfl rfl (by simp) ?_) | (refine ctr_fnC Try.func11 rfl Try.ntmps11 Try.results11 rfl (by simp) ?_)
    simp
    refine awLoop_T (fun m T M' => M' = M ∧ look T 1 = some (iv z) ∧ look T 5 = some (iv 0) ∧ look T 0 = some (.slice A 0 c)) 0 ⟨rfl, by simp, by simp, by simp⟩ ?_
    rintro m T M' ⟨rfl, h1, h3, h0⟩
    simp [h1, h3, h0]
    obtain rfl := List.eq_nil_of_length_eq_zero hlx
    exact ⟨hx, ho, rfl, fun i s hs _ => hs⟩
  · obtain ⟨id, off, r, rfl, hr, ho⟩ := ho hp
    have hid := (List.getElem?_eq_some_iff.1 hr).1
    obtain ⟨hz5, hlen⟩ := hx.cells hr hp (by omega)
    have hb' : b ≤ id := hb _ rfl hp
    obtain ⟨cs, own, t, e, esz⟩ := r
    simp only at hz5 hlen ho
    subst hz5 ho
    have hM : M = M.set id (.live ⟨cs.take off ++ cellsL streamEventR (markStreamEventL z 0) ++ cs.drop (off + 0 * 5), true, t, e, 5⟩) := by
      rw [set_self]
      simp [markStreamEventL, cellsL_nil, hr]
    first | (refine ctr_fn Try.func11 rfl Try.ntmps11 Try.results11 rfl rfl (by simp) ?_) | (refine ctr_fnC Try.func11 rfl Try.ntmps11 Try.results11 rfl (by simp) ?_)
    simp
    refine awLoop_T (fun m T M' => ∃ j : Nat, j + m = n ∧ M' = M.set id (.live ⟨cs.take off ++ cellsL streamEventR (markStreamEventL z j) ++ cs.drop (off + j * 5), true, t, e, 5⟩) ∧ look T 5 = some (iv j) ∧ look T 1 = some (iv (z + j * 5)) ∧ look T 0 = some (.slice (some ⟨id, off, none⟩) n c)) n ⟨0, by omega, hM, by simp, by simp, by simp⟩ ?_
    rintro m T M' ⟨j, hm, rfl, h5, h1, h0⟩
    have hlm : (markStreamEventL z j).length = j := by simp [markStreamEventL]
    by_cases hlt : j < n
    · have hsp := splice_mid streamEventR (cs := cs) (off := off) (a := markStreamEvent z j) hlm (by omega)
      have hlc : (cs.take off ++ cellsL streamEventR (markStreamEventL z j) ++ cs.drop (off + j * 5)).length = cs.length := by
        simp only [List.length_append, List.length_take, List.length_drop, cellsL_len, hlm]; omega
      generalize cs.take off ++ cellsL streamEventR (markStreamEventL z j) ++ cs.drop (off + j * 5) = Cs at hsp hlc ⊢
      simp (disch := first | omega | (simp <;> omega)) [h5, h1, h0, hlt, wrap_in, rowEsz_set hid, put_set hid hb']
      refine lpI (m - 1) (by omega) ?_
      refine ⟨j + 1, by omega, ?_, by simp, by simp; omega, by simp [h0]⟩
      rw [markStreamEventL_succ, ← hsp]
      rfl
    · obtain rfl : j = n := by omega
      have hS := Sl.set (R := streamEventR) (M := M) (pre := cs.take off) (post := cs.drop (off + j * 5)) (o := true) (t := t) (e := e) hid (List.length_take_of_le (by omega)) hlm
      have hO : Ownd (M.set id (.live ⟨cs.take off ++ cellsL streamEventR (markStreamEventL z j) ++ cs.drop (off + j * 5), true, t, e, 5⟩)) (some ⟨id, off, none⟩) j := fun _ => ⟨_, _, _, rfl, List.getElem?_set_self hid, rfl⟩
      have hT : Turned (some ⟨id, off, none⟩) j M (M.set id (.live ⟨cs.take off ++ cellsL streamEventR (markStreamEventL z j) ++ cs.drop (off + j * 5), true, t, e, 5⟩)) := set_turned hp
      generalize M.set id (.live ⟨cs.take off ++ cellsL streamEventR (markStreamEventL z j) ++ cs.drop (off + j * 5), true, t, e, 5⟩) = M' at hS hO hT ⊢
      simp [h5, h1, h0]
      exact ⟨hS, hO, hT⟩
theorem heldStreamEventS_a {M : Mem} {A : Option Addr} {n c : Nat} (z : Int) (hx : Sl streamEventR M A n (markStreamEventL z n)) (hn : n ≤ 1099511627776) (hz0 : 0 ≤ z) (hz : z ≤ 1152921504606846976) :
    Det Try.prog M.length 12 [.slice A n c, iv z] M (iv (z + n * 5)) M := by
  first | (refine det_fn Try.func12 rfl Try.ntmps12 Try.results12 rfl rfl rfl (by simp) ?_) | (refine det_fnC Try.func12 rfl Try.ntmps12 Try.results12 rfl rfl (by simp) ?_)
  simp
  refine awLoop_T (fun m T M' => ∃ j : Nat, j + m = n ∧ M' = M ∧ look T 5 = some (iv j) ∧ look T 1 = some (iv (z + j * 5)) ∧ look T 0 = some (.slice A n c)) n ⟨0, by omega, rfl, by simp, by simp, by simp⟩ ?_
  rintro m T M' ⟨j, hm, rfl, h5, h1, h0⟩
  by_cases hlt : j < n
  · obtain ⟨id, off, rfl, he, hc⟩ := hx.at_ hlt
    rw [show el (markStreamEventL z n) j = markStreamEvent z j by simp [markStreamEventL, el, hlt]] at hc
    obtain ⟨c0, c1, c2, c3, c4⟩ := streamEvent_cells hc
    simp (disch := omega) [h5, h1, h0, hlt, wrap_in, c0, c1, c2, c3, c4, markStreamEvent]
    refine lpI (m - 1) (by omega) ?_
    exact ⟨j + 1, by omega, rfl, by simp, by simp; omega, by simp [h0]⟩
  · obtain rfl : j = n := by omega
    simp [h5, h1, h0, Keeps.refl]
/-! The same, as the laws use them. -/
theorem eq_StreamEventS {M : Mem} {v w : Value} {lo hi lo' hi' : Nat} {x y : List StreamEvent} (hx : OwL streamEventR lo hi M v x) (hy : RdL streamEventR lo' hi' M w y) : Det Try.prog M.length 8 [v, w] M (.bool (decide (x = y))) M := by
  obtain ⟨A, n, c, rfl, hn, hS, _⟩ := hx
  obtain ⟨B, m, d, rfl, hm, hT, _⟩ := hy
  exact eqStreamEventS_a hS hT hn
theorem mark_StreamEventS {M : Mem} {b : Nat} {v : Value} {lo hi : Nat} {l : List StreamEvent} {z : Int} (h : OwL streamEventR lo hi M v l) (hb : b ≤ lo) (hz : 0 ≤ z) (hz1 : z ≤ 1152921504606846976) :
    Ctr Try.prog b 11 [v, iv z] M fun r M' => r = iv (z + l.length * 5) ∧ OwL streamEventR lo hi M' v (markStreamEventL z l.length) ∧ Turn lo hi M M' := by
  obtain ⟨A, n, c, rfl, hn, hS, hi', ho⟩ := h
  exact (markStreamEventS_a z hS ho (fun a e hp => by have := hi' a e hp; omega) hn hz hz1).mono fun r M' ⟨h1, h2, h3, h4⟩ => ⟨by rw [h1, hS.1], ⟨A, n, c, rfl, hn, by rw [hS.1]; exact h2, hi', h3⟩, Nat.le_of_eq h4.1.symm, fun i s hs hd => h4.2 i s hs fun a e hp => by have := hi' a e hp; omega⟩
theorem held_StreamEventS {M : Mem} {v : Value} {lo hi m : Nat} {z : Int} (h : OwL streamEventR lo hi M v (markStreamEventL z m)) (hz : 0 ≤ z) (hz1 : z ≤ 1152921504606846976) : Det Try.prog M.length 12 [v, iv z] M (iv (z + m * 5)) M := by
  obtain ⟨A, n, c, rfl, hn, hS, _⟩ := h
  have hm : m = n := by have := hS.1; simpa [markStreamEventL] using this
  subst hm
  exact heldStreamEventS_a z hS hn hz hz1
end Go.Proofs.Ytjgfpkamoalgiaa

namespace Go.Proofs.Ytjgfpkamoalgiaa
open Go.RowKit
set_option linter.unusedVariables false
set_option linter.unusedSimpArgs false
/-- The order of events. -/
def cmpE (a b : StreamEvent) : Int := if a.d ≠ b.d then a.d - b.d else if a.j ≠ b.j then b.j - a.j else if a.o ≠ b.o then a.o - b.o else a.k - b.k
theorem cmpE_lt {a b : StreamEvent} : cmpE a b < 0 ↔ a.d < b.d ∨ (a.d = b.d ∧ (b.j < a.j ∨ (a.j = b.j ∧ (a.o < b.o ∨ (a.o = b.o ∧ a.k < b.k))))) := by
  unfold cmpE
  repeat' split
  all_goals omega
theorem cmpE_zero {a b : StreamEvent} : cmpE a b = 0 ↔ a.d = b.d ∧ a.j = b.j ∧ a.o = b.o ∧ a.k = b.k := by
  unfold cmpE
  repeat' split
  all_goals omega
theorem cmpE_neg (a b : StreamEvent) : cmpE b a = -cmpE a b := by
  unfold cmpE
  repeat' split
  all_goals omega
/-- a is not behind b. -/
def LeE (a b : StreamEvent) : Prop := cmpE a b ≤ 0
theorem LeE.trans {a b c : StreamEvent} (h1 : LeE a b) (h2 : LeE b c) : LeE a c := by
  have e : ∀ x y : StreamEvent, cmpE x y ≤ 0 ↔ ¬ cmpE y x < 0 := fun x y => by rw [cmpE_neg x y]; omega
  unfold LeE at *
  rw [e] at *
  rw [cmpE_lt] at *
  omega
theorem LeE.of_not {a b : StreamEvent} (h : ¬ cmpE b a < 0) : LeE a b := by
  unfold LeE
  rw [cmpE_neg a b] at h
  omega
/-- The place behind which an event is put. -/
def posE (e : StreamEvent) (l : List StreamEvent) : Nat → Nat
  | 0 => 0
  | k + 1 => if cmpE e (el l k) < 0 then posE e l k else k + 1
def insE (l : List StreamEvent) (e : StreamEvent) : List StreamEvent := l.take (posE e l l.length) ++ e :: l.drop (posE e l l.length)
theorem posE_le (e : StreamEvent) (l : List StreamEvent) : ∀ k, posE e l k ≤ k
  | 0 => Nat.le_refl _
  | k + 1 => by
    rw [posE]
    split
    · have := posE_le e l k; omega
    · exact Nat.le_refl _
theorem posE_at (e : StreamEvent) (l : List StreamEvent) : ∀ k, (∀ i, posE e l k ≤ i → i < k → cmpE e (el l i) < 0) ∧ (0 < posE e l k → ¬ cmpE e (el l (posE e l k - 1)) < 0)
  | 0 => ⟨fun i _ h => by omega, fun h => by simp [posE] at h⟩
  | k + 1 => by
    rw [posE]
    split
    · rename_i h
      obtain ⟨h1, h2⟩ := posE_at e l k
      refine ⟨fun i ha hb => ?_, h2⟩
      by_cases e' : i = k
      · rw [e']; exact h
      · exact h1 i ha (by omega)
    · rename_i h
      exact ⟨fun i ha hb => by omega, fun _ => h⟩
theorem insE_perm (l : List StreamEvent) (e : StreamEvent) : (insE l e).Perm (l ++ [e]) := by
  unfold insE
  generalize posE e l l.length = p
  have h1 : (l.take p ++ e :: l.drop p).Perm (e :: (l.take p ++ l.drop p)) := List.perm_middle
  rw [List.take_append_drop] at h1
  exact h1.trans (List.perm_append_singleton e l).symm
theorem insE_sorted {l : List StreamEvent} {e : StreamEvent} (h : l.Pairwise LeE) : (insE l e).Pairwise LeE := by
  unfold insE
  obtain ⟨h1, h2⟩ := posE_at e l l.length
  have hp := posE_le e l l.length
  generalize posE e l l.length = p at *
  have hpw := List.pairwise_iff_getElem.1 h
  have lt : ∀ i j, i < j → j < l.length → LeE (el l i) (el l j) := fun i j hij hj => by
    have := hpw i j (by omega) hj hij
    rwa [el_eq, el_eq] at this
  have bef : ∀ x, x ∈ l.take p → LeE x e := fun x hx => by
    obtain ⟨i, hi, rfl⟩ := List.getElem_of_mem hx
    rw [List.length_take] at hi
    rw [List.getElem_take, el_eq (by omega)]
    have hl : LeE (el l (p - 1)) e := .of_not (h2 (by omega))
    by_cases ei : i = p - 1
    · rw [ei]; exact hl
    · exact (lt i (p - 1) (by omega) (by omega)).trans hl
  have beh : ∀ x, x ∈ l.drop p → LeE e x := fun x hx => by
    obtain ⟨i, hi, rfl⟩ := List.getElem_of_mem hx
    rw [List.length_drop] at hi
    rw [List.getElem_drop, el_eq (by omega)]
    have := h1 (p + i) (by omega) (by omega)
    unfold LeE
    omega
  rw [List.pairwise_append]
  refine ⟨h.sublist (List.take_sublist _ _), List.pairwise_cons.2 ⟨beh, h.sublist (List.drop_sublist _ _)⟩, fun a ha b hb => ?_⟩
  rcases List.mem_cons.1 hb with rfl | hb
  · exact bef a ha
  · exact (bef a ha).trans (beh b hb)
/-- The events, one put behind the other. -/
def sortE (l : List StreamEvent) : List StreamEvent := l.foldl insE []
theorem foldE (l : List StreamEvent) : ∀ acc : List StreamEvent, acc.Pairwise LeE → (l.foldl insE acc).Pairwise LeE ∧ (l.foldl insE acc).Perm (acc ++ l) := by
  induction l with
  | nil => exact fun acc h => ⟨h, by simp⟩
  | cons e l ih =>
    intro acc h
    obtain ⟨h1, h2⟩ := ih (insE acc e) (insE_sorted h)
    refine ⟨h1, h2.trans ?_⟩
    have := (insE_perm acc e).append_right l
    simpa using this
theorem sortE_sorted (l : List StreamEvent) : (sortE l).Pairwise LeE := (foldE l [] .nil).1
theorem sortE_perm (l : List StreamEvent) : (sortE l).Perm l := by
  have := (foldE l [] .nil).2
  simpa [sortE] using this
/-- Two lists of the same events, each in order, are one, where events that are level are one. -/
theorem sort_one : ∀ (a b : List StreamEvent), a.Perm b → a.Pairwise LeE → b.Pairwise LeE → (∀ x y, x ∈ a → y ∈ a → cmpE x y = 0 → x = y) → a = b
  | [], b, hp, _, _, _ => by rw [List.Perm.eq_nil hp.symm]
  | x :: a, [], hp, _, _, _ => by have := hp.length_eq; simp at this
  | x :: a, y :: b, hp, ha, hb, hu => by
    have hx : x ∈ y :: b := hp.mem_iff.1 (by simp)
    have hy : y ∈ x :: a := hp.mem_iff.2 (by simp)
    obtain ⟨ha1, ha2⟩ := List.pairwise_cons.1 ha
    obtain ⟨hb1, hb2⟩ := List.pairwise_cons.1 hb
    have exy : x = y := by
      by_cases e : x = y
      · exact e
      · have h1 : y ∈ a := by
          rcases List.mem_cons.1 hy with h | h
          · exact absurd h.symm e
          · exact h
        have h2 : x ∈ b := by
          rcases List.mem_cons.1 hx with h | h
          · exact absurd h e
          · exact h
        have l1 := ha1 y h1
        have l2 := hb1 x h2
        unfold LeE at l1 l2
        rw [cmpE_neg x y] at l2
        exact hu x y (by simp) hy (by omega)
    subst exy
    rw [sort_one a b (List.Perm.cons_inv hp) ha2 hb2 fun p q hp hq => hu p q (by simp [hp]) (by simp [hq])]
/-- Ticks for times. -/
def dltE : Int → List StreamEvent → List StreamEvent
  | _, [] => []
  | b, e :: l => { e with d := e.d - b } :: dltE e.d l
theorem dltE_len : ∀ (l : List StreamEvent) (b : Int), (dltE b l).length = l.length
  | [], _ => rfl
  | e :: l, b => by simp [dltE, dltE_len l]
end Go.Proofs.Ytjgfpkamoalgiaa

namespace Go.Proofs.Ytjgfpkamoalgiaa
open Go.RowKit
set_option linter.unusedVariables false
set_option linter.unusedSimpArgs false
set_option maxRecDepth 100000
attribute [local simp] List.getElem?_cons_zero
attribute [local irreducible] awCond awCall awLoop awDraw ow retQ retC resQ Keeps
def cmpX (a b : Frac) : Int := if fracB a = true ∧ fracB b = true then cmpF a b else 0
theorem CompareFrac_s {M : Mem} (a b : Frac) : Det Try.prog M.length 36 [a.v, b.v] M (iv (cmpX a b)) M := by
  first | (refine det_fn Try.func36 rfl Try.ntmps36 Try.results36 rfl rfl rfl (by simp) ?_) | (refine det_fnC Try.func36 rfl Try.ntmps36 Try.results36 rfl rfl (by simp) ?_)
  simp
  refine awCall_det' (l02Ok_a a) (by simp) ?_
  by_cases h1 : fracB a = true
  · simp [h1]
    refine awCall_det' (l02Ok_a b) (by simp) ?_
    by_cases h2 : fracB b = true
    · simp [h2]
      refine awCall_det' (compare_s a b h1 h2) (by simp) ?_
      simp [cmpX, h1, h2, keeps_app]
    · simp [cmpX, h1, h2, keeps_app]
  · simp [cmpX, h1, keeps_app]
def clashB (a b : Note) : Bool := decide (a.o = b.o) && decide (a.k = b.k) && decide (cmpX b.at_ a.fin < 0)
theorem l20Clash_a {M : Mem} {id off id' off' : Nat} {a b : Note} (hca : Cl M id off a.row) (hcb : Cl M id' off' b.row) :
    Det Try.prog M.length 19 [.pointer (some ⟨id, off, none⟩), .pointer (some ⟨id', off', none⟩)] M (.bool (clashB a b)) M := by
  obtain ⟨a0, a1, a2, a3, a4, a5, a6⟩ := note_cells hca
  obtain ⟨b0, b1, b2, b3, b4, b5, b6⟩ := note_cells hcb
  obtain ⟨g0, g2⟩ := note_cellsN hca
  obtain ⟨f0, f2⟩ := note_cellsN hcb
  first | (refine det_fn Try.func19 rfl Try.ntmps19 Try.results19 rfl rfl rfl (by simp) ?_) | (refine det_fnC Try.func19 rfl Try.ntmps19 Try.results19 rfl rfl (by simp) ?_)
  simp
  refine awDraw_M 13 [[],[0],[1,0],[2,1,0],[],[4],[5,4],[6,5,4],[3,2,1,0,7,6,5,4],[8,3,2,1,0,7,6,5,4],[9,8,3,2,1,0,7,6,5,4],[9,8,3,2,1,0,7,6,5,4],[],[12,10,9,8,3,2,1,0,7,6,5,4],[11,9,8,3,2,1,0,7,6,5,4,13,12,10]] [11] (by kernel_rfl) (by decide +kernel) (by decide +kernel) ?_
  simp (disch := omega) [g0, g2]
  refine awCall_det' (AddFrac_s a.at_ a.len) (by simp) ?_
  have hfin : (addF a.at_ a.len).1 = a.fin := rfl
  rw [hfin]
  simp (disch := omega)
  refine awDraw_E 26 [[],[0],[1,0],[2,1,0],[],[4],[5,4],[6,5,4],[3,2,1,0,7,6,5,4],[8,3,2,1,0,7,6,5,4],[9,8,3,2,1,0,7,6,5,4],[10,9,8,3,2,1,0,7,6,5,4],[11,10,9,8,3,2,1,0,7,6,5,4],[12,11,10,9,8,3,2,1,0,7,6,5,4],[9,8,3,2,1,0,7,6,5,4],[14,9,8,3,2,1,0,7,6,5,4],[15,14,9,8,3,2,1,0,7,6,5,4],[16,15,14,9,8,3,2,1,0,7,6,5,4],[13,12,11,10,9,8,3,2,1,0,7,6,5,4,17,16,15,14],[9,8,3,2,1,0,7,6,5,4,18,13,12,11,10,17,16,15,14],[19,9,8,3,2,1,0,7,6,5,4,18,13,12,11,10,17,16,15,14],[20,19,9,8,3,2,1,0,7,6,5,4,18,13,12,11,10,17,16,15,14],[21,20,19,9,8,3,2,1,0,7,6,5,4,18,13,12,11,10,17,16,15,14],[22,21,20,19,9,8,3,2,1,0,7,6,5,4,18,13,12,11,10,17,16,15,14],[23,22,21,20,19,9,8,3,2,1,0,7,6,5,4,18,13,12,11,10,17,16,15,14],[20,19,9,8,3,2,1,0,7,6,5,4,18,13,12,11,10,17,16,15,14],[24,23,22,21,20,19,9,8,3,2,1,0,7,6,5,4,18,13,12,11,10,17,16,15,14,25],[26,24,23,22,21,20,19,9,8,3,2,1,0,7,6,5,4,18,13,12,11,10,17,16,15,14,25],[20,19,9,8,3,2,1,0,7,6,5,4,18,13,12,11,10,17,16,15,14,27,26,24,23,22,21,25],[28,20,19,9,8,3,2,1,0,7,6,5,4,18,13,12,11,10,17,16,15,14,27,26,24,23,22,21,25]] (by kernel_rfl) (by kernel_rfl) ?_
  simp (disch := omega) [cellAt_app a6, cellAt_app b6, cellAt_app a4, cellAt_app b4, cellsAt_app f0]
  by_cases h1 : a.o = b.o
  · by_cases h2 : a.k = b.k
    · simp (disch := omega) [h1, h2, cellAt_app a6, cellAt_app b6, cellAt_app a4, cellAt_app b4, cellsAt_app f0]
      refine awCall_det' (CompareFrac_s b.at_ a.fin) (by simp) ?_
      simp [clashB, h1, h2, keeps_app]
    · simp (disch := omega) [h1, h2, clashB, keeps_app, cellAt_app a6, cellAt_app b6, cellAt_app a4, cellAt_app b4]
  · simp [h1, clashB, keeps_app]
end Go.Proofs.Ytjgfpkamoalgiaa

namespace Go.Proofs.Ytjgfpkamoalgiaa
open Go.RowKit
set_option linter.unusedVariables false
set_option linter.unusedSimpArgs false
def tkV (D : Int) (f : Frac) : Int := f.n * D / f.d
def tkB (D : Int) (f : Frac) : Bool := decide (f.n * D % f.d = 0)
def okT (D : Int) (n : Note) : Bool := tkB D n.at_ && tkB D n.fin
def onE (D : Int) (n : Note) : StreamEvent := ⟨tkV D n.at_, 1, n.o, n.k, n.u⟩
def ofE (D : Int) (n : Note) : StreamEvent := ⟨tkV D n.fin, 2, n.o, n.k, 0⟩
def evsL (D : Int) (l : List Note) : List StreamEvent := l.flatMap fun n => [onE D n, ofE D n]
def hitB (l : List Note) : Bool := (List.range l.length).any fun j => (List.range j).any fun i => clashB (el l i) (el l j)
def stV (l : List Note) (D : Int) : List StreamEvent × Int :=
  if scoreB l = false then ([], 1) else if inB D 1 960 = false then ([], 2) else if l.all (okT D) = false then ([], 6) else if hitB l = true then ([], 4) else (dltE 0 (sortE (evsL D l)), 0)
theorem hitB_no {l : List Note} : hitB l = false ↔ ∀ i j, i < j → j < l.length → clashB (el l i) (el l j) = false := by
  unfold hitB
  rw [List.any_eq_false]
  constructor
  · intro h i j hij hj
    have := h j (List.mem_range.2 hj)
    rw [Bool.not_eq_true, List.any_eq_false] at this
    have := this i (List.mem_range.2 hij)
    simpa using this
  · intro h j hj
    rw [Bool.not_eq_true, List.any_eq_false]
    intro i hi
    rw [h i j (List.mem_range.1 hi) (List.mem_range.1 hj)]
    simp
theorem hitB_yes {l : List Note} {i j : Nat} (hij : i < j) (hj : j < l.length) (h : clashB (el l i) (el l j) = true) : hitB l = true := by
  unfold hitB
  exact List.any_eq_true.2 ⟨j, List.mem_range.2 hj, List.any_eq_true.2 ⟨i, List.mem_range.2 hij, h⟩⟩
theorem tk_mul {D : Int} {f : Frac} (h : tkB D f = true) : f.n * D = tkV D f * f.d := by
  unfold tkB at h
  have h := of_decide_eq_true h
  unfold tkV
  exact (Int.ediv_mul_cancel (Int.dvd_of_emod_eq_zero h)).symm
theorem tk_lt {D : Int} {a b : Frac} (ha : tkB D a = true) (hb : tkB D b = true) (hD : 0 < D) (h1 : 0 < a.d) (h2 : 0 < b.d) : a.n * b.d < b.n * a.d ↔ tkV D a < tkV D b := by
  have e1 := tk_mul ha
  have e2 := tk_mul hb
  have hP : 0 < a.d * b.d := Int.mul_pos h1 h2
  have f1 : a.n * b.d * D = tkV D a * (a.d * b.d) := by rw [Int.mul_right_comm, e1, Int.mul_assoc]
  have f2 : b.n * a.d * D = tkV D b * (a.d * b.d) := by rw [Int.mul_right_comm, e2, Int.mul_assoc, Int.mul_comm b.d a.d]
  constructor
  · intro h
    have := Int.mul_lt_mul_of_pos_right h hD
    rw [f1, f2] at this
    exact Int.lt_of_mul_lt_mul_right this (Int.le_of_lt hP)
  · intro h
    have := Int.mul_lt_mul_of_pos_right h hP
    rw [← f1, ← f2] at this
    exact Int.lt_of_mul_lt_mul_right this (Int.le_of_lt hD)
theorem cmpF_tk {D : Int} {a b : Frac} (ha : tkB D a = true) (hb : tkB D b = true) (hD : 0 < D) (h1 : 0 < a.d) (h2 : 0 < b.d) : (cmpF a b < 0 ↔ tkV D a < tkV D b) ∧ (cmpF a b = 0 ↔ tkV D a = tkV D b) := by
  have x := tk_lt ha hb hD h1 h2
  have y := tk_lt hb ha hD h2 h1
  unfold cmpF
  constructor <;> (repeat' split) <;> omega
theorem note_dens {n : Note} (h : noteB n = true) : 0 < n.at_.d ∧ 0 < n.fin.d := by
  obtain ⟨h1, h2⟩ := note_end h
  have a := (fracB_iff.1 h1).1.1
  have b := (fracB_iff.1 h2).1.1
  omega
theorem note_pos {n : Note} (h : noteB n = true) : n.at_.n * n.fin.d < n.fin.n * n.at_.d := by
  obtain ⟨h1, h2, h3, h4, -⟩ := noteB_iff.1 h
  have f1 := (beatB_iff.1 h1).1
  have f2 := beatB_iff.1 h2
  obtain ⟨d1, d2⟩ := note_dens h
  have hq := addF_q f1 f2.1 h4
  have hd := (fracB_iff.1 f2.1).1.1
  have hl : ¬ n.len.q ≤ 0 := by
    intro hh
    unfold Frac.q at hh
    rw [show (0 : Rat) = Rat.divInt 0 1 from rfl, divInt_le (by omega) (by omega)] at hh
    have : n.len.n = n.ln := rfl
    omega
  have hn : ¬ n.fin.q ≤ n.at_.q := by
    intro hh
    unfold Note.fin at hh
    rw [hq] at hh
    grind
  unfold Frac.q at hn
  rw [divInt_le d2 d1] at hn
  omega
/-- What is known of the notes' ticks. -/
structure TkS (D : Int) (l : List Note) : Prop where
  up : ∀ i, i < l.length → tkV D (el l i).at_ < tkV D (el l i).fin
  lex : ∀ i j, i < j → j < l.length → tkV D (el l i).at_ < tkV D (el l j).at_ ∨ (tkV D (el l i).at_ = tkV D (el l j).at_ ∧ ((el l i).o < (el l j).o ∨ ((el l i).o = (el l j).o ∧ (el l i).k < (el l j).k)))
  free : ∀ i j, i < j → j < l.length → (el l i).o = (el l j).o → (el l i).k = (el l j).k → tkV D (el l i).fin ≤ tkV D (el l j).at_
theorem tkS_of {D : Int} {l : List Note} (hs : scoreB l = true) (hD : 0 < D) (ht : l.all (okT D) = true) (hc : hitB l = false) : TkS D l := by
  unfold scoreB at hs
  simp only [Bool.and_eq_true, decide_eq_true_eq] at hs
  obtain ⟨⟨_, hv⟩, ho⟩ := hs
  have nv : ∀ i, i < l.length → noteB (el l i) = true := fun i hi => all_el hv hi
  have tk : ∀ i, i < l.length → tkB D (el l i).at_ = true ∧ tkB D (el l i).fin = true := fun i hi => by
    have := List.all_eq_true.1 ht _ (el_mem hi)
    unfold okT at this
    simpa using this
  refine ⟨fun i hi => ?_, fun i j hij => ?_, fun i j hij hj eo ek => ?_⟩
  · obtain ⟨d1, d2⟩ := note_dens (nv i hi)
    exact (tk_lt (tk i hi).1 (tk i hi).2 hD d1 d2).1 (note_pos (nv i hi))
  · have step : ∀ i, i + 1 < l.length → tkV D (el l i).at_ < tkV D (el l (i + 1)).at_ ∨ (tkV D (el l i).at_ = tkV D (el l (i + 1)).at_ ∧ ((el l i).o < (el l (i + 1)).o ∨ ((el l i).o = (el l (i + 1)).o ∧ (el l i).k < (el l (i + 1)).k))) := fun i hi => by
      have := ho (i + 1) hi (by omega)
      rw [Nat.add_sub_cancel] at this
      obtain ⟨c1, c2⟩ := cmpF_tk (tk i (by omega)).1 (tk (i + 1) hi).1 hD (note_dens (nv i (by omega))).1 (note_dens (nv (i + 1) hi)).1
      unfold ordN at this
      split at this
      · exact .inl (c1.1 this)
      · rename_i hz
        refine .inr ⟨c2.1 (by omega), ?_⟩
        split at this <;> omega
    induction j with
    | zero => omega
    | succ j ih =>
      intro hj
      have s := step j hj
      by_cases e : i = j
      · subst e; exact s
      · have := ih (by omega) (by omega)
        omega
  · have := hitB_no.1 hc i j hij hj
    unfold clashB at this
    simp only [eo, ek, decide_true, Bool.true_and, decide_eq_false_iff_not] at this
    have hi : i < l.length := by omega
    obtain ⟨a1, a2⟩ := note_end (nv i hi)
    obtain ⟨b1, b2⟩ := note_end (nv j hj)
    unfold cmpX at this
    rw [if_pos ⟨b1, a2⟩] at this
    have c := (cmpF_tk (tk j hj).1 (tk i hi).2 hD (note_dens (nv j hj)).1 (note_dens (nv i hi)).2).1
    omega
theorem evs_one {D : Int} {l : List Note} (h : TkS D l) : ∀ x y, x ∈ evsL D l → y ∈ evsL D l → cmpE x y = 0 → x = y := by
  have mem : ∀ x, x ∈ evsL D l → ∃ i, i < l.length ∧ (x = onE D (el l i) ∨ x = ofE D (el l i)) := fun x hx => by
    unfold evsL at hx
    obtain ⟨n, hn, hx⟩ := List.mem_flatMap.1 hx
    obtain ⟨i, hi, rfl⟩ := List.getElem_of_mem hn
    rw [el_eq hi] at hx
    exact ⟨i, hi, by simpa using hx⟩
  intro x y hx hy hz
  obtain ⟨i, hi, ex⟩ := mem x hx
  obtain ⟨j, hj, ey⟩ := mem y hy
  rw [cmpE_zero] at hz
  by_cases e : i = j
  · subst e
    rcases ex with rfl | rfl <;> rcases ey with rfl | rfl
    · rfl
    · have := hz.2.1; simp [onE, ofE] at this
    · have := hz.2.1; simp [onE, ofE] at this
    · rfl
  · exfalso
    have u1 := h.up i hi
    have u2 := h.up j hj
    rcases Nat.lt_or_ge i j with hij | hij
    · have l1 := h.lex i j hij hj
      have l2 := h.free i j hij hj
      rcases ex with rfl | rfl <;> rcases ey with rfl | rfl <;> simp only [onE, ofE] at hz <;> obtain ⟨z1, z2, z3, z4⟩ := hz <;> first | omega | (have := l2 z3 z4; omega)
    · have l1 := h.lex j i (by omega) hi
      have l2 := h.free j i (by omega) hi
      rcases ex with rfl | rfl <;> rcases ey with rfl | rfl <;> simp only [onE, ofE] at hz <;> obtain ⟨z1, z2, z3, z4⟩ := hz <;> first | omega | (have := l2 z3.symm z4.symm; omega)
theorem evsL_len (D : Int) (l : List Note) : (evsL D l).length = 2 * l.length := by
  unfold evsL
  induction l with
  | nil => rfl
  | cons n l ih => simp only [List.flatMap_cons, List.length_append, ih, List.length_cons, List.length_nil]; omega
end Go.Proofs.Ytjgfpkamoalgiaa
