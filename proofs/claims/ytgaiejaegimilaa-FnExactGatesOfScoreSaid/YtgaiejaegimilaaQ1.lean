/- Fractions: in plain words, and both packages' functions on them. No conditions. -/
import Derived.Test.YtgaiejaegimilaaL1
import Derived.Test.YtgaiejaegimilaaHFrac
namespace Go.Proofs.Ytgaiejaegimilaa
open Go.RowKit
set_option linter.unusedVariables false
set_option linter.unusedSimpArgs false
set_option maxRecDepth 100000
attribute [local simp] List.getElem?_cons_zero
attribute [local irreducible] awCond awCall awLoop awDraw ow retQ retC resQ Keeps
abbrev uv (n : Int) : Value := .int .u64 n
theorem u64_in {x : Int} (h1 : 0 ≤ x) (h2 : x < 18446744073709551616) : IntKind.u64.wrap x = x := by
  have e : (2 : Int) ^ IntKind.u64.bits = 18446744073709551616 := by decide
  have e2 : IntKind.u64.signed = false := rfl
  simp only [IntKind.wrap, e, e2]
  simp
  omega
theorem u64_neg {x : Int} (h1 : -9223372036854775808 ≤ x) (h2 : x < 0) : IntKind.u64.wrap x = x + 18446744073709551616 := by
  have e : (2 : Int) ^ IntKind.u64.bits = 18446744073709551616 := by decide
  have e2 : IntKind.u64.signed = false := rfl
  simp only [IntKind.wrap, e, e2]
  simp
  omega
theorem u64_mag {x : Int} (h1 : -9223372036854775808 ≤ x) (h2 : x < 0) : IntKind.u64.wrap (0 - IntKind.u64.wrap x) = -x := by
  have e : (2 : Int) ^ IntKind.u64.bits = 18446744073709551616 := by decide
  have e2 : IntKind.u64.signed = false := rfl
  rw [u64_neg h1 h2]
  simp only [IntKind.wrap, e, e2]
  simp
  omega
/-- The greatest common divisor, as a number of 64 bits. -/
theorem tmod_nat (x y : Nat) : ((x : Int)).tmod y = ((x % y : Nat) : Int) := by
  rw [Int.tmod_eq_emod_of_nonneg (by omega)]
  rfl
theorem tdiv_nat (x y : Nat) : ((x : Int)).tdiv y = ((x / y : Nat) : Int) := by
  rw [Int.tdiv_eq_ediv_of_nonneg (by omega)]
  rfl
def fracB (f : Frac) : Bool := inB f.d 1 1000000 && inB f.n (-1000000000) 1000000000 && decide (f.n.natAbs.gcd f.d.natAbs = 1)
theorem fracB_iff {f : Frac} : fracB f = true ↔ (1 ≤ f.d ∧ f.d ≤ 1000000) ∧ (-1000000000 ≤ f.n ∧ f.n ≤ 1000000000) ∧ f.n.natAbs.gcd f.d.natAbs = 1 := by
  simp only [fracB, Bool.and_eq_true, decide_eq_true_eq, inB_iff, and_assoc]
def mkF (n d : Int) : Frac × Int :=
  if d = 0 then (⟨0, 0⟩, 1) else
  if 1000000000 < n.natAbs / n.natAbs.gcd d.natAbs ∨ 1000000 < d.natAbs / n.natAbs.gcd d.natAbs then (⟨0, 0⟩, 2) else
  (⟨if (decide (n < 0) != decide (d < 0)) = true then -((n.natAbs / n.natAbs.gcd d.natAbs : Nat) : Int) else ((n.natAbs / n.natAbs.gcd d.natAbs : Nat) : Int), ((d.natAbs / n.natAbs.gcd d.natAbs : Nat) : Int)⟩, 0)
def cmpF (a b : Frac) : Int := if a.n * b.d - b.n * a.d < 0 then -1 else if a.n * b.d - b.n * a.d > 0 then 1 else 0
def addF (a b : Frac) : Frac × Int := if fracB a = true ∧ fracB b = true then mkF (a.n * b.d + b.n * a.d) (a.d * b.d) else (⟨0, 0⟩, 1)
def subF (a b : Frac) : Frac × Int := if fracB a = true ∧ fracB b = true then mkF (a.n * b.d - b.n * a.d) (a.d * b.d) else (⟨0, 0⟩, 1)
def mulF (a b : Frac) : Frac × Int := if fracB a = true ∧ fracB b = true then mkF (a.n * b.n) (a.d * b.d) else (⟨0, 0⟩, 1)
theorem mul_bd2 {a b A B : Int} (h1 : -A ≤ a) (h2 : a ≤ A) (h3 : -B ≤ b) (h4 : b ≤ B) : -(A * B) ≤ a * b ∧ a * b ≤ A * B := by
  have h : (a * b).natAbs ≤ A.natAbs * B.natAbs := by
    rw [Int.natAbs_mul]
    exact Nat.mul_le_mul (by omega) (by omega)
  have e : ((A.natAbs * B.natAbs : Nat) : Int) = A * B := by
    rw [Int.natCast_mul, Int.natAbs_of_nonneg (by omega), Int.natAbs_of_nonneg (by omega)]
  omega
theorem frac_bd {a b : Frac} (ha : fracB a = true) (hb : fracB b = true) : (-1000000000000000 ≤ a.n * b.d ∧ a.n * b.d ≤ 1000000000000000) ∧ (-1000000000000000 ≤ b.n * a.d ∧ b.n * a.d ≤ 1000000000000000) ∧ (1 ≤ a.d * b.d ∧ a.d * b.d ≤ 1000000000000) ∧ (-1000000000000000000 ≤ a.n * b.n ∧ a.n * b.n ≤ 1000000000000000000) := by
  obtain ⟨a1, a2, -⟩ := fracB_iff.1 ha
  obtain ⟨b1, b2, -⟩ := fracB_iff.1 hb
  have h1 := mul_bd2 (a := a.n) (b := b.d) (A := 1000000000) (B := 1000000) (by omega) (by omega) (by omega) (by omega)
  have h2 := mul_bd2 (a := b.n) (b := a.d) (A := 1000000000) (B := 1000000) (by omega) (by omega) (by omega) (by omega)
  have h3 := mul_bd2 (a := a.d) (b := b.d) (A := 1000000) (B := 1000000) (by omega) (by omega) (by omega) (by omega)
  have h4 := mul_bd2 (a := a.n) (b := b.n) (A := 1000000000) (B := 1000000000) (by omega) (by omega) (by omega) (by omega)
  have h5 : 0 < a.d * b.d := Int.mul_pos (by omega) (by omega)
  omega
/-- What is made is a fraction. -/
theorem mkF_ok {n d : Int} (h : (mkF n d).2 = 0) : fracB (mkF n d).1 = true := by
  unfold mkF at h ⊢
  split at h
  · cases h
  · rename_i hd
    rw [if_neg hd]
    split at h
    · cases h
    · rename_i hr
      rw [if_neg hr]
      have hg : 0 < n.natAbs.gcd d.natAbs := Nat.gcd_pos_of_pos_right _ (by omega)
      have hq : 0 < d.natAbs / n.natAbs.gcd d.natAbs := Nat.div_pos (Nat.le_of_dvd (by omega) (Nat.gcd_dvd_right _ _)) hg
      have hc := Nat.gcd_div_gcd_div_gcd_of_pos_right (n := n.natAbs) (m := d.natAbs) (by omega)
      generalize n.natAbs / n.natAbs.gcd d.natAbs = a at *
      generalize d.natAbs / n.natAbs.gcd d.natAbs = b at *
      refine fracB_iff.2 ⟨by simp only; omega, ?_, ?_⟩
      · simp only
        split <;> omega
      · simp only
        split
        · rw [Int.natAbs_neg, Int.natAbs_natCast, Int.natAbs_natCast]; exact hc
        · rw [Int.natAbs_natCast, Int.natAbs_natCast]; exact hc
theorem mkF_self {f : Frac} (h : fracB f = true) : mkF f.n f.d = (f, 0) := by
  obtain ⟨h1, h2, h3⟩ := fracB_iff.1 h
  unfold mkF
  rw [if_neg (by omega), h3, Nat.div_one, Nat.div_one, if_neg (by omega)]
  obtain ⟨n, d⟩ := f
  simp only at *
  have hd : ¬ d < 0 := by omega
  by_cases hn : n < 0
  · simp [hn, hd]
    omega
  · simp [hn, hd]
    omega
end Go.Proofs.Ytgaiejaegimilaa
