/- Parts of the proof, together: Pitches and intervals: keys, which are valid, in both packages. Fractions: in plain words, and both packages' functions on them. Fractions: both packages' functions. Fractions: valid ones, sums and products, in both packages. Floors of quotients, in both packages. Fractions: sums, differences, products, order and beats, in both packages. Which items are valid: chords, in both packages. Note: recor No conditions. -/
import Derived.Test.YtodbjnngkonklaaGreatZzI8
import Derived.Test.YtodbjnngkonklaaGreatZzI7
import Derived.Laws.StructEq
namespace Go.Proofs.YtodbjnngkonklaaGreat
open Go.RowKit
set_option linter.unusedVariables false
set_option linter.unusedSimpArgs false
set_option maxRecDepth 100000
attribute [local simp] List.getElem?_cons_zero
attribute [local irreducible] awCond awCall awLoop awDraw ow retQ retC resQ Keeps
def natL : List Int := [0, 2, 4, 5, 7, 9, 11]
def natV (s : Int) : Int := 12 * (s / 7) + el natL (s % 7).toNat
set_option maxHeartbeats 4000000 in
theorem fill7 : Instr.fill (fun i => some (i, 1)) (zrow [iv 0] 7).toArray [(0, iv 0), (1, iv 2), (2, iv 4), (3, iv 5), (4, iv 7), (5, iv 9), (6, iv 11)] = some #[iv 0, iv 2, iv 4, iv 5, iv 7, iv 9, iv 11] := by kernel_rfl
theorem nat_bd (s : Int) (h0 : 0 ≤ s) (h1 : s ≤ 1000) : 0 ≤ natV s ∧ natV s ≤ 2000 := by
  have hm : s % 7 = 0 ∨ s % 7 = 1 ∨ s % 7 = 2 ∨ s % 7 = 3 ∨ s % 7 = 4 ∨ s % 7 = 5 ∨ s % 7 = 6 := by omega
  unfold natV
  rcases hm with h | h | h | h | h | h | h <;> rw [h] <;> simp [natL, el] <;> omega
set_option maxHeartbeats 1000000 in
theorem natural_i {M : Mem} (s : Int) (h0 : 0 ≤ s) (h1 : s ≤ 1000) : Det Tryz.prog M.length 54 [iv s] M (iv (natV s)) M := by
  have e1 : s.tdiv 7 = s / 7 := Int.tdiv_eq_ediv_of_nonneg h0
  have e2 : s.tmod 7 = s % 7 := Int.tmod_eq_emod_of_nonneg h0
  have hm : s % 7 = 0 ∨ s % 7 = 1 ∨ s % 7 = 2 ∨ s % 7 = 3 ∨ s % 7 = 4 ∨ s % 7 = 5 ∨ s % 7 = 6 := by omega
  first | (refine det_fn Tryz.func54 rfl Tryz.ntmps54 Tryz.results54 rfl rfl rfl (by simp) ?_) | (refine det_fnC Tryz.func54 rfl Tryz.ntmps54 Tryz.results54 rfl rfl (by simp) ?_)
  simp (disch := omega) [e1, e2, wrap_in, fill7]
  unfold natV
  rcases hm with h | h | h | h | h | h | h <;> rw [h] <;> simp (disch := omega) [cellAt, natL, el, wrap_in, keeps_app]
set_option maxHeartbeats 1000000 in
theorem natural_s {M : Mem} (s : Int) (h0 : 0 ≤ s) (h1 : s ≤ 1000) : Det Tryz.prog M.length 77 [iv s] M (iv (natV s)) M := by
  have e1 : s.tdiv 7 = s / 7 := Int.tdiv_eq_ediv_of_nonneg h0
  have e2 : s.tmod 7 = s % 7 := Int.tmod_eq_emod_of_nonneg h0
  have hm : s % 7 = 0 ∨ s % 7 = 1 ∨ s % 7 = 2 ∨ s % 7 = 3 ∨ s % 7 = 4 ∨ s % 7 = 5 ∨ s % 7 = 6 := by omega
  first | (refine det_fn Tryz.func77 rfl Tryz.ntmps77 Tryz.results77 rfl rfl rfl (by simp) ?_) | (refine det_fnC Tryz.func77 rfl Tryz.ntmps77 Tryz.results77 rfl rfl (by simp) ?_)
  simp (disch := omega) [e1, e2, wrap_in, fill7]
  unfold natV
  rcases hm with h | h | h | h | h | h | h <;> rw [h] <;> simp (disch := omega) [cellAt, natL, el, wrap_in, keeps_app]
def keyV (p : Pitch) : Int := 12 * (p.o + 1) + natV p.s + p.a
def pitchB (p : Pitch) : Bool := inB p.s 0 6 && inB p.a (-2) 2 && inB p.o (-1) 9 && inB (keyV p) 0 127
theorem keyOf_i {M : Mem} (p : Pitch) (h1 : 0 ≤ p.s ∧ p.s ≤ 6) (h2 : -2 ≤ p.a ∧ p.a ≤ 2) (h3 : -1 ≤ p.o ∧ p.o ≤ 9) : Det Tryz.prog M.length 62 [p.v] M (iv (keyV p)) M := by
  have hb := nat_bd p.s (by omega) (by omega)
  first | (refine det_fn Tryz.func62 rfl Tryz.ntmps62 Tryz.results62 rfl rfl rfl (by simp) ?_) | (refine det_fnC Tryz.func62 rfl Tryz.ntmps62 Tryz.results62 rfl rfl (by simp) ?_)
  simp (disch := omega) [wrap_in]
  refine awDraw_E 10 [[],[0],[1,0],[2,1,0],[],[4],[5,4],[3,2,1,0,6,5,4],[],[8],[7,3,2,1,0,6,5,4,9,8],[10,7,3,2,1,0,6,5,4,9,8]] (by kernel_rfl) (by kernel_rfl) ?_
  simp (disch := omega) [wrap_in]
  refine awCall_det' (natural_i p.s (by omega) (by omega)) (by first | omega | simp) ?_
  simp (disch := omega) [wrap_in, keyV, keeps_app]
theorem l16Key_s {M : Mem} (p : Pitch) (h1 : 0 ≤ p.s ∧ p.s ≤ 6) (h2 : -2 ≤ p.a ∧ p.a ≤ 2) (h3 : -1 ≤ p.o ∧ p.o ≤ 9) : Det Tryz.prog M.length 44 [p.v] M (iv (keyV p)) M := by
  have hb := nat_bd p.s (by omega) (by omega)
  first | (refine det_fn Tryz.func44 rfl Tryz.ntmps44 Tryz.results44 rfl rfl rfl (by simp) ?_) | (refine det_fnC Tryz.func44 rfl Tryz.ntmps44 Tryz.results44 rfl rfl (by simp) ?_)
  simp (disch := omega) [wrap_in]
  refine awDraw_E 10 [[],[0],[1,0],[2,1,0],[],[4],[5,4],[3,2,1,0,6,5,4],[],[8],[7,3,2,1,0,6,5,4,9,8],[10,7,3,2,1,0,6,5,4,9,8]] (by kernel_rfl) (by kernel_rfl) ?_
  simp (disch := omega) [wrap_in]
  refine awCall_det' (natural_s p.s (by omega) (by omega)) (by first | omega | simp) ?_
  simp (disch := omega) [wrap_in, keyV, keeps_app]
theorem isPitch_i {M : Mem} (p : Pitch) : Det Tryz.prog M.length 57 [p.v] M (.bool (pitchB p)) M := by
  first | (refine det_fn Tryz.func57 rfl Tryz.ntmps57 Tryz.results57 rfl rfl rfl (by simp) ?_) | (refine det_fnC Tryz.func57 rfl Tryz.ntmps57 Tryz.results57 rfl rfl (by simp) ?_)
  simp
  refine awCall_det' (within_a _ _ _) (by first | omega | simp) ?_
  by_cases h1 : inB p.s 0 6 = true
  case neg => simp [h1, pitchB, keeps_app]
  simp [h1]
  refine awCall_det' (within_a _ _ _) (by first | omega | simp) ?_
  by_cases h2 : inB p.a (-2) 2 = true
  case neg => simp [h1, h2, pitchB, keeps_app]
  simp [h1, h2]
  refine awCall_det' (within_a _ _ _) (by first | omega | simp) ?_
  by_cases h3 : inB p.o (-1) 9 = true
  case neg => simp [h1, h2, h3, pitchB, keeps_app]
  simp [h1, h2, h3]
  refine awCall_det' (keyOf_i p (inB_iff.1 h1) (inB_iff.1 h2) (inB_iff.1 h3)) (by first | omega | simp) ?_
  try simp
  refine awCall_det' (isKey_a _) (by first | omega | simp) ?_
  simp [h1, h2, h3, pitchB, keeps_app]
theorem l16Ok_s {M : Mem} (p : Pitch) : Det Tryz.prog M.length 106 [p.v] M (.bool (pitchB p)) M := by
  first | (refine det_fn Tryz.func106 rfl Tryz.ntmps106 Tryz.results106 rfl rfl rfl (by simp) ?_) | (refine det_fnC Tryz.func106 rfl Tryz.ntmps106 Tryz.results106 rfl rfl (by simp) ?_)
  simp
  refine awCall_det' (l00In_a _ _ _) (by first | omega | simp) ?_
  by_cases h1 : inB p.s 0 6 = true
  case neg => simp [h1, pitchB, keeps_app]
  simp [h1]
  refine awCall_det' (l00In_a _ _ _) (by first | omega | simp) ?_
  by_cases h2 : inB p.a (-2) 2 = true
  case neg => simp [h1, h2, pitchB, keeps_app]
  simp [h1, h2]
  refine awCall_det' (l00In_a _ _ _) (by first | omega | simp) ?_
  by_cases h3 : inB p.o (-1) 9 = true
  case neg => simp [h1, h2, h3, pitchB, keeps_app]
  simp [h1, h2, h3]
  refine awCall_det' (l16Key_s p (inB_iff.1 h1) (inB_iff.1 h2) (inB_iff.1 h3)) (by first | omega | simp) ?_
  try simp
  refine awCall_det' (l00In_a _ _ _) (by first | omega | simp) ?_
  simp [h1, h2, h3, pitchB, keeps_app]
/-- An interval with steps that are not negative, and how far it is from the natural one. -/
def upI (i : Interval) : Interval := if i.t < 0 then ⟨-i.t, -i.h⟩ else i
def overV (i : Interval) : Int := (upI i).h - natV (upI i).t
def intervalB (i : Interval) : Bool := inB i.t (-28) 28 && inB i.h (-100) 100 && inB (overV i) (-3) 3
theorem pair_build (a b : Int) : Instr.fill (fun x => [(0, 1), (1, 1)][x]?) #[iv 0, iv 0] [(0, iv a), (1, iv b)] = some #[iv a, iv b] := by rfl
theorem over_neg {i : Interval} (h : i.t < 0) : overV i = -i.h - natV (-i.t) := by unfold overV upI; rw [if_pos h]
theorem over_pos {i : Interval} (h : ¬ i.t < 0) : overV i = i.h - natV i.t := by unfold overV upI; rw [if_neg h]
theorem opposite_i {M : Mem} (i : Interval) (h1 : -28 ≤ i.t ∧ i.t ≤ 28) (h2 : -100 ≤ i.h ∧ i.h ≤ 100) : Det Tryz.prog M.length 111 [i.v] M (Interval.v ⟨-i.t, -i.h⟩) M := by
  first | (refine det_fn Tryz.func111 rfl Tryz.ntmps111 Tryz.results111 rfl rfl rfl (by simp) ?_) | (refine det_fnC Tryz.func111 rfl Tryz.ntmps111 Tryz.results111 rfl rfl (by simp) ?_)
  simp (disch := omega) [wrap_in, keeps_app, pair_build]
theorem isInterval_i {M : Mem} (i : Interval) : Det Tryz.prog M.length 92 [i.v] M (.bool (intervalB i)) M := by
  first | (refine det_fn Tryz.func92 rfl Tryz.ntmps92 Tryz.results92 rfl rfl rfl (by simp) ?_) | (refine det_fnC Tryz.func92 rfl Tryz.ntmps92 Tryz.results92 rfl rfl (by simp) ?_)
  simp
  refine awCall_det' (within_a _ _ _) (by simp) ?_
  by_cases h1 : inB i.t (-28) 28 = true
  case neg => simp [h1, intervalB, keeps_app]
  simp [h1]
  refine awCall_det' (within_a _ _ _) (by simp) ?_
  by_cases h2 : inB i.h (-100) 100 = true
  case neg => simp [h1, h2, intervalB, keeps_app]
  simp [h1, h2]
  have b1 := inB_iff.1 h1
  have b2 := inB_iff.1 h2
  by_cases hneg : i.t < 0
  · have hb := nat_bd (-i.t) (by omega) (by omega)
    simp [hneg]
    refine awCall_det' (opposite_i i b1 b2) (by simp) ?_
    simp
    refine awDraw_E 5 [[],[0],[],[2],[3,2],[1,0,4,3,2],[5,1,0,4,3,2],[6,5,1,0,4,3,2]] (by kernel_rfl) (by kernel_rfl) ?_
    simp (disch := omega) [wrap_in]
    refine awCall_det' (natural_i (-i.t) (by omega) (by omega)) (by simp) ?_
    simp (disch := omega) [wrap_in]
    refine awCall_det' (within_a _ _ _) (by simp) ?_
    simp [intervalB, h1, h2, over_neg hneg, keeps_app]
  · have hb := nat_bd i.t (by omega) (by omega)
    simp [hneg]
    refine awDraw_E 5 [[],[0],[],[2],[3,2],[1,0,4,3,2],[5,1,0,4,3,2],[6,5,1,0,4,3,2]] (by kernel_rfl) (by kernel_rfl) ?_
    simp (disch := omega) [wrap_in]
    refine awCall_det' (natural_i i.t (by omega) (by omega)) (by simp) ?_
    simp (disch := omega) [wrap_in]
    refine awCall_det' (within_a _ _ _) (by simp) ?_
    simp [intervalB, h1, h2, over_pos hneg, keeps_app]
theorem l16Over_s {M : Mem} (i : Interval) (h1 : -28 ≤ i.t ∧ i.t ≤ 28) (h2 : -100 ≤ i.h ∧ i.h ≤ 100) : Det Tryz.prog M.length 119 [i.v] M (.tuple #[iv (overV i), iv (upI i).t]) M := by
  first | (refine det_fn Tryz.func119 rfl Tryz.ntmps119 Tryz.results119 rfl rfl rfl (by simp) ?_) | (refine det_fnC Tryz.func119 rfl Tryz.ntmps119 Tryz.results119 rfl rfl (by simp) ?_)
  simp
  by_cases hneg : i.t < 0
  · have hb := nat_bd (-i.t) (by omega) (by omega)
    simp [hneg]
    refine awDraw_E 12 [[],[0],[1,0],[],[3],[4,3],[5,4,3],[2,1,0,6,5,4,3],[],[8],[9,8],[7,2,1,0,6,5,4,3],[10,9,8,11,7,2,1,0,6,5,4,3]] (by kernel_rfl) (by kernel_rfl) ?_
    simp (disch := omega) [wrap_in]
    refine awCall_det' (natural_s (-i.t) (by omega) (by omega)) (by simp) ?_
    simp (disch := omega) [wrap_in]
    simp [over_neg hneg, upI, hneg, keeps_app]
  · have hb := nat_bd i.t (by omega) (by omega)
    simp [hneg]
    refine awDraw_E 9 [[],[0],[],[2],[3,2],[1,0,4,3,2],[],[6],[5,1,0,4,3,2],[7,6,8,5,1,0,4,3,2]] (by kernel_rfl) (by kernel_rfl) ?_
    simp (disch := omega) [wrap_in]
    refine awCall_det' (natural_s i.t (by omega) (by omega)) (by simp) ?_
    simp (disch := omega) [wrap_in]
    simp [over_pos hneg, upI, hneg, keeps_app]
theorem l16Interval_s {M : Mem} (i : Interval) : Det Tryz.prog M.length 114 [i.v] M (.bool (intervalB i)) M := by
  first | (refine det_fn Tryz.func114 rfl Tryz.ntmps114 Tryz.results114 rfl rfl rfl (by simp) ?_) | (refine det_fnC Tryz.func114 rfl Tryz.ntmps114 Tryz.results114 rfl rfl (by simp) ?_)
  simp
  refine awCall_det' (l00In_a _ _ _) (by simp) ?_
  by_cases h1 : inB i.t (-28) 28 = true
  case neg => simp [h1, intervalB, keeps_app]
  simp [h1]
  refine awCall_det' (l00In_a _ _ _) (by simp) ?_
  by_cases h2 : inB i.h (-100) 100 = true
  case neg => simp [h1, h2, intervalB, keeps_app]
  simp [h1, h2]
  refine awCall_det' (l16Over_s i (inB_iff.1 h1) (inB_iff.1 h2)) (by simp) ?_
  simp
  refine awCall_det' (l00In_a _ _ _) (by simp) ?_
  simp [intervalB, h1, h2, keeps_app]
end Go.Proofs.YtodbjnngkonklaaGreat

namespace Go.Proofs.YtodbjnngkonklaaGreat
open Go.RowKit
set_option linter.unusedVariables false
set_option linter.unusedSimpArgs false
set_option maxRecDepth 100000
attribute [local simp] List.getElem?_cons_zero
attribute [local irreducible] awCond awCall awLoop awDraw ow retQ retC resQ Keeps
abbrev uv (n : Int) : Value := .int .u64 n
theorem u64_in {x : Int} (h1 : 0 ≤ x) (h2 : x < 18446744073709551616) : IntKind.u64.wrap x = x := by
  have e : (2 : Int) ^ IntKind.u64.bits = 18446744073709551616 := by decide
  have e2 : IntKind.u64.signed = false := rfl
  simp only [IntKind.wrap, e, e2]
  simp
  omega
theorem u64_neg {x : Int} (h1 : -9223372036854775808 ≤ x) (h2 : x < 0) : IntKind.u64.wrap x = x + 18446744073709551616 := by
  have e : (2 : Int) ^ IntKind.u64.bits = 18446744073709551616 := by decide
  have e2 : IntKind.u64.signed = false := rfl
  simp only [IntKind.wrap, e, e2]
  simp
  omega
theorem u64_mag {x : Int} (h1 : -9223372036854775808 ≤ x) (h2 : x < 0) : IntKind.u64.wrap (0 - IntKind.u64.wrap x) = -x := by
  have e : (2 : Int) ^ IntKind.u64.bits = 18446744073709551616 := by decide
  have e2 : IntKind.u64.signed = false := rfl
  rw [u64_neg h1 h2]
  simp only [IntKind.wrap, e, e2]
  simp
  omega
/-- The greatest common divisor, as a number of 64 bits. -/
theorem tmod_nat (x y : Nat) : ((x : Int)).tmod y = ((x % y : Nat) : Int) := by
  rw [Int.tmod_eq_emod_of_nonneg (by omega)]
  rfl
theorem tdiv_nat (x y : Nat) : ((x : Int)).tdiv y = ((x / y : Nat) : Int) := by
  rw [Int.tdiv_eq_ediv_of_nonneg (by omega)]
  rfl
def fracB (f : Frac) : Bool := inB f.d 1 1000000 && inB f.n (-1000000000) 1000000000 && decide (f.n.natAbs.gcd f.d.natAbs = 1)
theorem fracB_iff {f : Frac} : fracB f = true ↔ (1 ≤ f.d ∧ f.d ≤ 1000000) ∧ (-1000000000 ≤ f.n ∧ f.n ≤ 1000000000) ∧ f.n.natAbs.gcd f.d.natAbs = 1 := by
  simp only [fracB, Bool.and_eq_true, decide_eq_true_eq, inB_iff, and_assoc]
def mkF (n d : Int) : Frac × Int :=
  if d = 0 then (⟨0, 0⟩, 1) else
  if 1000000000 < n.natAbs / n.natAbs.gcd d.natAbs ∨ 1000000 < d.natAbs / n.natAbs.gcd d.natAbs then (⟨0, 0⟩, 2) else
  (⟨if (decide (n < 0) != decide (d < 0)) = true then -((n.natAbs / n.natAbs.gcd d.natAbs : Nat) : Int) else ((n.natAbs / n.natAbs.gcd d.natAbs : Nat) : Int), ((d.natAbs / n.natAbs.gcd d.natAbs : Nat) : Int)⟩, 0)
def cmpF (a b : Frac) : Int := if a.n * b.d - b.n * a.d < 0 then -1 else if a.n * b.d - b.n * a.d > 0 then 1 else 0
def addF (a b : Frac) : Frac × Int := if fracB a = true ∧ fracB b = true then mkF (a.n * b.d + b.n * a.d) (a.d * b.d) else (⟨0, 0⟩, 1)
def subF (a b : Frac) : Frac × Int := if fracB a = true ∧ fracB b = true then mkF (a.n * b.d - b.n * a.d) (a.d * b.d) else (⟨0, 0⟩, 1)
def mulF (a b : Frac) : Frac × Int := if fracB a = true ∧ fracB b = true then mkF (a.n * b.n) (a.d * b.d) else (⟨0, 0⟩, 1)
theorem mul_bd2 {a b A B : Int} (h1 : -A ≤ a) (h2 : a ≤ A) (h3 : -B ≤ b) (h4 : b ≤ B) : -(A * B) ≤ a * b ∧ a * b ≤ A * B := by
  have h : (a * b).natAbs ≤ A.natAbs * B.natAbs := by
    rw [Int.natAbs_mul]
    exact Nat.mul_le_mul (by omega) (by omega)
  have e : ((A.natAbs * B.natAbs : Nat) : Int) = A * B := by
    rw [Int.natCast_mul, Int.natAbs_of_nonneg (by omega), Int.natAbs_of_nonneg (by omega)]
  omega
theorem frac_bd {a b : Frac} (ha : fracB a = true) (hb : fracB b = true) : (-1000000000000000 ≤ a.n * b.d ∧ a.n * b.d ≤ 1000000000000000) ∧ (-1000000000000000 ≤ b.n * a.d ∧ b.n * a.d ≤ 1000000000000000) ∧ (1 ≤ a.d * b.d ∧ a.d * b.d ≤ 1000000000000) ∧ (-1000000000000000000 ≤ a.n * b.n ∧ a.n * b.n ≤ 1000000000000000000) := by
  obtain ⟨a1, a2, -⟩ := fracB_iff.1 ha
  obtain ⟨b1, b2, -⟩ := fracB_iff.1 hb
  have h1 := mul_bd2 (a := a.n) (b := b.d) (A := 1000000000) (B := 1000000) (by omega) (by omega) (by omega) (by omega)
  have h2 := mul_bd2 (a := b.n) (b := a.d) (A := 1000000000) (B := 1000000) (by omega) (by omega) (by omega) (by omega)
  have h3 := mul_bd2 (a := a.d) (b := b.d) (A := 1000000) (B := 1000000) (by omega) (by omega) (by omega) (by omega)
  have h4 := mul_bd2 (a := a.n) (b := b.n) (A := 1000000000) (B := 1000000000) (by omega) (by omega) (by omega) (by omega)
  have h5 : 0 < a.d * b.d := Int.mul_pos (by omega) (by omega)
  omega
/-- What is made is a fraction. -/
theorem mkF_ok {n d : Int} (h : (mkF n d).2 = 0) : fracB (mkF n d).1 = true := by
  unfold mkF at h ⊢
  split at h
  · cases h
  · rename_i hd
    rw [if_neg hd]
    split at h
    · cases h
    · rename_i hr
      rw [if_neg hr]
      have hg : 0 < n.natAbs.gcd d.natAbs := Nat.gcd_pos_of_pos_right _ (by omega)
      have hq : 0 < d.natAbs / n.natAbs.gcd d.natAbs := Nat.div_pos (Nat.le_of_dvd (by omega) (Nat.gcd_dvd_right _ _)) hg
      have hc := Nat.gcd_div_gcd_div_gcd_of_pos_right (n := n.natAbs) (m := d.natAbs) (by omega)
      generalize n.natAbs / n.natAbs.gcd d.natAbs = a at *
      generalize d.natAbs / n.natAbs.gcd d.natAbs = b at *
      refine fracB_iff.2 ⟨by simp only; omega, ?_, ?_⟩
      · simp only
        split <;> omega
      · simp only
        split
        · rw [Int.natAbs_neg, Int.natAbs_natCast, Int.natAbs_natCast]; exact hc
        · rw [Int.natAbs_natCast, Int.natAbs_natCast]; exact hc
theorem mkF_self {f : Frac} (h : fracB f = true) : mkF f.n f.d = (f, 0) := by
  obtain ⟨h1, h2, h3⟩ := fracB_iff.1 h
  unfold mkF
  rw [if_neg (by omega), h3, Nat.div_one, Nat.div_one, if_neg (by omega)]
  obtain ⟨n, d⟩ := f
  simp only at *
  have hd : ¬ d < 0 := by omega
  by_cases hn : n < 0
  · simp [hn, hd]
    omega
  · simp [hn, hd]
    omega
end Go.Proofs.YtodbjnngkonklaaGreat

namespace Go.Proofs.YtodbjnngkonklaaGreat
open Go.RowKit
set_option linter.unusedVariables false
set_option linter.unusedSimpArgs false
set_option maxRecDepth 100000
attribute [local simp] List.getElem?_cons_zero
attribute [local irreducible] awCond awCall awLoop awDraw ow retQ retC resQ Keeps
structure RG (M : Mem) (a c : Nat) (X : Nat → Bool) (S : St) : Prop where
  n : S.n = 12
  M : S.M = M
  t0 : look S.T 0 = some (uv (if X 4 = true then c else a : Nat))
  t1 : look S.T 1 = some (uv (if X 5 = true then a % c else c : Nat))
  c0 : X 0 = true → look S.T 7 = some (uv c)
  c1 : X 1 = true → look S.T 8 = some (uv a)
  c2 : X 2 = true → look S.T 9 = some (uv c)
  c3 : X 3 = true → look S.T 10 = some (uv (a % c : Nat))
  d4 : X 4 = true → X 1 = true
  d5 : X 5 = true → X 0 = true ∧ X 2 = true
theorem gcd_i {M : Mem} (x y : Nat) (hx : x < 18446744073709551616) (hy : y < 18446744073709551616) : Det Tryz.prog M.length 88 [uv x, uv y] M (uv (x.gcd y : Nat)) M := by
  first | (refine det_fn Tryz.func88 rfl Tryz.ntmps88 Tryz.results88 rfl rfl rfl (by simp) ?_) | (refine det_fnC Tryz.func88 rfl Tryz.ntmps88 Tryz.results88 rfl rfl (by simp) ?_)
  simp
  refine awLoop_T (fun m T M' => ∃ a c : Nat, c = m ∧ a < 18446744073709551616 ∧ c < 18446744073709551616 ∧ a.gcd c = x.gcd y ∧ M' = M ∧ look T 0 = some (uv a) ∧ look T 1 = some (uv c)) y ⟨x, y, rfl, hx, hy, rfl, rfl, by simp, by simp⟩ ?_
  rintro m T M' ⟨a, c, rfl, ha, hc, hg, rfl, h0, h1⟩
  by_cases hc0 : c = 0
  · subst hc0
    rw [Nat.gcd_zero_right] at hg
    simp [h0, h1, hg, Keeps.refl]
  · have hc1 : ¬ (c : Int) = 0 := by omega
    simp [h0, h1, hc0, hc1]
    have hbd : ∀ n : Nat, Region.binds Region.Mode.any ⟨n, Ground.data⟩ = true := fun _ => by rfl
    refine awDraw_I (RG M' a c) (by kernel_rfl) (by kernel_rfl) ⟨rfl, rfl, by simp [h0], by simp [h1], fun h => by simp at h, fun h => by simp at h, fun h => by simp at h, fun h => by simp at h, fun h => by simp at h, fun h => by simp at h⟩ ?_ ?_
    · rintro X ⟨n', T, M⟩ k o ⟨en, eM, t0, t1, c0, c1, c2, c3, d4, d5⟩ ho hX hd
      have hk : k < 6 := by have := (List.getElem?_eq_some_iff.1 ho).1; simpa using this
      simp only at en eM t0 t1 c0 c1 c2 c3
      subst en
      rcases k with _ | _ | _ | _ | _ | _ | k
      all_goals first | omega | (simp at ho; subst ho; simp [hbd] at hd; try simp at hX)
      · have x5 : X 5 = false := by
          cases h5 : X 5 with
          | false => rfl
          | true => rw [(d5 h5).1] at hX; cases hX
        rw [x5] at t1
        simp at t1
        simp [t1]
        refine ⟨rfl, eM, by simpa [upX] using t0, by simp [t1, x5, upX], fun _ => by simp, fun h => by simpa using c1 (by simpa [upX] using h), fun h => by simpa using c2 (by simpa [upX] using h), fun h => by simpa using c3 (by simpa [upX] using h), fun h => by simpa [upX] using d4 (by simpa [upX] using h), fun h => by simp [upX] at h; simp [upX, (d5 h).2]⟩
      · have x4 : X 4 = false := by
          cases h4 : X 4 with
          | false => rfl
          | true => rw [d4 h4] at hX; cases hX
        rw [x4] at t0
        simp at t0
        simp [t0]
        refine ⟨rfl, eM, by simp [t0, x4, upX], by simpa [upX] using t1, fun h => by simpa using c0 (by simpa [upX] using h), fun _ => by simp, fun h => by simpa using c2 (by simpa [upX] using h), fun h => by simpa using c3 (by simpa [upX] using h), fun h => by simp [upX], fun h => by simpa [upX] using d5 (by simpa [upX] using h)⟩
      · have x5 : X 5 = false := by
          cases h5 : X 5 with
          | false => rfl
          | true => rw [(d5 h5).2] at hX; cases hX
        rw [x5] at t1
        simp at t1
        simp [t1]
        refine ⟨rfl, eM, by simpa [upX] using t0, by simp [t1, x5, upX], fun h => by simpa using c0 (by simpa [upX] using h), fun h => by simpa using c1 (by simpa [upX] using h), fun _ => by simp, fun h => by simpa using c3 (by simpa [upX] using h), fun h => by simpa [upX] using d4 (by simpa [upX] using h), fun h => by simp [upX] at h; simp [upX, (d5 h).1]⟩
      · have e1 := c1 hd.1
        have e2 := c2 hd.2
        simp [e1, e2, hc0, hc1, tmod_nat]
        refine ⟨rfl, eM, by simpa [upX] using t0, by simpa [upX] using t1, fun h => by simpa using c0 (by simpa [upX] using h), fun h => by simpa using c1 (by simpa [upX] using h), fun h => by simpa using c2 (by simpa [upX] using h), fun _ => by simp, fun h => by simpa [upX] using d4 (by simpa [upX] using h), fun h => by simpa [upX] using d5 (by simpa [upX] using h)⟩
      · have e0 := c0 hd.1
        have x1 : X 1 = true := hd.2.2.1 (by rfl)
        simp [e0]
        refine ⟨rfl, eM, by simp, by simpa [upX] using t1, fun h => by simpa using c0 (by simpa [upX] using h), fun h => by simpa using c1 (by simpa [upX] using h), fun h => by simpa using c2 (by simpa [upX] using h), fun h => by simpa using c3 (by simpa [upX] using h), fun _ => by simpa [upX] using x1, fun h => by simpa [upX] using d5 (by simpa [upX] using h)⟩
      · have e3 := c3 hd.1
        have x0 : X 0 = true := hd.2.2.1 (by rfl)
        have x2 : X 2 = true := hd.2.2.2.2.1 (by rfl)
        simp [e3]
        refine ⟨rfl, eM, by simpa [upX] using t0, by simp, fun h => by simpa using c0 (by simpa [upX] using h), fun h => by simpa using c1 (by simpa [upX] using h), fun h => by simpa using c2 (by simpa [upX] using h), fun h => by simpa using c3 (by simpa [upX] using h), fun h => by simpa [upX] using d4 (by simpa [upX] using h), fun _ => by simp [upX, x0, x2]⟩
    · rintro X ⟨n', T, M⟩ hX ⟨en, eM, t0, t1, c0, c1, c2, c3, d4, d5⟩
      have x4 := hX 4 (by simp)
      have x5 := hX 5 (by simp)
      simp only [x4, x5, if_true] at t0 t1 en eM
      subst en
      subst eM
      simp
      have hlt := Nat.mod_lt a (show 0 < c by omega)
      exact lpI (a % c) hlt ⟨c, a % c, rfl, hc, by omega, by rw [Nat.gcd_comm c, ← Nat.gcd_rec, Nat.gcd_comm, hg], rfl, t0, t1⟩
theorem gcd_s {M : Mem} (x y : Nat) (hx : x < 18446744073709551616) (hy : y < 18446744073709551616) : Det Tryz.prog M.length 104 [uv x, uv y] M (uv (x.gcd y : Nat)) M := by
  first | (refine det_fn Tryz.func104 rfl Tryz.ntmps104 Tryz.results104 rfl rfl rfl (by simp) ?_) | (refine det_fnC Tryz.func104 rfl Tryz.ntmps104 Tryz.results104 rfl rfl (by simp) ?_)
  simp
  refine awLoop_T (fun m T M' => ∃ a c : Nat, c = m ∧ a < 18446744073709551616 ∧ c < 18446744073709551616 ∧ a.gcd c = x.gcd y ∧ M' = M ∧ look T 0 = some (uv a) ∧ look T 1 = some (uv c)) y ⟨x, y, rfl, hx, hy, rfl, rfl, by simp, by simp⟩ ?_
  rintro m T M' ⟨a, c, rfl, ha, hc, hg, rfl, h0, h1⟩
  by_cases hc0 : c = 0
  · subst hc0
    rw [Nat.gcd_zero_right] at hg
    simp [h0, h1, hg, Keeps.refl]
  · have hc1 : ¬ (c : Int) = 0 := by omega
    have hc2 : 0 < c := by omega
    simp [h0, h1, hc0, hc1, hc2, tmod_nat]
    have hlt := Nat.mod_lt a (show 0 < c by omega)
    refine lpI (a % c) hlt ⟨c, a % c, rfl, hc, by omega, by rw [Nat.gcd_comm c, ← Nat.gcd_rec, Nat.gcd_comm, hg], rfl, by simp, by simp⟩
theorem mag_i {M : Mem} (n : Int) (h1 : -9223372036854775808 ≤ n) (h2 : n ≤ 9223372036854775807) : Det Tryz.prog M.length 87 [iv n] M (uv n.natAbs) M := by
  first | (refine det_fn Tryz.func87 rfl Tryz.ntmps87 Tryz.results87 rfl rfl rfl (by simp) ?_) | (refine det_fnC Tryz.func87 rfl Tryz.ntmps87 Tryz.results87 rfl rfl (by simp) ?_)
  simp
  by_cases h : n < 0
  · have e : IntKind.u64.wrap (-IntKind.u64.wrap n) = ((n.natAbs : Nat) : Int) := by rw [← Int.zero_sub, u64_mag h1 h]; omega
    simp [h, e, Keeps.refl]
  · have e : IntKind.u64.wrap n = ((n.natAbs : Nat) : Int) := by rw [u64_in (by omega) (by omega)]; omega
    simp [h, e, Keeps.refl]
theorem mag_s {M : Mem} (n : Int) (h1 : -9223372036854775808 ≤ n) (h2 : n ≤ 9223372036854775807) : Det Tryz.prog M.length 105 [iv n] M (uv n.natAbs) M := by
  first | (refine det_fn Tryz.func105 rfl Tryz.ntmps105 Tryz.results105 rfl rfl rfl (by simp) ?_) | (refine det_fnC Tryz.func105 rfl Tryz.ntmps105 Tryz.results105 rfl rfl (by simp) ?_)
  simp
  by_cases h : n < 0
  · have e : IntKind.u64.wrap (IntKind.u64.wrap (-(n + 1)) + 1) = ((n.natAbs : Nat) : Int) := by rw [u64_in (x := -(n + 1)) (by omega) (by omega), u64_in (by omega) (by omega)]; omega
    simp (disch := omega) [h, e, wrap_in, Keeps.refl]
  · have e : IntKind.u64.wrap n = ((n.natAbs : Nat) : Int) := by rw [u64_in (by omega) (by omega)]; omega
    simp [h, e, Keeps.refl]
end Go.Proofs.YtodbjnngkonklaaGreat

namespace Go.Proofs.YtodbjnngkonklaaGreat
open Go.RowKit
set_option linter.unusedVariables false
set_option linter.unusedSimpArgs false
set_option maxRecDepth 100000
attribute [local simp] List.getElem?_cons_zero
attribute [local irreducible] awCond awCall awLoop awDraw ow retQ retC resQ Keeps
theorem isFrac_i {M : Mem} (f : Frac) : Det Tryz.prog M.length 86 [f.v] M (.bool (fracB f)) M := by
  first | (refine det_fn Tryz.func86 rfl Tryz.ntmps86 Tryz.results86 rfl rfl rfl (by simp) ?_) | (refine det_fnC Tryz.func86 rfl Tryz.ntmps86 Tryz.results86 rfl rfl (by simp) ?_)
  simp
  refine awDraw_E 15 [[],[0],[1,0],[2,1,0],[3,2,1,0],[4,3,2,1,0],[5,4,3,2,1,0],[3,2,1,0,6,5,4],[7,3,2,1,0,6,5,4],[8,7,3,2,1,0,6,5,4],[9,8,7,3,2,1,0,6,5,4],[10,9,8,7,3,2,1,0,6,5,4],[8,7,3,2,1,0,6,5,4],[12,8,7,3,2,1,0,6,5,4],[13,12,8,7,3,2,1,0,6,5,4],[11,10,9,8,7,3,2,1,0,6,5,4,14,13,12],[15,11,10,9,8,7,3,2,1,0,6,5,4,14,13,12],[8,7,3,2,1,0,6,5,4,16,15,11,10,9,14,13,12],[17,8,7,3,2,1,0,6,5,4,16,15,11,10,9,14,13,12]] (by kernel_rfl) (by kernel_rfl) ?_
  simp
  refine awCall_det' (within_a _ _ _) (by simp) ?_
  by_cases h1 : inB f.d 1 1000000 = true
  · have b1 := inB_iff.1 h1
    simp [h1]
    refine awCall_det' (within_a _ _ _) (by simp) ?_
    by_cases h2 : inB f.n (-1000000000) 1000000000 = true
    · have b2 := inB_iff.1 h2
      simp [h2]
      refine awCall_det' (mag_i _ (by omega) (by omega)) (by simp) ?_
      have e : IntKind.u64.wrap f.d = ((f.d.natAbs : Nat) : Int) := by rw [u64_in (by omega) (by omega)]; omega
      simp [e]
      refine awCall_det' (gcd_i _ _ (by omega) (by omega)) (by simp) ?_
      have eb : fracB f = decide (f.n.natAbs.gcd f.d.natAbs = 1) := by simp [fracB, h1, h2]
      rw [eb]
      by_cases h3 : f.n.natAbs.gcd f.d.natAbs = 1
      · simp [h3, keeps_app]
      · have h3' : ¬ ((f.n.natAbs.gcd f.d.natAbs : Nat) : Int) = 1 := by omega
        simp [h3, h3', keeps_app]
    · have eb : fracB f = false := by simp [fracB, h2]
      simp [h2, eb, keeps_app]
  · have eb : fracB f = false := by simp [fracB, h1]
    simp [h1, eb, keeps_app]
theorem l02Ok_a {M : Mem} (f : Frac) : Det Tryz.prog M.length 78 [f.v] M (.bool (fracB f)) M := by
  first | (refine det_fn Tryz.func78 rfl Tryz.ntmps78 Tryz.results78 rfl rfl rfl (by simp) ?_) | (refine det_fnC Tryz.func78 rfl Tryz.ntmps78 Tryz.results78 rfl rfl (by simp) ?_)
  simp
  refine awDraw_E 15 [[],[0],[1,0],[2,1,0],[3,2,1,0],[4,3,2,1,0],[5,4,3,2,1,0],[3,2,1,0,6,5,4],[7,3,2,1,0,6,5,4],[8,7,3,2,1,0,6,5,4],[9,8,7,3,2,1,0,6,5,4],[10,9,8,7,3,2,1,0,6,5,4],[8,7,3,2,1,0,6,5,4],[12,8,7,3,2,1,0,6,5,4],[13,12,8,7,3,2,1,0,6,5,4],[11,10,9,8,7,3,2,1,0,6,5,4,14,13,12],[15,11,10,9,8,7,3,2,1,0,6,5,4,14,13,12],[8,7,3,2,1,0,6,5,4,16,15,11,10,9,14,13,12],[17,8,7,3,2,1,0,6,5,4,16,15,11,10,9,14,13,12]] (by kernel_rfl) (by kernel_rfl) ?_
  simp
  refine awCall_det' (l00In_a _ _ _) (by simp) ?_
  by_cases h1 : inB f.d 1 1000000 = true
  · have b1 := inB_iff.1 h1
    simp [h1]
    refine awCall_det' (l00In_a _ _ _) (by simp) ?_
    by_cases h2 : inB f.n (-1000000000) 1000000000 = true
    · have b2 := inB_iff.1 h2
      simp [h2]
      refine awCall_det' (mag_s _ (by omega) (by omega)) (by simp) ?_
      have e : IntKind.u64.wrap f.d = ((f.d.natAbs : Nat) : Int) := by rw [u64_in (by omega) (by omega)]; omega
      simp [e]
      refine awCall_det' (gcd_s _ _ (by omega) (by omega)) (by simp) ?_
      have eb : fracB f = decide (f.n.natAbs.gcd f.d.natAbs = 1) := by simp [fracB, h1, h2]
      rw [eb]
      by_cases h3 : f.n.natAbs.gcd f.d.natAbs = 1
      · simp [h3, keeps_app]
      · have h3' : ¬ ((f.n.natAbs.gcd f.d.natAbs : Nat) : Int) = 1 := by omega
        simp [h3, h3', keeps_app]
    · have eb : fracB f = false := by simp [fracB, h2]
      simp [h2, eb, keeps_app]
  · have eb : fracB f = false := by simp [fracB, h1]
    simp [h1, eb, keeps_app]
theorem fr_build0 : Instr.fill (fun x => [(0, 1), (1, 1)][x]?) #[iv 0, iv 0] [] = some #[iv 0, iv 0] := by rfl
theorem fr_build (a b : Int) : Instr.fill (fun x => [(0, 1), (1, 1)][x]?) #[iv 0, iv 0] [(0, iv a), (1, iv b)] = some #[iv a, iv b] := by rfl
def qN (x y : Nat) : Nat := x / y
theorem qN_le (x y : Nat) : qN x y ≤ x := Nat.div_le_self _ _
theorem tdiv_q (x y : Nat) : ((x : Int)).tdiv y = ((qN x y : Nat) : Int) := tdiv_nat x y
theorem div_q (x y : Nat) : (x : Int) / y = ((qN x y : Nat) : Int) := rfl
/-- Two quotients by the same number, assigned at once. -/
structure RM (n0 : Nat) (T0 : List (Nat × Value)) (M : Mem) (a c g : Nat) (X : Nat → Bool) (S : St) : Prop where
  n : S.n = n0
  M : S.M = M
  t6 : look S.T 6 = some (uv (if X 6 = true then qN a g else a : Nat))
  t7 : look S.T 7 = some (uv (if X 7 = true then qN c g else c : Nat))
  t8 : look S.T 8 = some (uv g)
  c0 : X 0 = true → look S.T 20 = some (uv a)
  c1 : X 1 = true → look S.T 21 = some (uv g)
  c2 : X 2 = true → look S.T 22 = some (uv (qN a g : Nat))
  c3 : X 3 = true → look S.T 23 = some (uv c)
  c4 : X 4 = true → look S.T 24 = some (uv g)
  c5 : X 5 = true → look S.T 25 = some (uv (qN c g : Nat))
  d6 : X 6 = true → X 0 = true
  d7 : X 7 = true → X 3 = true
  rest : ∀ t, t ≠ 6 → t ≠ 7 → (t < 20 ∨ 25 < t) → look S.T t = look T0 t
def RMv (a c g : Nat) : Nat → Nat × Nat
  | 0 => (20, a)
  | 1 => (21, g)
  | 2 => (22, qN a g)
  | 3 => (23, c)
  | 4 => (24, g)
  | 5 => (25, qN c g)
  | 6 => (6, qN a g)
  | _ => (7, qN c g)
theorem RM.step {n0 : Nat} {T0 T : List (Nat × Value)} {M : Mem} {a c g k : Nat} {X : Nat → Bool} (h : RM n0 T0 M a c g X ⟨n0, T, M⟩) (hk : k < 8) (h6 : k = 6 → X 0 = true) (h7 : k = 7 → X 3 = true) : RM n0 T0 M a c g (upX X k) ⟨n0, ((RMv a c g k).1, uv (RMv a c g k).2) :: T, M⟩ := by
  obtain ⟨-, -, t6, t7, t8, c0, c1, c2, c3, c4, c5, d6, d7, rest⟩ := h
  simp only at t6 t7 t8 c0 c1 c2 c3 c4 c5 rest
  have up : ∀ {j : Nat}, upX X k j = true → j ≠ k → X j = true := fun {j} hj e => by rwa [upX_ne e] at hj
  have up2 : ∀ {j : Nat}, X j = true → upX X k j = true := fun {j} hj => by
    by_cases e : j = k
    · subst e; simp
    · rwa [upX_ne e]
  have dst : ∀ t : Nat, t ≠ (RMv a c g k).1 → look (((RMv a c g k).1, uv (RMv a c g k).2) :: T) t = look T t := fun t ht => look_other ht
  have same : look (((RMv a c g k).1, uv (RMv a c g k).2) :: T) (RMv a c g k).1 = some (uv (RMv a c g k).2) := look_same
  have hd : (RMv a c g k).1 = (if k < 6 then 20 + k else k) := by
    rcases k with _ | _ | _ | _ | _ | _ | _ | _ | k <;> first | omega | rfl
  have cl : ∀ (j t : Nat) (x : Nat), j < 6 → t = 20 + j → (RMv a c g j) = (t, x) → (X j = true → look T t = some (uv x)) → (upX X k j = true → look (((RMv a c g k).1, uv (RMv a c g k).2) :: T) t = some (uv x)) := by
    intro j t x hj ht hv hc hx
    by_cases e : j = k
    · subst e
      rw [hv]
      exact look_same
    · rw [dst t (by rw [hd]; split <;> omega)]
      exact hc (up hx e)
  refine ⟨rfl, rfl, ?_, ?_, ?_, cl 0 20 a (by omega) rfl rfl c0, cl 1 21 g (by omega) rfl rfl c1, cl 2 22 (qN a g) (by omega) rfl rfl c2, cl 3 23 c (by omega) rfl rfl c3, cl 4 24 g (by omega) rfl rfl c4, cl 5 25 (qN c g) (by omega) rfl rfl c5, fun hx => ?_, fun hx => ?_, fun t n6 n7 ht => ?_⟩
  · by_cases e : 6 = k
    · subst e; simp [RMv]
    · rw [dst 6 (by rw [hd]; split <;> omega), upX_ne e]; exact t6
  · by_cases e : 7 = k
    · subst e; simp [RMv]
    · rw [dst 7 (by rw [hd]; split <;> omega), upX_ne e]; exact t7
  · rw [dst 8 (by rw [hd]; split <;> omega)]; exact t8
  · by_cases e : 6 = k
    · exact up2 (h6 e.symm)
    · exact up2 (d6 (up hx e))
  · by_cases e : 7 = k
    · exact up2 (h7 e.symm)
    · exact up2 (d7 (up hx e))
  · show look (((RMv a c g k).1, uv (RMv a c g k).2) :: T) t = look T0 t
    rw [dst t (by rw [hd]; split <;> omega)]; exact rest t n6 n7 ht
set_option maxHeartbeats 1000000 in
theorem MakeFrac_i {M : Mem} (n d : Int) (hn1 : -9223372036854775807 ≤ n) (hn2 : n ≤ 9223372036854775807) (hd1 : -9223372036854775807 ≤ d) (hd2 : d ≤ 9223372036854775807) : Det Tryz.prog M.length 53 [iv n, iv d] M (.tuple #[(mkF n d).1.v, iv (mkF n d).2]) M := by
  first | (refine det_fn Tryz.func53 rfl Tryz.ntmps53 Tryz.results53 rfl rfl rfl (by simp) ?_) | (refine det_fnC Tryz.func53 rfl Tryz.ntmps53 Tryz.results53 rfl rfl (by simp) ?_)
  simp
  by_cases h0 : d = 0
  · simp [h0, mkF, keeps_app]
  simp [h0]
  refine awCall_det' (mag_i n (by omega) (by omega)) (by simp) ?_
  try simp
  refine awCall_det' (mag_i d (by omega) (by omega)) (by simp) ?_
  try simp
  refine awCall_det' (gcd_i _ _ (by omega) (by omega)) (by simp) ?_
  have hg : 0 < n.natAbs.gcd d.natAbs := Nat.gcd_pos_of_pos_right _ (by omega)
  have hmk : mkF n d = if 1000000000 < qN n.natAbs (n.natAbs.gcd d.natAbs) ∨ 1000000 < qN d.natAbs (n.natAbs.gcd d.natAbs) then (⟨0, 0⟩, 2) else
      (⟨if (decide (n < 0) != decide (d < 0)) = true then -((qN n.natAbs (n.natAbs.gcd d.natAbs) : Nat) : Int) else ((qN n.natAbs (n.natAbs.gcd d.natAbs) : Nat) : Int), ((qN d.natAbs (n.natAbs.gcd d.natAbs) : Nat) : Int)⟩, 0) := by unfold mkF qN; rw [if_neg h0]
  rw [hmk]
  clear hmk
  have ba : n.natAbs < 9223372036854775808 := by omega
  have bc : d.natAbs < 9223372036854775808 := by omega
  generalize n.natAbs.gcd d.natAbs = g at *
  generalize n.natAbs = a at *
  generalize d.natAbs = c at *
  have hA := qN_le a g
  have hB := qN_le c g
  have hg0 : ¬ g = 0 := by omega
  try simp
  have hbd : ∀ n : Nat, Region.binds Region.Mode.any ⟨n, Ground.data⟩ = true := fun _ => by rfl
  refine awDraw_I (RM _ _ _ a c g) (by kernel_rfl) (by kernel_rfl) ⟨rfl, rfl, by simp, by simp, by simp, fun h => by simp at h, fun h => by simp at h, fun h => by simp at h, fun h => by simp at h, fun h => by simp at h, fun h => by simp at h, fun h => by simp at h, fun h => by simp at h, fun t _ _ _ => rfl⟩ ?_ ?_
  · rintro X ⟨n', T, M'⟩ k o hI ho hX hd
    have hk : k < 8 := by have := (List.getElem?_eq_some_iff.1 ho).1; simpa using this
    obtain ⟨en, eM, t6, t7, t8, c0, c1, c2, c3, c4, c5, d6, d7, rest⟩ := id hI
    simp only at en eM t6 t7 t8 c0 c1 c2 c3 c4 c5
    subst en
    subst eM
    rcases k with _ | _ | _ | _ | _ | _ | _ | _ | k
    all_goals first | omega | (simp at ho; subst ho; simp [hbd] at hd; try simp at hX)
    · have x6 : X 6 = false := by
        cases h6 : X 6 with
        | false => rfl
        | true => rw [d6 h6] at hX; cases hX
      rw [x6] at t6
      simp at t6
      simp [t6]
      exact hI.step (k := 0) (by omega) (fun h => by omega) (fun h => by omega)
    · simp [t8]
      exact hI.step (k := 1) (by omega) (fun h => by omega) (fun h => by omega)
    · simp [c0 hd.1, c1 hd.2, hg0, tdiv_q]
      rw [div_q, u64_in (x := ((qN a g : Nat) : Int)) (by omega) (by omega)]
      exact hI.step (k := 2) (by omega) (fun h => by omega) (fun h => by omega)
    · have x7 : X 7 = false := by
        cases h7 : X 7 with
        | false => rfl
        | true => rw [d7 h7] at hX; cases hX
      rw [x7] at t7
      simp at t7
      simp [t7]
      exact hI.step (k := 3) (by omega) (fun h => by omega) (fun h => by omega)
    · simp [t8]
      exact hI.step (k := 4) (by omega) (fun h => by omega) (fun h => by omega)
    · simp [c3 hd.1, c4 hd.2.1, hg0, tdiv_q]
      rw [div_q, u64_in (x := ((qN c g : Nat) : Int)) (by omega) (by omega)]
      exact hI.step (k := 5) (by omega) (fun h => by omega) (fun h => by omega)
    · have x0 : X 0 = true := hd.2.1 (by rfl)
      simp [c2 hd.1]
      exact hI.step (k := 6) (by omega) (fun _ => x0) (fun h => by omega)
    · have x3 : X 3 = true := hd.2.2.2.2.2.1 (by rfl)
      simp [c5 hd.1]
      exact hI.step (k := 7) (by omega) (fun h => by omega) (fun _ => x3)
  · rintro X ⟨n', T, M'⟩ hX ⟨en, eM, t6, t7, t8, c0, c1, c2, c3, c4, c5, d6, d7, rest⟩
    simp only [hX 6 (by simp), hX 7 (by simp), if_true] at t6 t7 en eM
    subst en
    subst eM
    have r0 : look T 0 = _ := rest 0 (by omega) (by omega) (by omega)
    have r1 : look T 1 = _ := rest 1 (by omega) (by omega) (by omega)
    have r4 : look T 4 = _ := rest 4 (by omega) (by omega) (by omega)
    simp at r0 r1 r4
    simp [t6, t7, r0, r1, r4]
    generalize qN a g = p at *
    generalize qN c g = q at *
    by_cases l1 : 1000000000 < p
    · have l1' : (1000000000 : Int) < p := by omega
      simp [l1, l1', t6, t7, r0, r1, r4, fr_build0, keeps_app]
    · have l1' : ¬ (1000000000 : Int) < p := by omega
      by_cases l2 : 1000000 < q
      · have l2' : (1000000 : Int) < q := by omega
        simp [l1, l1', l2, l2', t6, t7, r0, r1, r4, fr_build0, keeps_app]
      · have l2' : ¬ (1000000 : Int) < q := by omega
        by_cases k1 : n < 0
        · by_cases k2 : d < 0
          · simp (disch := omega) [l1, l1', l2, l2', t6, t7, r0, r1, r4, k1, k2, wrap_in, fr_build, keeps_app]
          · simp (disch := omega) [l1, l1', l2, l2', t6, t7, r0, r1, r4, k1, k2, wrap_in, fr_build, keeps_app]
        · by_cases k2 : d < 0
          · simp (disch := omega) [l1, l1', l2, l2', t6, t7, r0, r1, r4, k1, k2, wrap_in, fr_build, keeps_app]
          · simp (disch := omega) [l1, l1', l2, l2', t6, t7, r0, r1, r4, k1, k2, wrap_in, fr_build, keeps_app]
end Go.Proofs.YtodbjnngkonklaaGreat

namespace Go.Proofs.YtodbjnngkonklaaGreat
open Go.RowKit
set_option linter.unusedVariables false
set_option linter.unusedSimpArgs false
set_option maxRecDepth 100000
attribute [local simp] List.getElem?_cons_zero
attribute [local irreducible] awCond awCall awLoop awDraw ow retQ retC resQ Keeps
theorem floor_tdiv (a b : Int) (hb : 0 < b) : (if a.tmod b < 0 then a.tdiv b - 1 else a.tdiv b) = a / b := by
  have h3 := Int.mul_tdiv_add_tmod a b
  have h4 := Int.tmod_lt_of_pos a hb
  have h5 := Int.lt_tmod_of_pos a hb
  split
  · rename_i h
    have e : a = (a.tmod b + b) + b * (a.tdiv b - 1) := by rw [Int.mul_sub, Int.mul_one]; omega
    conv => rhs; rw [e]
    rw [Int.add_mul_ediv_left _ _ (by omega), Int.ediv_eq_zero_of_lt (by omega) (by omega)]
    omega
  · rename_i h
    have e : a = a.tmod b + b * a.tdiv b := by omega
    conv => rhs; rw [e]
    rw [Int.add_mul_ediv_left _ _ (by omega), Int.ediv_eq_zero_of_lt (by omega) (by omega)]
    omega
theorem tdiv_in {a b : Int} (ha : -1000000000 ≤ a) (ha2 : a ≤ 1000000000) (hb : 0 < b) : -1000000000 ≤ a.tdiv b ∧ a.tdiv b ≤ 1000000000 := by
  have h : (a.tdiv b).natAbs ≤ a.natAbs := by rw [Int.natAbs_tdiv]; exact Nat.div_le_self _ _
  omega
theorem floorDiv_i {M : Mem} (a b : Int) (ha : -1000000000 ≤ a) (ha2 : a ≤ 1000000000) (hb : 0 < b) : Det Tryz.prog M.length 55 [iv a, iv b] M (iv (a / b)) M := by
  have h := tdiv_in ha ha2 hb
  have hb0 : ¬ b = 0 := by omega
  first | (refine det_fn Tryz.func55 rfl Tryz.ntmps55 Tryz.results55 rfl rfl rfl (by simp) ?_) | (refine det_fnC Tryz.func55 rfl Tryz.ntmps55 Tryz.results55 rfl rfl (by simp) ?_)
  simp (disch := omega) [hb0, wrap_in]
  rw [← floor_tdiv a b hb]
  by_cases h2 : a.tmod b < 0
  · simp (disch := omega) [h2, wrap_in, Keeps.refl]
  · simp (disch := omega) [h2, wrap_in, Keeps.refl]
theorem floorDiv_s {M : Mem} (a b : Int) (ha : -1000000000 ≤ a) (ha2 : a ≤ 1000000000) (hb : 0 < b) : Det Tryz.prog M.length 117 [iv a, iv b] M (iv (a / b)) M := by
  have h := tdiv_in ha ha2 hb
  have hb0 : ¬ b = 0 := by omega
  first | (refine det_fn Tryz.func117 rfl Tryz.ntmps117 Tryz.results117 rfl rfl rfl (by simp) ?_) | (refine det_fnC Tryz.func117 rfl Tryz.ntmps117 Tryz.results117 rfl rfl (by simp) ?_)
  simp (disch := omega) [hb0, wrap_in]
  rw [← floor_tdiv a b hb]
  by_cases h2 : a.tmod b < 0
  · simp (disch := omega) [h2, wrap_in, Keeps.refl]
  · simp (disch := omega) [h2, wrap_in, Keeps.refl]
end Go.Proofs.YtodbjnngkonklaaGreat

namespace Go.Proofs.YtodbjnngkonklaaGreat
open Go.RowKit
set_option linter.unusedVariables false
set_option linter.unusedSimpArgs false
set_option maxRecDepth 100000
attribute [local simp] List.getElem?_cons_zero
attribute [local irreducible] awCond awCall awLoop awDraw ow retQ retC resQ Keeps
set_option maxHeartbeats 1000000 in
theorem MakeFrac_s {M : Mem} (n d : Int) (hn1 : -9223372036854775807 ≤ n) (hn2 : n ≤ 9223372036854775807) (hd1 : -9223372036854775807 ≤ d) (hd2 : d ≤ 9223372036854775807) : Det Tryz.prog M.length 102 [iv n, iv d] M (.tuple #[(mkF n d).1.v, iv (mkF n d).2]) M := by
  first | (refine det_fn Tryz.func102 rfl Tryz.ntmps102 Tryz.results102 rfl rfl rfl (by simp) ?_) | (refine det_fnC Tryz.func102 rfl Tryz.ntmps102 Tryz.results102 rfl rfl (by simp) ?_)
  simp
  by_cases h0 : d = 0
  · simp [h0, mkF, keeps_app]
  simp [h0]
  refine awCall_det' (mag_s n (by omega) (by omega)) (by simp) ?_
  try simp
  refine awCall_det' (mag_s d (by omega) (by omega)) (by simp) ?_
  try simp
  refine awCall_det' (gcd_s _ _ (by omega) (by omega)) (by simp) ?_
  have hg : 0 < n.natAbs.gcd d.natAbs := Nat.gcd_pos_of_pos_right _ (by omega)
  have hmk : mkF n d = if 1000000000 < qN n.natAbs (n.natAbs.gcd d.natAbs) ∨ 1000000 < qN d.natAbs (n.natAbs.gcd d.natAbs) then (⟨0, 0⟩, 2) else
      (⟨if (decide (n < 0) != decide (d < 0)) = true then -((qN n.natAbs (n.natAbs.gcd d.natAbs) : Nat) : Int) else ((qN n.natAbs (n.natAbs.gcd d.natAbs) : Nat) : Int), ((qN d.natAbs (n.natAbs.gcd d.natAbs) : Nat) : Int)⟩, 0) := by unfold mkF qN; rw [if_neg h0]
  rw [hmk]
  clear hmk
  have ba : n.natAbs < 9223372036854775808 := by omega
  have bc : d.natAbs < 9223372036854775808 := by omega
  generalize n.natAbs.gcd d.natAbs = g at *
  generalize n.natAbs = a at *
  generalize d.natAbs = c at *
  have hA := qN_le a g
  have hB := qN_le c g
  have hg0 : ¬ g = 0 := by omega
  simp [hg0, tdiv_q]
  rw [div_q, u64_in (x := ((qN a g : Nat) : Int)) (by omega) (by omega)]
  try simp [hg0, tdiv_q]
  rw [div_q, u64_in (x := ((qN c g : Nat) : Int)) (by omega) (by omega)]
  generalize qN a g = p at *
  generalize qN c g = q at *
  by_cases l1 : 1000000000 < p
  · have l1' : (1000000000 : Int) < p := by omega
    simp [l1, l1', fr_build0, keeps_app]
  · have l1' : ¬ (1000000000 : Int) < p := by omega
    by_cases l2 : 1000000 < q
    · have l2' : (1000000 : Int) < q := by omega
      simp [l1, l1', l2, l2', fr_build0, keeps_app]
    · have l2' : ¬ (1000000 : Int) < q := by omega
      by_cases k1 : n < 0
      · by_cases k2 : d < 0
        · simp (disch := omega) [l1, l1', l2, l2', k1, k2, wrap_in, fr_build, keeps_app]
        · simp (disch := omega) [l1, l1', l2, l2', k1, k2, wrap_in, fr_build, keeps_app]
      · by_cases k2 : d < 0
        · simp (disch := omega) [l1, l1', l2, l2', k1, k2, wrap_in, fr_build, keeps_app]
        · simp (disch := omega) [l1, l1', l2, l2', k1, k2, wrap_in, fr_build, keeps_app]
theorem fill_two {k : Nat} {z : List Value} {x y : Array Value} (hk : 0 < k) (hz : z.length = k) (hx : x.size = k) (hy : y.size = k) : Instr.fill (fun i => some (i * k, k)) (zrow z 2).toArray [(0, .agg x), (1, .agg y)] = some (x ++ y) := by
  have := Go.Great.fill_whole hk [.agg x, .agg y] (zrow z 2).toArray (by simp [hx, hy]) (by simp [zrow, hz]; omega)
  have e : (x.toList ++ y.toList).toArray = x ++ y := by apply Array.ext'; simp
  rw [← e]
  simpa using this
theorem fr_two (a b c d : Int) : Instr.fill (fun i => some (i * 2, 2)) (zrow [iv 0, iv 0] 2).toArray [(0, .agg #[iv a, iv b]), (1, .agg #[iv c, iv d])] = some #[iv a, iv b, iv c, iv d] := fill_two (by omega) rfl rfl rfl
theorem areFracs_i {M : Mem} {A : Option Addr} {n c : Nat} {l : List Frac} (h : Sl fracR M A n l) (hn : n ≤ 1099511627776) : Det Tryz.prog M.length 52 [.slice A n c] M (.bool (l.all fracB)) M := by
  have hl := h.1
  first | (refine det_fn Tryz.func52 rfl Tryz.ntmps52 Tryz.results52 rfl rfl rfl (by simp) ?_) | (refine det_fnC Tryz.func52 rfl Tryz.ntmps52 Tryz.results52 rfl rfl (by simp) ?_)
  simp
  refine awLoop_T (fun m T M' => ∃ k : Nat, k + m = n ∧ Keeps M M' ∧ (l.take k).all fracB = true ∧ look T 7 = some (iv k) ∧ look T 6 = some (iv n) ∧ look T 5 = some (.slice A n c)) n ⟨0, by omega, Keeps.refl _, by simp, by simp, by simp, by simp⟩ ?_
  rintro m T M' ⟨k, hm, hK, ha, h7, h6, h5⟩
  have hKl := hK.len
  by_cases hlt : k < n
  · obtain ⟨id, off, rfl, he, hc⟩ := (h.keeps hK).at_ hlt
    have hld := frac_load hc
    simp (disch := omega) [h7, h6, h5, hlt, he, hld]
    refine awCall_det' (isFrac_i (el l k)) (by simp; omega) ?_
    by_cases hb : fracB (el l k) = true
    · simp (disch := omega) [hb, h7, h6, h5, wrap_in]
      refine lpI (m - 1) (by omega) ⟨k + 1, by omega, hK.app _, by rw [take_el (by omega), List.all_append, ha]; simp [hb], by simp, by simp [h6], by simp [h5]⟩
    · have hno : l.all fracB = false := by
        rw [List.all_eq_false]
        exact ⟨el l k, el_mem (by omega), hb⟩
      simp [hb, hno, hK.app]
  · obtain rfl : k = n := by omega
    rw [List.take_of_length_le (by omega)] at ha
    simp [h7, h6, h5, ha, hK]
theorem AddFrac_i {M : Mem} (a b : Frac) : Det Tryz.prog M.length 59 [a.v, b.v] M (.tuple #[(addF a b).1.v, iv (addF a b).2]) M := by
  first | (refine det_fn Tryz.func59 rfl Tryz.ntmps59 Tryz.results59 rfl rfl rfl (by simp) ?_) | (refine det_fnC Tryz.func59 rfl Tryz.ntmps59 Tryz.results59 rfl rfl (by simp) ?_)
  simp [fr_two]
  have hsl : ∀ r1 r2 r3 : Slot, Sl fracR (M ++ [r1, r2, r3, .live ⟨[iv a.n, iv a.d, iv b.n, iv b.d], true, true, 34, 2⟩]) (some ⟨M.length + 3, 0, none⟩) 2 [a, b] := fun r1 r2 r3 =>
    ⟨rfl, fun _ => ⟨M.length + 3, 0, rfl, by simp [rowEsz], fun j x hx => by
      have hx' : [iv a.n, iv a.d, iv b.n, iv b.d][j]? = some x := hx
      simp [cellAt, hx']⟩⟩
  refine awCall_det' (areFracs_i (hsl _ _ _) (by omega)) (by simp) ?_
  by_cases ha : fracB a = true
  · by_cases hb : fracB b = true
    · obtain ⟨b1, b2, b3, b4⟩ := frac_bd ha hb
      simp (disch := omega) [ha, hb, wrap_in]
      refine awCall_det' (MakeFrac_i _ _ (by omega) (by omega) (by omega) (by omega)) (by simp) ?_
      have e : addF a b = mkF (a.n * b.d + b.n * a.d) (a.d * b.d) := by simp [addF, ha, hb]
      rw [e]
      simp [keeps_app]
    · have e : addF a b = (⟨0, 0⟩, 1) := by simp [addF, hb]
      simp [hb, e, fr_build0, keeps_app]
  · have e : addF a b = (⟨0, 0⟩, 1) := by simp [addF, ha]
    simp [ha, e, fr_build0, keeps_app]
theorem AddFrac_s {M : Mem} (a b : Frac) : Det Tryz.prog M.length 80 [a.v, b.v] M (.tuple #[(addF a b).1.v, iv (addF a b).2]) M := by
  first | (refine det_fn Tryz.func80 rfl Tryz.ntmps80 Tryz.results80 rfl rfl rfl (by simp) ?_) | (refine det_fnC Tryz.func80 rfl Tryz.ntmps80 Tryz.results80 rfl rfl (by simp) ?_)
  simp
  refine awCall_det' (l02Ok_a a) (by simp) ?_
  by_cases ha : fracB a = true
  · simp [ha]
    refine awCall_det' (l02Ok_a b) (by simp) ?_
    by_cases hb : fracB b = true
    · obtain ⟨b1, b2, b3, b4⟩ := frac_bd ha hb
      simp (disch := omega) [hb, wrap_in]
      refine awCall_det' (MakeFrac_s _ _ (by omega) (by omega) (by omega) (by omega)) (by simp) ?_
      have e : addF a b = mkF (a.n * b.d + b.n * a.d) (a.d * b.d) := by simp [addF, ha, hb]
      rw [e]
      simp [keeps_app]
    · have e : addF a b = (⟨0, 0⟩, 1) := by simp [addF, hb]
      simp [hb, e, fr_build0, keeps_app]
  · have e : addF a b = (⟨0, 0⟩, 1) := by simp [addF, ha]
    simp [ha, e, fr_build0, keeps_app]
theorem SubFrac_i {M : Mem} (a b : Frac) : Det Tryz.prog M.length 25 [a.v, b.v] M (.tuple #[(subF a b).1.v, iv (subF a b).2]) M := by
  first | (refine det_fn Tryz.func25 rfl Tryz.ntmps25 Tryz.results25 rfl rfl rfl (by simp) ?_) | (refine det_fnC Tryz.func25 rfl Tryz.ntmps25 Tryz.results25 rfl rfl (by simp) ?_)
  simp [fr_two]
  have hsl : ∀ r1 r2 r3 : Slot, Sl fracR (M ++ [r1, r2, r3, .live ⟨[iv a.n, iv a.d, iv b.n, iv b.d], true, true, 34, 2⟩]) (some ⟨M.length + 3, 0, none⟩) 2 [a, b] := fun r1 r2 r3 =>
    ⟨rfl, fun _ => ⟨M.length + 3, 0, rfl, by simp [rowEsz], fun j x hx => by
      have hx' : [iv a.n, iv a.d, iv b.n, iv b.d][j]? = some x := hx
      simp [cellAt, hx']⟩⟩
  refine awCall_det' (areFracs_i (hsl _ _ _) (by omega)) (by simp) ?_
  by_cases ha : fracB a = true
  · by_cases hb : fracB b = true
    · obtain ⟨b1, b2, b3, b4⟩ := frac_bd ha hb
      simp (disch := omega) [ha, hb, wrap_in]
      refine awCall_det' (MakeFrac_i _ _ (by omega) (by omega) (by omega) (by omega)) (by simp) ?_
      have e : subF a b = mkF (a.n * b.d - b.n * a.d) (a.d * b.d) := by simp [subF, ha, hb]
      rw [e]
      simp [keeps_app]
    · have e : subF a b = (⟨0, 0⟩, 1) := by simp [subF, hb]
      simp [hb, e, fr_build0, keeps_app]
  · have e : subF a b = (⟨0, 0⟩, 1) := by simp [subF, ha]
    simp [ha, e, fr_build0, keeps_app]
























































theorem compare_i {M : Mem} (a b : Frac) (ha : fracB a = true) (hb : fracB b = true) : Det Tryz.prog M.length 51 [a.v, b.v] M (iv (cmpF a b)) M := by
  obtain ⟨b1, b2, b3, b4⟩ := frac_bd ha hb
  first | (refine det_fn Tryz.func51 rfl Tryz.ntmps51 Tryz.results51 rfl rfl rfl (by simp) ?_) | (refine det_fnC Tryz.func51 rfl Tryz.ntmps51 Tryz.results51 rfl rfl (by simp) ?_)
  simp (disch := omega) [wrap_in]
  unfold cmpF
  generalize a.n * b.d = x at *
  generalize b.n * a.d = y at *
  rcases Int.lt_trichotomy x y with h | h | h
  · have h1' : x - y < 0 := by omega
    simp [h1', keeps_app]
  · subst h
    simp [keeps_app]
  · have h1 : ¬ x < y := by omega
    have h2 : ¬ x - y < 0 := by omega
    have h3 : 0 < x - y := by omega
    rw [if_neg h2, if_pos h3]
    simp only [decide_eq_false h2, awCond_false]
    simp [h, keeps_app]
theorem compare_s {M : Mem} (a b : Frac) (ha : fracB a = true) (hb : fracB b = true) : Det Tryz.prog M.length 100 [a.v, b.v] M (iv (cmpF a b)) M := by
  obtain ⟨b1, b2, b3, b4⟩ := frac_bd ha hb
  first | (refine det_fn Tryz.func100 rfl Tryz.ntmps100 Tryz.results100 rfl rfl rfl (by simp) ?_) | (refine det_fnC Tryz.func100 rfl Tryz.ntmps100 Tryz.results100 rfl rfl (by simp) ?_)
  simp (disch := omega) [wrap_in]
  unfold cmpF
  generalize a.n * b.d = x at *
  generalize b.n * a.d = y at *
  rcases Int.lt_trichotomy x y with h | h | h
  · have h1' : x - y < 0 := by omega
    simp [h, h1', keeps_app]
  · subst h
    simp [keeps_app]
  · have h1 : ¬ x < y := by omega
    have h2 : ¬ x - y < 0 := by omega
    have h3 : 0 < x - y := by omega
    rw [if_neg h2, if_pos h3]
    simp only [decide_eq_false h1, awCond_false]
    simp [h, keeps_app]
def beatB (f : Frac) : Bool := fracB f && decide (0 ≤ f.n) && decide (f.n ≤ 1000 * f.d)
theorem whole_ok {n : Int} (h1 : -1000000000 ≤ n) (h2 : n ≤ 1000000000) : fracB ⟨n, 1⟩ = true := fracB_iff.2 ⟨by simp only; omega, by simp only; omega, Nat.gcd_one_right _⟩
theorem whole_i {M : Mem} (n : Int) : Det Tryz.prog M.length 24 [iv n] M (Frac.v ⟨n, 1⟩) M := by
  first | (refine det_fn Tryz.func24 rfl Tryz.ntmps24 Tryz.results24 rfl rfl rfl (by simp) ?_) | (refine det_fnC Tryz.func24 rfl Tryz.ntmps24 Tryz.results24 rfl rfl (by simp) ?_)
  simp [fr_build, keeps_app]
theorem isBeat_i {M : Mem} (f : Frac) : Det Tryz.prog M.length 95 [f.v] M (.bool (beatB f)) M := by
  first | (refine det_fn Tryz.func95 rfl Tryz.ntmps95 Tryz.results95 rfl rfl rfl (by simp) ?_) | (refine det_fnC Tryz.func95 rfl Tryz.ntmps95 Tryz.results95 rfl rfl (by simp) ?_)
  simp
  refine awDraw_E 10 [[],[0],[1,0],[2,1,0],[3,2,1,0],[4,3,2,1,0],[2,1,0,5,4,3],[6,2,1,0,5,4,3],[7,6,2,1,0,5,4,3],[7,6,2,1,0,5,4,3],[8,7,6,2,1,0,5,4,3,9],[10,8,7,6,2,1,0,5,4,3,9],[7,6,2,1,0,5,4,3,11,10,8,9],[12,7,6,2,1,0,5,4,3,11,10,8,9]] (by kernel_rfl) (by kernel_rfl) ?_
  simp
  refine awCall_det' (isFrac_i f) (by simp) ?_
  by_cases h1 : fracB f = true
  · have hb := fracB_iff.1 h1
    simp [h1]
    by_cases h2 : 0 ≤ f.n
    · simp [h2]
      refine awCall_det' (whole_i 1000) (by simp) ?_
      simp
      refine awCall_det' (compare_i f ⟨1000, 1⟩ h1 (whole_ok (by omega) (by omega))) (by simp) ?_
      have e : decide (cmpF f ⟨1000, 1⟩ ≤ 0) = decide (f.n ≤ 1000 * f.d) := by
        unfold cmpF
        simp only
        by_cases h3 : f.n ≤ 1000 * f.d
        · rw [decide_eq_true h3]
          split
          · rfl
          · rw [if_neg (by omega)]; rfl
        · rw [decide_eq_false h3, if_neg (by omega), if_pos (by omega)]
          rfl
      simp [e, beatB, h1, h2, keeps_app]
    · have e : beatB f = false := by simp [beatB, h2]
      simp [h2, e, keeps_app]
  · have e : beatB f = false := by simp [beatB, h1]
    simp [h1, e, keeps_app]
theorem l17Beat_a {M : Mem} (f : Frac) (h1 : fracB f = true) : Det Tryz.prog M.length 79 [f.v] M (.bool (beatB f)) M := by
  have hb := fracB_iff.1 h1
  first | (refine det_fn Tryz.func79 rfl Tryz.ntmps79 Tryz.results79 rfl rfl rfl (by simp) ?_) | (refine det_fnC Tryz.func79 rfl Tryz.ntmps79 Tryz.results79 rfl rfl (by simp) ?_)
  simp
  by_cases h2 : 0 ≤ f.n
  · simp (disch := omega) [h2, wrap_in, beatB, h1, keeps_app]
  · have e : beatB f = false := by simp [beatB, h2]
    simp [h2, e, keeps_app]
end Go.Proofs.YtodbjnngkonklaaGreat

namespace Go.Proofs.YtodbjnngkonklaaGreat
open Go.RowKit
set_option linter.unusedVariables false
set_option linter.unusedSimpArgs false
set_option maxRecDepth 100000
attribute [local simp] List.getElem?_cons_zero
attribute [local irreducible] awCond awCall awLoop awDraw ow retQ retC resQ Keeps
def lenB (f : Frac) : Bool := beatB f && decide (0 < f.n)
def chordB (l : List Pitch) : Bool := decide (∀ i, i < l.length → pitchB (el l i) = true ∧ (0 < i → keyV (el l (i - 1)) < keyV (el l i))) && (decide (1 ≤ l.length) && decide (l.length ≤ 6))
theorem isLength_i {M : Mem} (f : Frac) : Det Tryz.prog M.length 91 [f.v] M (.bool (lenB f)) M := by
  first | (refine det_fn Tryz.func91 rfl Tryz.ntmps91 Tryz.results91 rfl rfl rfl (by simp) ?_) | (refine det_fnC Tryz.func91 rfl Tryz.ntmps91 Tryz.results91 rfl rfl (by simp) ?_)
  simp
  refine awCall_det' (isBeat_i f) (by first | omega | simp) ?_
  by_cases h : beatB f = true
  · simp [h, lenB, keeps_app]
  · simp [h, lenB, keeps_app]
theorem l19Length_s {M : Mem} (f : Frac) : Det Tryz.prog M.length 113 [f.v] M (.bool (lenB f)) M := by
  first | (refine det_fn Tryz.func113 rfl Tryz.ntmps113 Tryz.results113 rfl rfl rfl (by simp) ?_) | (refine det_fnC Tryz.func113 rfl Tryz.ntmps113 Tryz.results113 rfl rfl (by simp) ?_)
  simp
  refine awCall_det' (l02Ok_a f) (by first | omega | simp) ?_
  by_cases h : fracB f = true
  case neg =>
    have hb : beatB f = false := by simp [beatB, h]
    simp [h, lenB, hb, keeps_app]
  simp [h]
  refine awCall_det' (l17Beat_a f h) (by first | omega | simp) ?_
  by_cases h2 : beatB f = true
  · simp [h2, lenB, keeps_app]
  · simp [h2, lenB, keeps_app]
theorem sizePitch_a {M : Mem} {A : Option Addr} {n c : Nat} : Det Tryz.prog M.length 110 [.slice A n c] M (iv n) M := by
  first | (refine det_fn Tryz.func110 rfl Tryz.ntmps110 Tryz.results110 rfl rfl rfl (by simp) ?_) | (refine det_fnC Tryz.func110 rfl Tryz.ntmps110 Tryz.results110 rfl rfl (by simp) ?_)
  simp [Keeps.refl]
def ChOk (l : List Pitch) (k : Nat) : Prop := ∀ i, i < k → pitchB (el l i) = true ∧ (0 < i → keyV (el l (i - 1)) < keyV (el l i))
theorem chord_no {l : List Pitch} {k : Nat} (hk : k < l.length) (h : pitchB (el l k) = true → 0 < k → ¬ keyV (el l (k - 1)) < keyV (el l k)) (h0 : pitchB (el l k) = true → k ≠ 0) : chordB l = false := by
  unfold chordB
  rw [Bool.and_eq_false_iff]
  left
  rw [decide_eq_false_iff_not]
  intro hh
  obtain ⟨a, b⟩ := hh k hk
  have := h0 a
  exact h a (by omega) (b (by omega))
theorem pitchB_r {p : Pitch} (h : pitchB p = true) : (0 ≤ p.s ∧ p.s ≤ 6) ∧ (-2 ≤ p.a ∧ p.a ≤ 2) ∧ (-1 ≤ p.o ∧ p.o ≤ 9) ∧ (0 ≤ keyV p ∧ keyV p ≤ 127) := by
  unfold pitchB at h
  simp only [Bool.and_eq_true, inB_iff] at h
  omega
set_option maxHeartbeats 1000000 in
theorem areChord_i {M : Mem} {A : Option Addr} {n c : Nat} {l : List Pitch} (h : Sl pitchR M A n l) (hn : n ≤ 9223372036854775807) : Det Tryz.prog M.length 90 [.slice A n c] M (.bool (chordB l)) M := by
  have hl := h.1
  first | (refine det_fn Tryz.func90 rfl Tryz.ntmps90 Tryz.results90 rfl rfl rfl (by simp) ?_) | (refine det_fnC Tryz.func90 rfl Tryz.ntmps90 Tryz.results90 rfl rfl (by simp) ?_)
  simp
  refine awLoop_T (fun m T M' => ∃ k : Nat, k + m = n ∧ Keeps M M' ∧ ChOk l k ∧ look T 7 = some (iv k) ∧ look T 6 = some (iv n) ∧ look T 5 = some (.slice A n c) ∧ look T 0 = some (.slice A n c)) n ⟨0, by omega, Keeps.refl _, fun i hi => by omega, by simp, by simp, by simp, by simp⟩ ?_
  rintro m T M' ⟨k, hm, hK, hok, t7, t6, t5, t0⟩
  have hKl := hK.len
  by_cases hlt : k < n
  · have hlt' : (k : Int) < n := by omega
    obtain ⟨id, off, rfl, he, hc⟩ := (h.keeps hK).at_ hlt
    have ld := pitch_load hc
    simp (disch := omega) [t7, t6, t5, t0, hlt, hlt', he, ld]
    refine awDraw_E 14 [[],[0],[1,0],[2,1,0],[3,2,1,0],[4,3,2,1,0],[5,4,3,2,1,0],[6,5,4,3,2,1,0],[6,5,4,3,2,1,0],[8,6,5,4,3,2,1,0],[7,6,5,4,3,2,1,0,9,8],[10,7,6,5,4,3,2,1,0,9,8],[11,10,7,6,5,4,3,2,1,0,9,8],[6,5,4,3,2,1,0],[13,6,5,4,3,2,1,0,12,11,10,7,9,8],[12,11,10,7,6,5,4,3,2,1,0,9,8,14,13],[6,5,4,3,2,1,0,15,12,11,10,7,9,8,14,13],[3,2,1,0,16,6,5,4,15,12,11,10,7,9,8,14,13]] (by kernel_rfl) (by kernel_rfl) ?_
    simp (disch := omega) [t7, t6, t5, t0, hlt, hlt', he, ld]
    refine awCall_det' (isPitch_i (el l k)) (by first | omega | simp) ?_
    by_cases h1 : pitchB (el l k) = true
    case neg =>
      simp (disch := omega) [t7, t6, t5, t0, h1]
      rw [chord_no (by omega) (fun e => absurd e h1) (fun e => absurd e h1)]
      exact ⟨rfl, hK.app _⟩
    by_cases h2 : k = 0
    · subst h2
      simp (disch := omega) [t7, t6, t5, t0, h1, wrap_in]
      refine lpI (m - 1) (by omega) ⟨1, by omega, hK.app _, fun i hi => ?_, by simp, by simp [t6], by simp [t5], by simp [t0]⟩
      obtain rfl : i = 0 := by omega
      exact ⟨h1, fun h => by omega⟩
    · have h2' : (0 : Int) < k := by omega
      have h2'' : 0 < k := by omega
      obtain ⟨_, _, e', he', hc'⟩ := (h.keeps hK).at_ (show k - 1 < n by omega)
      cases e'
      have ld' := pitch_load hc'
      have ei : ((k - 1 : Nat) : Int) = (k : Int) - 1 := by omega
      obtain ⟨p1, -⟩ := hok (k - 1) (by omega)
      obtain ⟨q1, q2, q3, q4⟩ := pitchB_r p1
      obtain ⟨r1, r2, r3, r4⟩ := pitchB_r h1
      simp (disch := omega) [t7, t6, t5, t0, h1, h2, h2', h2'', wrap_in, cellsAt_app ld']
      refine ⟨by omega, awCall_det' (keyOf_i _ q1 q2 q3) (by simp) ⟨rfl, awCall_det' (keyOf_i _ r1 r2 r3) (by simp; omega) ?_⟩⟩
      by_cases h3 : keyV (el l k) ≤ keyV (el l (k - 1))
      · simp (disch := omega) [t7, t6, t5, t0, h3]
        rw [chord_no (by omega) (fun _ _ => by omega) (fun _ => h2)]
        exact ⟨rfl, hK.app _⟩
      · simp (disch := omega) [t7, t6, t5, t0, h3, wrap_in]
        refine lpI (m - 1) (by omega) ⟨k + 1, by omega, hK.app _, fun i hi => ?_, by simp, by simp [t6], by simp [t5], by simp [t0]⟩
        by_cases hik : i = k
        · subst hik; exact ⟨h1, fun _ => by omega⟩
        · exact hok i (by omega)
  · obtain rfl : k = n := by omega
    simp (disch := omega) [t7, t6, t5, t0]
    refine awCall_det' (sizePitch_a) (by omega) ?_
    refine awCall_det' (within_a _ _ _) (by omega) ?_
    have e : chordB l = inB k 1 6 := by
      unfold chordB inB
      rw [decide_eq_true (by rw [hl]; exact hok), Bool.true_and]
      congr 1 <;> exact decide_eq_decide.2 (by omega)
    rw [e]
    exact ⟨rfl, hK⟩
set_option maxHeartbeats 1000000 in
theorem l19Chord_s {M : Mem} {A : Option Addr} {n c : Nat} {l : List Pitch} (h : Sl pitchR M A n l) (hn : n ≤ 9223372036854775807) : Det Tryz.prog M.length 83 [.slice A n c] M (.bool (chordB l)) M := by
  have hl := h.1
  first | (refine det_fn Tryz.func83 rfl Tryz.ntmps83 Tryz.results83 rfl rfl rfl (by simp) ?_) | (refine det_fnC Tryz.func83 rfl Tryz.ntmps83 Tryz.results83 rfl rfl (by simp) ?_)
  simp
  refine awLoop_T (fun m T M' => ∃ k : Nat, k + m = n ∧ M' = M ∧ ChOk l k ∧ look T 3 = some (iv k) ∧ look T 0 = some (.slice A n c)) n ⟨0, by omega, rfl, fun i hi => by omega, by simp, by simp⟩ ?_
  rintro m T M' ⟨k, hm, rfl, hok, t3, t0⟩
  by_cases hlt : k < n
  · have hlt' : (k : Int) < n := by omega
    obtain ⟨id, off, rfl, he, hc⟩ := h.at_ hlt
    have ld := pitch_load hc
    simp (disch := omega) [t3, t0, hlt, hlt', he, ld]
    refine awDraw_E 20 [[],[],[0,1],[2,0,1],[3,2,0,1],[4,3,2,0,1],[5,4,3,2,0,1],[6,5,4,3,2,0,1],[7,6,5,4,3,2,0,1],[8,7,6,5,4,3,2,0,1],[9,8,7,6,5,4,3,2,0,1],[9,8,7,6,5,4,3,2,0,1],[11,9,8,7,6,5,4,3,2,0,1],[10,9,8,7,6,5,4,3,2,0,1,12,11],[13,10,9,8,7,6,5,4,3,2,0,1,12,11],[14,13,10,9,8,7,6,5,4,3,2,0,1,12,11],[9,8,7,6,5,4,3,2,0,1],[9,8,7,6,5,4,3,2,0,1],[16,9,8,7,6,5,4,3,2,0,1,17],[18,16,9,8,7,6,5,4,3,2,0,1,17],[19,18,16,9,8,7,6,5,4,3,2,0,1,17,15,14,13,10,12,11],[15,14,13,10,9,8,7,6,5,4,3,2,0,1,12,11,20,19,18,16,17],[9,8,7,6,5,4,3,2,0,1,21,15,14,13,10,12,11,20,19,18,16,17],[6,5,4,3,2,0,1,22,9,8,7,21,15,14,13,10,12,11,20,19,18,16,17]] (by kernel_rfl) (by kernel_rfl) ?_
    simp (disch := omega) [t3, t0, hlt, hlt', he, ld]
    refine awCall_det' (l16Ok_s (el l k)) (by first | omega | simp) ?_
    by_cases h1 : pitchB (el l k) = true
    case neg =>
      simp (disch := omega) [t3, t0, h1]
      rw [chord_no (by omega) (fun e => absurd e h1) (fun e => absurd e h1)]
      simp [Keeps.refl]
    by_cases h2 : k = 0
    · subst h2
      simp (disch := omega) [t3, t0, h1, wrap_in]
      refine lpI (m - 1) (by omega) ⟨1, by omega, rfl, fun i hi => ?_, by simp, by simp [t0]⟩
      obtain rfl : i = 0 := by omega
      exact ⟨h1, fun h => by omega⟩
    · have h2' : (0 : Int) < k := by omega
      have h2'' : 0 < k := by omega
      obtain ⟨_, _, e', he', hc'⟩ := h.at_ (show k - 1 < n by omega)
      cases e'
      have ld' := pitch_load hc'
      have ei : ((k - 1 : Nat) : Int) = (k : Int) - 1 := by omega
      obtain ⟨p1, -⟩ := hok (k - 1) (by omega)
      obtain ⟨q1, q2, q3, q4⟩ := pitchB_r p1
      obtain ⟨r1, r2, r3, r4⟩ := pitchB_r h1
      simp (disch := omega) [t3, t0, h1, h2, h2', h2'', wrap_in, ld', he, ld]
      refine ⟨by omega, awCall_det' (l16Key_s _ q1 q2 q3) (by first | omega | simp) ?_⟩
      try simp (disch := omega) [t3, t0, h1, h2, h2', h2'', wrap_in, ld', he, ld, hlt']
      refine ⟨hlt, awCall_det' (l16Key_s _ r1 r2 r3) (by first | omega | simp) ?_⟩
      by_cases h3 : keyV (el l k) ≤ keyV (el l (k - 1))
      · simp (disch := omega) [t3, t0, h3]
        rw [chord_no (by omega) (fun _ _ => by omega) (fun _ => h2)]
        simp [Keeps.refl]
      · simp (disch := omega) [t3, t0, h3, wrap_in]
        refine lpI (m - 1) (by omega) ⟨k + 1, by omega, rfl, fun i hi => ?_, by simp, by simp [t0]⟩
        by_cases hik : i = k
        · subst hik; exact ⟨h1, fun _ => by omega⟩
        · exact hok i (by omega)
  · obtain rfl : k = n := by omega
    have e : chordB l = inB k 1 6 := by
      unfold chordB inB
      rw [decide_eq_true (by rw [hl]; exact hok), Bool.true_and]
      congr 1 <;> exact decide_eq_decide.2 (by omega)
    rw [e]
    by_cases g1 : (1 : Int) ≤ k
    · simp (disch := omega) [t3, t0, g1, inB, Keeps.refl]
    · simp (disch := omega) [t3, t0, g1, inB, Keeps.refl]
end Go.Proofs.YtodbjnngkonklaaGreat

namespace Go.Proofs.YtodbjnngkonklaaGreat
open Go.RowKit
set_option linter.unusedVariables false
set_option linter.unusedSimpArgs false
set_option maxRecDepth 100000
attribute [local simp] List.getElem?_cons_zero
attribute [local irreducible] awCond awCall awLoop awDraw ow retQ retC resQ Keeps
structure Note where
  (an ad ln ld k u o : Int)
deriving Inhabited, DecidableEq
def Note.row (c : Note) : List Value := [iv c.an, iv c.ad, iv c.ln, iv c.ld, iv c.k, iv c.u, iv c.o]
def noteR : RecV Note 7 := ⟨Note.row, fun _ => rfl⟩
abbrev Note.v (c : Note) : Value := .agg #[iv c.an, iv c.ad, iv c.ln, iv c.ld, iv c.k, iv c.u, iv c.o]
theorem note_cells {M : Mem} {id off : Nat} {g : Note} (h : Cl M id off g.row) : cellAt M id off = some (iv g.an) ∧ cellAt M id (off + 1) = some (iv g.ad) ∧ cellAt M id (off + 2) = some (iv g.ln) ∧ cellAt M id (off + 3) = some (iv g.ld) ∧ cellAt M id (off + 4) = some (iv g.k) ∧ cellAt M id (off + 5) = some (iv g.u) ∧ cellAt M id (off + 6) = some (iv g.o) :=
  ⟨h 0 _ rfl, h 1 _ rfl, h 2 _ rfl, h 3 _ rfl, h 4 _ rfl, h 5 _ rfl, h 6 _ rfl⟩
theorem note_load {M : Mem} {id off : Nat} {g : Note} (h : Cl M id off g.row) : cellsAt M id off 7 = some [iv g.an, iv g.ad, iv g.ln, iv g.ld, iv g.k, iv g.u, iv g.o] := cellsAt_of h rfl (by omega)
theorem note_eq {a b : Note} : a = b ↔ a.an = b.an ∧ a.ad = b.ad ∧ a.ln = b.ln ∧ a.ld = b.ld ∧ a.k = b.k ∧ a.u = b.u ∧ a.o = b.o := by
  cases a; cases b; simp
/-- Equality of records, as the language has it. -/
theorem note_same (a b : Note) : aggEq Tryz.prog 36 #[iv a.an, iv a.ad, iv a.ln, iv a.ld, iv a.k, iv a.u, iv a.o] #[iv b.an, iv b.ad, iv b.ln, iv b.ld, iv b.k, iv b.u, iv b.o] = some (decide (a = b)) := by
  refine aggEq_of (by kernel_rfl) rfl rfl fun w => ?_
  unfold Op.equal
  rw [show Op.maxDepth = 9999 + 1 from rfl]
  rw [run_equalIn_agg _ _ _ _ _ Tryz.underlying36 (by kernel_rfl)]
  simp [go_sem]
  repeat' split
  all_goals simp_all [note_eq]
theorem note_neq (a b : Note) : binV Tryz.prog .neq 36 (.agg #[iv a.an, iv a.ad, iv a.ln, iv a.ld, iv a.k, iv a.u, iv a.o]) (.agg #[iv b.an, iv b.ad, iv b.ln, iv b.ld, iv b.k, iv b.u, iv b.o]) = some (.bool (!decide (a = b))) := by
  simp only [binV, eqV, Tryz.underlying36, note_same, Option.map_some]
@[simp] theorem note_fill (x0 x1 x2 x3 x4 x5 x6 : Int) : Instr.fill (fun i => some (i * 7, 7)) (zrow [iv 0, iv 0, iv 0, iv 0, iv 0, iv 0, iv 0] 1).toArray [(0, .agg #[iv x0, iv x1, iv x2, iv x3, iv x4, iv x5, iv x6])] = some #[iv x0, iv x1, iv x2, iv x3, iv x4, iv x5, iv x6] := fill_agg (by omega) rfl rfl
end Go.Proofs.YtodbjnngkonklaaGreat

namespace Go.Proofs.YtodbjnngkonklaaGreat
open Go.RowKit
set_option linter.unusedVariables false
set_option linter.unusedSimpArgs false
set_option maxRecDepth 100000
attribute [local simp] List.getElem?_cons_zero
attribute [local irreducible] awCond awCall awLoop awDraw ow retQ retC resQ Keeps
end Go.Proofs.YtodbjnngkonklaaGreat
