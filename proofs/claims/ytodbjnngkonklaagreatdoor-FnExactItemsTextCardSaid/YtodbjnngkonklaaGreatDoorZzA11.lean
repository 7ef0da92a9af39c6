/- Parts of the proof, together: Which items are valid: chords, in both packages. Names of pitches and intervals, texts of fractions, in both packages. Names of intervals, in both packages. No conditions. -/
import Derived.Test.YtodbjnngkonklaaGreatDoorZzA10
import Derived.Test.YtodbjnngkonklaaGreatDoorZzA8
namespace Go.Proofs.YtodbjnngkonklaaGreatDoor
open Go.RowKit
set_option linter.unusedVariables false
set_option linter.unusedSimpArgs false
set_option maxRecDepth 100000
attribute [local simp] List.getElem?_cons_zero
attribute [local irreducible] awCond awCall awLoop awDraw ow retQ retC resQ Keeps
def lenB (f : Frac) : Bool := beatB f && decide (0 < f.n)
def chordB (l : List Pitch) : Bool := decide (∀ i, i < l.length → pitchB (el l i) = true ∧ (0 < i → keyV (el l (i - 1)) < keyV (el l i))) && (decide (1 ≤ l.length) && decide (l.length ≤ 6))
theorem isLength_i {M : Mem} (f : Frac) : Det Tryz.prog M.length 44 [f.v] M (.bool (lenB f)) M := by
  first | (refine det_fn Tryz.func44 rfl Tryz.ntmps44 Tryz.results44 rfl rfl rfl (by simp) ?_) | (refine det_fnC Tryz.func44 rfl Tryz.ntmps44 Tryz.results44 rfl rfl (by simp) ?_)
  simp
  refine awCall_det' (isBeat_i f) (by first | omega | simp) ?_
  by_cases h : beatB f = true
  · simp [h, lenB, keeps_app]
  · simp [h, lenB, keeps_app]
theorem l19Length_s {M : Mem} (f : Frac) : Det Tryz.prog M.length 58 [f.v] M (.bool (lenB f)) M := by
  first | (refine det_fn Tryz.func58 rfl Tryz.ntmps58 Tryz.results58 rfl rfl rfl (by simp) ?_) | (refine det_fnC Tryz.func58 rfl Tryz.ntmps58 Tryz.results58 rfl rfl (by simp) ?_)
  simp
  refine awCall_det' (l02Ok_a f) (by first | omega | simp) ?_
  by_cases h : fracB f = true
  case neg =>
    have hb : beatB f = false := by simp [beatB, h]
    simp [h, lenB, hb, keeps_app]
  simp [h]
  refine awCall_det' (l17Beat_a f h) (by first | omega | simp) ?_
  by_cases h2 : beatB f = true
  · simp [h2, lenB, keeps_app]
  · simp [h2, lenB, keeps_app]
theorem sizePitch_a {M : Mem} {A : Option Addr} {n c : Nat} : Det Tryz.prog M.length 63 [.slice A n c] M (iv n) M := by
  first | (refine det_fn Tryz.func63 rfl Tryz.ntmps63 Tryz.results63 rfl rfl rfl (by simp) ?_) | (refine det_fnC Tryz.func63 rfl Tryz.ntmps63 Tryz.results63 rfl rfl (by simp) ?_)
  simp [Keeps.refl]
def ChOk (l : List Pitch) (k : Nat) : Prop := ∀ i, i < k → pitchB (el l i) = true ∧ (0 < i → keyV (el l (i - 1)) < keyV (el l i))
theorem chord_no {l : List Pitch} {k : Nat} (hk : k < l.length) (h : pitchB (el l k) = true → 0 < k → ¬ keyV (el l (k - 1)) < keyV (el l k)) (h0 : pitchB (el l k) = true → k ≠ 0) : chordB l = false := by
  unfold chordB
  rw [Bool.and_eq_false_iff]
  left
  rw [decide_eq_false_iff_not]
  intro hh
  obtain ⟨a, b⟩ := hh k hk
  have := h0 a
  exact h a (by omega) (b (by omega))
theorem pitchB_r {p : Pitch} (h : pitchB p = true) : (0 ≤ p.s ∧ p.s ≤ 6) ∧ (-2 ≤ p.a ∧ p.a ≤ 2) ∧ (-1 ≤ p.o ∧ p.o ≤ 9) ∧ (0 ≤ keyV p ∧ keyV p ≤ 127) := by
  unfold pitchB at h
  simp only [Bool.and_eq_true, inB_iff] at h
  omega
set_option maxHeartbeats 1000000 in
theorem areChord_i {M : Mem} {A : Option Addr} {n c : Nat} {l : List Pitch} (h : Sl pitchR M A n l) (hn : n ≤ 9223372036854775807) : Det Tryz.prog M.length 43 [.slice A n c] M (.bool (chordB l)) M := by
  have hl := h.1
  first | (refine det_fn Tryz.func43 rfl Tryz.ntmps43 Tryz.results43 rfl rfl rfl (by simp) ?_) | (refine det_fnC Tryz.func43 rfl Tryz.ntmps43 Tryz.results43 rfl rfl (by simp) ?_)
  simp
  refine awLoop_T (fun m T M' => ∃ k : Nat, k + m = n ∧ Keeps M M' ∧ ChOk l k ∧ look T 7 = some (iv k) ∧ look T 6 = some (iv n) ∧ look T 5 = some (.slice A n c) ∧ look T 0 = some (.slice A n c)) n ⟨0, by omega, Keeps.refl _, fun i hi => by omega, by simp, by simp, by simp, by simp⟩ ?_
  rintro m T M' ⟨k, hm, hK, hok, t7, t6, t5, t0⟩
  have hKl := hK.len
  by_cases hlt : k < n
  · have hlt' : (k : Int) < n := by omega
    obtain ⟨id, off, rfl, he, hc⟩ := (h.keeps hK).at_ hlt
    have ld := pitch_load hc
    simp (disch := omega) [t7, t6, t5, t0, hlt, hlt', he, ld]
    refine awDraw_E 14 [[],[0],[1,0],[2,1,0],[3,2,1,0],[4,3,2,1,0],[5,4,3,2,1,0],[6,5,4,3,2,1,0],[6,5,4,3,2,1,0],[8,6,5,4,3,2,1,0],[7,6,5,4,3,2,1,0,9,8],[10,7,6,5,4,3,2,1,0,9,8],[11,10,7,6,5,4,3,2,1,0,9,8],[6,5,4,3,2,1,0],[13,6,5,4,3,2,1,0,12,11,10,7,9,8],[12,11,10,7,6,5,4,3,2,1,0,9,8,14,13],[6,5,4,3,2,1,0,15,12,11,10,7,9,8,14,13],[3,2,1,0,16,6,5,4,15,12,11,10,7,9,8,14,13]] (by kernel_rfl) (by kernel_rfl) ?_
    simp (disch := omega) [t7, t6, t5, t0, hlt, hlt', he, ld]
    refine awCall_det' (isPitch_i (el l k)) (by first | omega | simp) ?_
    by_cases h1 : pitchB (el l k) = true
    case neg =>
      simp (disch := omega) [t7, t6, t5, t0, h1]
      rw [chord_no (by omega) (fun e => absurd e h1) (fun e => absurd e h1)]
      exact ⟨rfl, hK.app _⟩
    by_cases h2 : k = 0
    · subst h2
      simp (disch := omega) [t7, t6, t5, t0, h1, wrap_in]
      refine lpI (m - 1) (by omega) ⟨1, by omega, hK.app _, fun i hi => ?_, by simp, by simp [t6], by simp [t5], by simp [t0]⟩
      obtain rfl : i = 0 := by omega
      exact ⟨h1, fun h => by omega⟩
    · have h2' : (0 : Int) < k := by omega
      have h2'' : 0 < k := by omega
      obtain ⟨_, _, e', he', hc'⟩ := (h.keeps hK).at_ (show k - 1 < n by omega)
      cases e'
      have ld' := pitch_load hc'
      have ei : ((k - 1 : Nat) : Int) = (k : Int) - 1 := by omega
      obtain ⟨p1, -⟩ := hok (k - 1) (by omega)
      obtain ⟨q1, q2, q3, q4⟩ := pitchB_r p1
      obtain ⟨r1, r2, r3, r4⟩ := pitchB_r h1
      simp (disch := omega) [t7, t6, t5, t0, h1, h2, h2', h2'', wrap_in, cellsAt_app ld']
      refine ⟨by omega, awCall_det' (keyOf_i _ q1 q2 q3) (by simp) ⟨rfl, awCall_det' (keyOf_i _ r1 r2 r3) (by simp; omega) ?_⟩⟩
      by_cases h3 : keyV (el l k) ≤ keyV (el l (k - 1))
      · simp (disch := omega) [t7, t6, t5, t0, h3]
        rw [chord_no (by omega) (fun _ _ => by omega) (fun _ => h2)]
        exact ⟨rfl, hK.app _⟩
      · simp (disch := omega) [t7, t6, t5, t0, h3, wrap_in]
        refine lpI (m - 1) (by omega) ⟨k + 1, by omega, hK.app _, fun i hi => ?_, by simp, by simp [t6], by simp [t5], by simp [t0]⟩
        by_cases hik : i = k
        · subst hik; exact ⟨h1, fun _ => by omega⟩
        · exact hok i (by omega)
  · obtain rfl : k = n := by omega
    simp (disch := omega) [t7, t6, t5, t0]
    refine awCall_det' (sizePitch_a) (by omega) ?_
    refine awCall_det' (within_a _ _ _) (by omega) ?_
    have e : chordB l = inB k 1 6 := by
      unfold chordB inB
      rw [decide_eq_true (by rw [hl]; exact hok), Bool.true_and]
      congr 1 <;> exact decide_eq_decide.2 (by omega)
    rw [e]
    exact ⟨rfl, hK⟩
set_option maxHeartbeats 1000000 in
theorem l19Chord_s {M : Mem} {A : Option Addr} {n c : Nat} {l : List Pitch} (h : Sl pitchR M A n l) (hn : n ≤ 9223372036854775807) : Det Tryz.prog M.length 57 [.slice A n c] M (.bool (chordB l)) M := by
  have hl := h.1
  first | (refine det_fn Tryz.func57 rfl Tryz.ntmps57 Tryz.results57 rfl rfl rfl (by simp) ?_) | (refine det_fnC Tryz.func57 rfl Tryz.ntmps57 Tryz.results57 rfl rfl (by simp) ?_)
  simp
  refine awLoop_T (fun m T M' => ∃ k : Nat, k + m = n ∧ M' = M ∧ ChOk l k ∧ look T 3 = some (iv k) ∧ look T 0 = some (.slice A n c)) n ⟨0, by omega, rfl, fun i hi => by omega, by simp, by simp⟩ ?_
  rintro m T M' ⟨k, hm, rfl, hok, t3, t0⟩
  by_cases hlt : k < n
  · have hlt' : (k : Int) < n := by omega
    obtain ⟨id, off, rfl, he, hc⟩ := h.at_ hlt
    have ld := pitch_load hc
    simp (disch := omega) [t3, t0, hlt, hlt', he, ld]
    refine awDraw_E 20 [[],[],[0,1],[2,0,1],[3,2,0,1],[4,3,2,0,1],[5,4,3,2,0,1],[6,5,4,3,2,0,1],[7,6,5,4,3,2,0,1],[8,7,6,5,4,3,2,0,1],[9,8,7,6,5,4,3,2,0,1],[9,8,7,6,5,4,3,2,0,1],[11,9,8,7,6,5,4,3,2,0,1],[10,9,8,7,6,5,4,3,2,0,1,12,11],[13,10,9,8,7,6,5,4,3,2,0,1,12,11],[14,13,10,9,8,7,6,5,4,3,2,0,1,12,11],[9,8,7,6,5,4,3,2,0,1],[9,8,7,6,5,4,3,2,0,1],[16,9,8,7,6,5,4,3,2,0,1,17],[18,16,9,8,7,6,5,4,3,2,0,1,17],[19,18,16,9,8,7,6,5,4,3,2,0,1,17,15,14,13,10,12,11],[15,14,13,10,9,8,7,6,5,4,3,2,0,1,12,11,20,19,18,16,17],[9,8,7,6,5,4,3,2,0,1,21,15,14,13,10,12,11,20,19,18,16,17],[6,5,4,3,2,0,1,22,9,8,7,21,15,14,13,10,12,11,20,19,18,16,17]] (by kernel_rfl) (by kernel_rfl) ?_
    simp (disch := omega) [t3, t0, hlt, hlt', he, ld]
    refine awCall_det' (l16Ok_s (el l k)) (by first | omega | simp) ?_
    by_cases h1 : pitchB (el l k) = true
    case neg =>
      simp (disch := omega) [t3, t0, h1]
      rw [chord_no (by omega) (fun e => absurd e h1) (fun e => absurd e h1)]
      simp [Keeps.refl]
    by_cases h2 : k = 0
    · subst h2
      simp (disch := omega) [t3, t0, h1, wrap_in]
      refine lpI (m - 1) (by omega) ⟨1, by omega, rfl, fun i hi => ?_, by simp, by simp [t0]⟩
      obtain rfl : i = 0 := by omega
      exact ⟨h1, fun h => by omega⟩
    · have h2' : (0 : Int) < k := by omega
      have h2'' : 0 < k := by omega
      obtain ⟨_, _, e', he', hc'⟩ := h.at_ (show k - 1 < n by omega)
      cases e'
      have ld' := pitch_load hc'
      have ei : ((k - 1 : Nat) : Int) = (k : Int) - 1 := by omega
      obtain ⟨p1, -⟩ := hok (k - 1) (by omega)
      obtain ⟨q1, q2, q3, q4⟩ := pitchB_r p1
      obtain ⟨r1, r2, r3, r4⟩ := pitchB_r h1
      simp (disch := omega) [t3, t0, h1, h2, h2', h2'', wrap_in, ld', he, ld]
      refine ⟨by omega, awCall_det' (l16Key_s _ q1 q2 q3) (by first | omega | simp) ?_⟩
      try simp (disch := omega) [t3, t0, h1, h2, h2', h2'', wrap_in, ld', he, ld, hlt']
      refine ⟨hlt, awCall_det' (l16Key_s _ r1 r2 r3) (by first | omega | simp) ?_⟩
      by_cases h3 : keyV (el l k) ≤ keyV (el l (k - 1))
      · simp (disch := omega) [t3, t0, h3]
        rw [chord_no (by omega) (fun _ _ => by omega) (fun _ => h2)]
        simp [Keeps.refl]
      · simp (disch := omega) [t3, t0, h3, wrap_in]
        refine lpI (m - 1) (by omega) ⟨k + 1, by omega, rfl, fun i hi => ?_, by simp, by simp [t0]⟩
        by_cases hik : i = k
        · subst hik; exact ⟨h1, fun _ => by omega⟩
        · exact hok i (by omega)
  · obtain rfl : k = n := by omega
    have e : chordB l = inB k 1 6 := by
      unfold chordB inB
      rw [decide_eq_true (by rw [hl]; exact hok), Bool.true_and]
      congr 1 <;> exact decide_eq_decide.2 (by omega)
    rw [e]
    by_cases g1 : (1 : Int) ≤ k
    · simp (disch := omega) [t3, t0, g1, inB, Keeps.refl]
    · simp (disch := omega) [t3, t0, g1, inB, Keeps.refl]
end Go.Proofs.YtodbjnngkonklaaGreatDoor

namespace Go.Proofs.YtodbjnngkonklaaGreatDoor
open Go.RowKit
set_option linter.unusedVariables false
set_option linter.unusedSimpArgs false
set_option maxRecDepth 100000
attribute [local simp] List.getElem?_cons_zero
attribute [local irreducible] awCond awCall awLoop awDraw ow retQ retC resQ Keeps
theorem str_addX {x y : ByteArray} (h : x.size + y.size ≤ 9223372036854775807) : strV .add x y = some (.string (x ++ y)) := by
  have e : IntKind.i64.max = 9223372036854775807 := rfl
  simp only [strV, e]
  rw [if_neg (by omega)]
theorem repB_zero (s : ByteArray) : repB s 0 = ⟨#[]⟩ := rfl
theorem repL_succ (l : List UInt8) : ∀ k, Lib.repeatL l (k + 1) = Lib.repeatL l k ++ l
  | 0 => by simp [Lib.repeatL]
  | k + 1 => by
    have h1 := repL_succ l k
    show l ++ Lib.repeatL l (k + 1) = (l ++ Lib.repeatL l k) ++ l
    rw [h1, List.append_assoc]
theorem repB_succ (s : ByteArray) (k : Nat) : repB s (k + 1) = repB s k ++ s := by
  unfold repB
  rw [repL_succ]
  apply ByteArray.ext
  apply Array.ext'
  simp [ByteArray.data_append]
theorem repB_size (s : ByteArray) : ∀ k, (repB s k).size = k * s.size
  | 0 => by rw [repB_zero, Nat.zero_mul]; rfl
  | k + 1 => by rw [repB_succ, ByteArray.size_append, repB_size s k, Nat.add_mul, Nat.one_mul]
theorem times_i {M : Mem} (s : ByteArray) (n : Int) (h1 : -100 ≤ n ∧ n ≤ 100) (hs : s.size ≤ 1000) : Det Tryz.prog M.length 68 [.string s, iv n] M (.string (repB s n.toNat)) M := by
  first | (refine det_fn Tryz.func68 rfl Tryz.ntmps68 Tryz.results68 rfl rfl rfl (by simp) ?_) | (refine det_fnC Tryz.func68 rfl Tryz.ntmps68 Tryz.results68 rfl rfl (by simp) ?_)
  simp
  have e : (Value.int IntKind.i64 (if 0 < n then n else 0)) = iv ((n.toNat : Nat) : Int) := by
    congr 1
    split <;> omega
  rw [e]
  refine awCall_det' (Repeat_a (b := M.length) s n.toNat (by omega) hs) (by omega) ?_
  exact ⟨rfl, Keeps.refl _⟩
set_option maxHeartbeats 1000000 in
theorem l16Times_s {M : Mem} (s : ByteArray) (n : Int) (h1 : -100 ≤ n ∧ n ≤ 100) (hs : s.size ≤ 1000) : Det Tryz.prog M.length 40 [.string s, iv n] M (.string (repB s n.toNat)) M := by
  first | (refine det_fn Tryz.func40 rfl Tryz.ntmps40 Tryz.results40 rfl rfl rfl (by simp) ?_) | (refine det_fnC Tryz.func40 rfl Tryz.ntmps40 Tryz.results40 rfl rfl (by simp) ?_)
  simp
  refine awLoop_T (fun m T M' => ∃ k : Nat, k + m = n.toNat ∧ M' = M ∧ look T 5 = some (.string (repB s k)) ∧ look T 0 = some (.string s) ∧ look T 1 = some (iv (if k = 0 then n else (m : Int)))) n.toNat ⟨0, by omega, rfl, by simp [repB_zero], by simp, by simp⟩ ?_
  rintro m T M' ⟨k, hm, rfl, t5, t0, t1⟩
  have hsz := repB_size s k
  have hks : k * s.size ≤ 100 * 1000 := Nat.mul_le_mul (by omega) hs
  rcases m with _ | m
  · obtain ⟨y, hy⟩ : ∃ y, y = (if k = 0 then n else ((0 : Nat) : Int)) := ⟨_, rfl⟩
    have hn0 : ¬ 0 < y := by rw [hy]; split <;> omega
    have hk : k = n.toNat := by omega
    rw [← hy] at t1
    simp (disch := omega) [t5, t0, t1, hn0, hk, Keeps.refl]
  · have hv : (if k = 0 then n else ((m + 1 : Nat) : Int)) = (m : Int) + 1 := by split <;> omega
    rw [hv] at t1
    have hp : (0 : Int) < (m : Int) + 1 := by omega
    simp (disch := omega) [t5, t0, t1, hp, wrap_in, str_addX]
    refine lpI m (by omega) ⟨k + 1, by omega, rfl, by simp [repB_succ], by simp [t0], by simp⟩
def stepB : ByteArray := ⟨#[99, 100, 101, 102, 103, 97, 98]⟩
def shB : ByteArray := ⟨#[35]⟩
def flB : ByteArray := ⟨#[98]⟩
def slB : ByteArray := ⟨#[47]⟩
theorem stepB_lit : (⟨#[99, 100, 101, 102, 103, 97, 98]⟩ : ByteArray) = stepB := rfl
theorem shB_lit : (⟨#[35]⟩ : ByteArray) = shB := rfl
theorem flB_lit : (⟨#[98]⟩ : ByteArray) = flB := rfl
theorem slB_lit : (⟨#[47]⟩ : ByteArray) = slB := rfl
theorem stepB_sz : stepB.size = 7 := rfl
theorem shB_sz : shB.size = 1 := rfl
theorem flB_sz : flB.size = 1 := rfl
theorem slB_sz : slB.size = 1 := rfl
def fracS (f : Frac) : ByteArray := if f.d = 1 then decS f.n else decS f.n ++ slB ++ decS f.d
def pitchS (p : Pitch) : ByteArray := stepB.extract p.s.toNat (p.s + 1).toNat ++ repB shB p.a.toNat ++ repB flB (-p.a).toNat ++ decS p.o
set_option maxHeartbeats 1000000 in
theorem FracText_i {M : Mem} (f : Frac) (hf : fracB f = true) : Det Tryz.prog M.length 48 [f.v] M (.string (fracS f)) M := by
  obtain ⟨f1, f2, -⟩ := fracB_iff.1 hf
  have z1 := decS_size f.n (by omega) (by omega)
  have z2 := decS_size f.d (by omega) (by omega)
  first | (refine det_fn Tryz.func48 rfl Tryz.ntmps48 Tryz.results48 rfl rfl rfl (by simp) ?_) | (refine det_fnC Tryz.func48 rfl Tryz.ntmps48 Tryz.results48 rfl rfl (by simp) ?_)
  simp
  refine awCall_det' (isFrac_i f) (by simp) ?_
  simp [hf]
  by_cases h1 : f.d = 1
  · simp [h1]
    refine awCall_det' (Decimal_a _ (by omega) (by omega)) (by simp) ?_
    simp [fracS, h1, keeps_app]
  · simp [h1]
    refine awDraw_E 7 [[],[0],[1,0],[2,1,0],[],[4],[5,4,2,1,0],[3,2,1,0,6,5,4],[7,3,2,1,0,6,5,4]] (by kernel_rfl) (by kernel_rfl) ?_
    simp
    refine awCall_det' (Decimal_a _ (by omega) (by omega)) (by simp) ?_
    simp (disch := first | omega | (simp only [ByteArray.size_append, slB_sz]; omega)) [slB_lit, str_addX]
    refine awCall_det' (Decimal_a _ (by omega) (by omega)) (by simp) ?_
    simp (disch := first | omega | (simp only [ByteArray.size_append, slB_sz]; omega)) [slB_lit, str_addX, fracS, h1, keeps_app]
set_option maxHeartbeats 1000000 in
theorem l02Text_s {M : Mem} (f : Frac) (hf : fracB f = true) : Det Tryz.prog M.length 19 [f.v] M (.string (fracS f)) M := by
  obtain ⟨f1, f2, -⟩ := fracB_iff.1 hf
  have z1 := decS_size f.n (by omega) (by omega)
  have z2 := decS_size f.d (by omega) (by omega)
  first | (refine det_fn Tryz.func19 rfl Tryz.ntmps19 Tryz.results19 rfl rfl rfl (by simp) ?_) | (refine det_fnC Tryz.func19 rfl Tryz.ntmps19 Tryz.results19 rfl rfl (by simp) ?_)
  simp
  by_cases h1 : f.d = 1
  · simp [h1]
    refine awCall_det' (l01Dec_a _ (by omega) (by omega)) (by simp) ?_
    simp [fracS, h1, keeps_app]
  · simp [h1]
    refine awDraw_E 7 [[],[0],[1,0],[2,1,0],[],[4],[5,4,2,1,0],[3,2,1,0,6,5,4],[7,3,2,1,0,6,5,4]] (by kernel_rfl) (by kernel_rfl) ?_
    simp
    refine awCall_det' (l01Dec_a _ (by omega) (by omega)) (by simp) ?_
    simp (disch := first | omega | (simp only [ByteArray.size_append, slB_sz]; omega)) [slB_lit, str_addX]
    refine awCall_det' (l01Dec_a _ (by omega) (by omega)) (by simp) ?_
    simp (disch := first | omega | (simp only [ByteArray.size_append, slB_sz]; omega)) [slB_lit, str_addX, fracS, h1, keeps_app]
theorem fracS_size {f : Frac} (hf : fracB f = true) : (fracS f).size ≤ 50 := by
  obtain ⟨f1, f2, -⟩ := fracB_iff.1 hf
  have z1 := decS_size f.n (by omega) (by omega)
  have z2 := decS_size f.d (by omega) (by omega)
  unfold fracS
  split
  · omega
  · simp only [ByteArray.size_append, slB_sz]; omega
theorem step_size (a : Int) (h : 0 ≤ a ∧ a ≤ 6) : (stepB.extract a.toNat (a + 1).toNat).size = 1 := by
  rw [ByteArray.size_extract, stepB_sz]
  omega
theorem pitch_parts {p : Pitch} (hp : pitchB p = true) : (stepB.extract p.s.toNat (p.s + 1).toNat).size = 1 ∧ (repB shB p.a.toNat).size ≤ 2 ∧ (repB flB (-p.a).toNat).size ≤ 2 ∧ (decS p.o).size ≤ 21 := by
  obtain ⟨p1, p2, p3, p4⟩ := pitchB_r hp
  have z3 := decS_size p.o (by omega) (by omega)
  refine ⟨step_size p.s p1, ?_, ?_, z3⟩
  · rw [repB_size, shB_sz]; omega
  · rw [repB_size, flB_sz]; omega
theorem pitchS_size {p : Pitch} (hp : pitchB p = true) : (pitchS p).size ≤ 30 := by
  obtain ⟨z1, z2, z3, z4⟩ := pitch_parts hp
  unfold pitchS
  simp only [ByteArray.size_append]
  omega
set_option maxHeartbeats 1000000 in
theorem PitchText_i {M : Mem} (p : Pitch) (hp : pitchB p = true) : Det Tryz.prog M.length 49 [p.v] M (.string (pitchS p)) M := by
  obtain ⟨p1, p2, p3, p4⟩ := pitchB_r hp
  obtain ⟨z1, z2, z3, z4⟩ := pitch_parts hp
  first | (refine det_fn Tryz.func49 rfl Tryz.ntmps49 Tryz.results49 rfl rfl rfl (by simp) ?_) | (refine det_fnC Tryz.func49 rfl Tryz.ntmps49 Tryz.results49 rfl rfl (by simp) ?_)
  simp
  refine awCall_det' (isPitch_i p) (by simp) ?_
  simp [hp]
  refine awDraw_E 18 [[],[0],[],[2],[3,2],[1,0,4,3,2],[],[6],[7,6],[5,1,0,4,3,2,8,7,6],[],[10],[11,10],[12,11,10,8,7,6],[9,5,1,0,4,3,2,8,7,6,13,12,11,10],[],[15],[16,15,13,12,11,10,8,7,6],[14,9,5,1,0,4,3,2,8,7,6,13,12,11,10,17,16,15],[18,14,9,5,1,0,4,3,2,8,7,6,13,12,11,10,17,16,15]] (by kernel_rfl) (by kernel_rfl) ?_
  simp (disch := omega) [wrap_in, stepB_lit, shB_lit, flB_lit]
  refine ⟨by rw [stepB_sz]; omega, awCall_det' (times_i shB p.a (by omega) (by rw [shB_sz]; omega)) (by simp) ?_⟩
  simp (disch := first | omega | (simp only [ByteArray.size_append]; omega)) [wrap_in, str_addX]
  refine awCall_det' (times_i flB (-p.a) (by omega) (by rw [flB_sz]; omega)) (by simp) ?_
  simp (disch := first | omega | (simp only [ByteArray.size_append]; omega)) [wrap_in, str_addX]
  refine awCall_det' (Decimal_a _ (by omega) (by omega)) (by simp) ?_
  simp (disch := first | omega | (simp only [ByteArray.size_append]; omega)) [wrap_in, str_addX, pitchS, keeps_app]
set_option maxHeartbeats 1000000 in
theorem l16Text_s {M : Mem} (p : Pitch) (hp : pitchB p = true) : Det Tryz.prog M.length 18 [p.v] M (.string (pitchS p)) M := by
  obtain ⟨p1, p2, p3, p4⟩ := pitchB_r hp
  obtain ⟨z1, z2, z3, z4⟩ := pitch_parts hp
  first | (refine det_fn Tryz.func18 rfl Tryz.ntmps18 Tryz.results18 rfl rfl rfl (by simp) ?_) | (refine det_fnC Tryz.func18 rfl Tryz.ntmps18 Tryz.results18 rfl rfl (by simp) ?_)
  simp
  refine awDraw_E 18 [[],[0],[],[2],[3,2],[1,0,4,3,2],[],[6],[7,6],[5,1,0,4,3,2,8,7,6],[],[10],[11,10],[12,11,10,8,7,6],[9,5,1,0,4,3,2,8,7,6,13,12,11,10],[],[15],[16,15,13,12,11,10,8,7,6],[14,9,5,1,0,4,3,2,8,7,6,13,12,11,10,17,16,15],[18,14,9,5,1,0,4,3,2,8,7,6,13,12,11,10,17,16,15]] (by kernel_rfl) (by kernel_rfl) ?_
  simp (disch := omega) [wrap_in, stepB_lit, shB_lit, flB_lit]
  refine ⟨by rw [stepB_sz]; omega, awCall_det' (l16Times_s shB p.a (by omega) (by rw [shB_sz]; omega)) (by simp) ?_⟩
  simp (disch := first | omega | (simp only [ByteArray.size_append]; omega)) [wrap_in, str_addX]
  refine awCall_det' (l16Times_s flB (-p.a) (by omega) (by rw [flB_sz]; omega)) (by simp) ?_
  simp (disch := first | omega | (simp only [ByteArray.size_append]; omega)) [wrap_in, str_addX]
  refine awCall_det' (l01Dec_a _ (by omega) (by omega)) (by simp) ?_
  simp (disch := first | omega | (simp only [ByteArray.size_append]; omega)) [wrap_in, str_addX, pitchS, keeps_app]
end Go.Proofs.YtodbjnngkonklaaGreatDoor

namespace Go.Proofs.YtodbjnngkonklaaGreatDoor
open Go.RowKit
set_option linter.unusedVariables false
set_option linter.unusedSimpArgs false
set_option maxRecDepth 100000
attribute [local simp] List.getElem?_cons_zero
attribute [local irreducible] awCond awCall awLoop awDraw ow retQ retC resQ Keeps
def augB : ByteArray := ⟨#[65]⟩
def dimB : ByteArray := ⟨#[100]⟩
def perB : ByteArray := ⟨#[80]⟩
def majB : ByteArray := ⟨#[77]⟩
def minB : ByteArray := ⟨#[109]⟩
def dshB : ByteArray := ⟨#[45]⟩
theorem augB_lit : (⟨#[65]⟩ : ByteArray) = augB := rfl
theorem dimB_lit : (⟨#[100]⟩ : ByteArray) = dimB := rfl
theorem perB_lit : (⟨#[80]⟩ : ByteArray) = perB := rfl
theorem majB_lit : (⟨#[77]⟩ : ByteArray) = majB := rfl
theorem minB_lit : (⟨#[109]⟩ : ByteArray) = minB := rfl
theorem dshB_lit : (⟨#[45]⟩ : ByteArray) = dshB := rfl
theorem augB_sz : augB.size = 1 := rfl
theorem dimB_sz : dimB.size = 1 := rfl
theorem dshB_sz : dshB.size = 1 := rfl
def perfB (s : Int) : Bool := decide (s % 7 = 0) || (decide (s % 7 = 3) || decide (s % 7 = 4))
def qualS (d s : Int) : ByteArray :=
  if 0 < d then repB augB d.toNat
  else if perfB s = true ∧ d = 0 then perB
  else if d = 0 then majB
  else if perfB s = true then repB dimB (-d).toNat
  else if d = -1 then minB
  else repB dimB (-d - 1).toNat
def nameS (i : Interval) : ByteArray := (if i.t < 0 then dshB else ⟨#[]⟩) ++ (qualS (overV i) (upI i).t ++ decS ((upI i).t + 1))
theorem qualS_size {d s : Int} (h : -3 ≤ d ∧ d ≤ 3) : (qualS d s).size ≤ 3 := by
  have z1 : perB.size = 1 := rfl
  have z2 : majB.size = 1 := rfl
  have z3 : minB.size = 1 := rfl
  unfold qualS
  repeat' split
  all_goals first | omega | (rw [repB_size]; first | (rw [augB_sz]; omega) | (rw [dimB_sz]; omega))
theorem intervalB_r {i : Interval} (h : intervalB i = true) : (-28 ≤ i.t ∧ i.t ≤ 28) ∧ (-100 ≤ i.h ∧ i.h ≤ 100) ∧ (-3 ≤ overV i ∧ overV i ≤ 3) ∧ (0 ≤ (upI i).t ∧ (upI i).t ≤ 28) := by
  unfold intervalB at h
  simp only [Bool.and_eq_true, inB_iff] at h
  refine ⟨h.1.1, h.1.2, h.2, ?_⟩
  unfold upI
  split <;> (try simp only) <;> omega
set_option maxHeartbeats 2000000 in
theorem quality_i {M : Mem} (i : Interval) (h0 : 0 ≤ i.t) (hi : intervalB i = true) : Det Tryz.prog M.length 52 [i.v] M (.string (qualS (overV i) (upI i).t)) M := by
  obtain ⟨i1, i2, i3, i4⟩ := intervalB_r hi
  have hov := over_pos (i := i) (by omega)
  have hup : (upI i).t = i.t := by unfold upI; rw [if_neg (by omega)]
  have hb := nat_bd i.t (by omega) (by omega)
  have e2 : i.t.tmod 7 = i.t % 7 := Int.tmod_eq_emod_of_nonneg h0
  rw [hup]
  first | (refine det_fn Tryz.func52 rfl Tryz.ntmps52 Tryz.results52 rfl rfl rfl (by simp) ?_) | (refine det_fnC Tryz.func52 rfl Tryz.ntmps52 Tryz.results52 rfl rfl (by simp) ?_)
  simp
  refine awDraw_E 5 [[],[0],[],[2],[3,2],[1,0,4,3,2],[5,1,0,4,3,2]] (by kernel_rfl) (by kernel_rfl) ?_
  simp (disch := omega) [wrap_in]
  refine awCall_det' (natural_i i.t (by omega) (by omega)) (by first | omega | simp) ?_
  simp (disch := omega) [wrap_in]
  rw [← hov]
  obtain ⟨d, hd⟩ : ∃ d, d = overV i := ⟨_, rfl⟩
  rw [← hd] at i3 ⊢
  obtain ⟨s, hs⟩ : ∃ s, s = i.t := ⟨_, rfl⟩
  rw [show qualS d i.t = qualS d s by rw [hs]]
  by_cases q0 : i.t % 7 = 0
  · have hp : perfB s = true := by unfold perfB; rw [hs]; simp [q0]
    try simp (disch := omega) [e2, q0]
    by_cases d1 : 0 < d
    · have e : qualS d s = repB augB (d).toNat := by unfold qualS; rw [if_pos d1]
      rw [e]
      simp (disch := omega) [d1, q0, e2, augB_lit, dimB_lit, perB_lit, majB_lit, minB_lit, wrap_in]
      refine awCall_det' (times_i augB (d) (by omega) (by rw [augB_sz]; omega)) (by first | omega | simp) ?_
      simp [keeps_app]
    by_cases d0 : d = 0
    · have e : qualS d s = perB := by unfold qualS; rw [if_neg d1, if_pos ⟨hp, d0⟩]
      rw [e]
      simp (disch := omega) [d0, q0, e2, augB_lit, dimB_lit, perB_lit, majB_lit, minB_lit, keeps_app]
    have e : qualS d s = repB dimB (-d).toNat := by unfold qualS; rw [if_neg d1, if_neg (fun h => d0 h.2), if_neg d0, if_pos hp]
    rw [e]
    simp (disch := omega) [d1, d0, q0, e2, augB_lit, dimB_lit, perB_lit, majB_lit, minB_lit, wrap_in]
    refine awCall_det' (times_i dimB (-d) (by omega) (by rw [dimB_sz]; omega)) (by first | omega | simp) ?_
    simp [keeps_app]
  by_cases q3 : i.t % 7 = 3
  · have hp : perfB s = true := by unfold perfB; rw [hs]; simp [q0, q3]
    try simp (disch := omega) [e2, q0, q3]
    by_cases d1 : 0 < d
    · have e : qualS d s = repB augB (d).toNat := by unfold qualS; rw [if_pos d1]
      rw [e]
      simp (disch := omega) [d1, q0, q3, e2, augB_lit, dimB_lit, perB_lit, majB_lit, minB_lit, wrap_in]
      refine awCall_det' (times_i augB (d) (by omega) (by rw [augB_sz]; omega)) (by first | omega | simp) ?_
      simp [keeps_app]
    by_cases d0 : d = 0
    · have e : qualS d s = perB := by unfold qualS; rw [if_neg d1, if_pos ⟨hp, d0⟩]
      rw [e]
      simp (disch := omega) [d0, q0, q3, e2, augB_lit, dimB_lit, perB_lit, majB_lit, minB_lit, keeps_app]
    have e : qualS d s = repB dimB (-d).toNat := by unfold qualS; rw [if_neg d1, if_neg (fun h => d0 h.2), if_neg d0, if_pos hp]
    rw [e]
    simp (disch := omega) [d1, d0, q0, q3, e2, augB_lit, dimB_lit, perB_lit, majB_lit, minB_lit, wrap_in]
    refine awCall_det' (times_i dimB (-d) (by omega) (by rw [dimB_sz]; omega)) (by first | omega | simp) ?_
    simp [keeps_app]
  by_cases q4 : i.t % 7 = 4
  · have hp : perfB s = true := by unfold perfB; rw [hs]; simp [q0, q3, q4]
    try simp (disch := omega) [e2, q0, q3, q4]
    by_cases d1 : 0 < d
    · have e : qualS d s = repB augB (d).toNat := by unfold qualS; rw [if_pos d1]
      rw [e]
      simp (disch := omega) [d1, q0, q3, q4, e2, augB_lit, dimB_lit, perB_lit, majB_lit, minB_lit, wrap_in]
      refine awCall_det' (times_i augB (d) (by omega) (by rw [augB_sz]; omega)) (by first | omega | simp) ?_
      simp [keeps_app]
    by_cases d0 : d = 0
    · have e : qualS d s = perB := by unfold qualS; rw [if_neg d1, if_pos ⟨hp, d0⟩]
      rw [e]
      simp (disch := omega) [d0, q0, q3, q4, e2, augB_lit, dimB_lit, perB_lit, majB_lit, minB_lit, keeps_app]
    have e : qualS d s = repB dimB (-d).toNat := by unfold qualS; rw [if_neg d1, if_neg (fun h => d0 h.2), if_neg d0, if_pos hp]
    rw [e]
    simp (disch := omega) [d1, d0, q0, q3, q4, e2, augB_lit, dimB_lit, perB_lit, majB_lit, minB_lit, wrap_in]
    refine awCall_det' (times_i dimB (-d) (by omega) (by rw [dimB_sz]; omega)) (by first | omega | simp) ?_
    simp [keeps_app]
  have hp : ¬ perfB s = true := by unfold perfB; rw [hs]; simp [q0, q3, q4]
  try simp (disch := omega) [e2, q0, q3, q4]
  by_cases d1 : 0 < d
  · have e : qualS d s = repB augB (d).toNat := by unfold qualS; rw [if_pos d1]
    rw [e]
    simp (disch := omega) [d1, q0, q3, q4, e2, augB_lit, dimB_lit, perB_lit, majB_lit, minB_lit, wrap_in]
    refine awCall_det' (times_i augB (d) (by omega) (by rw [augB_sz]; omega)) (by first | omega | simp) ?_
    simp [keeps_app]
  by_cases d0 : d = 0
  · have e : qualS d s = majB := by unfold qualS; rw [if_neg d1, if_neg (fun h => hp h.1), if_pos d0]
    rw [e]
    simp (disch := omega) [d0, q0, q3, q4, e2, augB_lit, dimB_lit, perB_lit, majB_lit, minB_lit, keeps_app]
  by_cases dm : d = -1
  · have e : qualS d s = minB := by unfold qualS; rw [if_neg d1, if_neg (fun h => hp h.1), if_neg d0, if_neg hp, if_pos dm]
    rw [e]
    simp (disch := omega) [dm, q0, q3, q4, e2, augB_lit, dimB_lit, perB_lit, majB_lit, minB_lit, keeps_app]
  have e : qualS d s = repB dimB (-d - 1).toNat := by unfold qualS; rw [if_neg d1, if_neg (fun h => hp h.1), if_neg d0, if_neg hp, if_neg dm]
  rw [e]
  simp (disch := omega) [d1, d0, dm, q0, q3, q4, e2, augB_lit, dimB_lit, perB_lit, majB_lit, minB_lit, wrap_in]
  refine awCall_det' (times_i dimB (-d - 1) (by omega) (by rw [dimB_sz]; omega)) (by first | omega | simp) ?_
  simp [keeps_app]
theorem opp_up {i : Interval} (h : i.t < 0) : upI ⟨-i.t, -i.h⟩ = upI i ∧ overV ⟨-i.t, -i.h⟩ = overV i := by
  have e : upI ⟨-i.t, -i.h⟩ = upI i := by
    unfold upI
    rw [if_neg (by simp only; omega), if_pos h]
  exact ⟨e, by unfold overV; rw [e]⟩
theorem opp_ok {i : Interval} (h : i.t < 0) (hi : intervalB i = true) : intervalB ⟨-i.t, -i.h⟩ = true := by
  have e := (opp_up h).2
  unfold intervalB at hi ⊢
  simp only [Bool.and_eq_true, inB_iff] at hi ⊢
  rw [e]
  exact ⟨⟨by omega, by omega⟩, hi.2⟩
theorem IntervalName_pos {M : Mem} (i : Interval) (h0 : 0 ≤ i.t) (hi : intervalB i = true) : Det Tryz.prog M.length 32 [i.v] M (.string (qualS (overV i) (upI i).t ++ decS ((upI i).t + 1))) M := by
  obtain ⟨i1, i2, i3, i4⟩ := intervalB_r hi
  have hup : (upI i).t = i.t := by unfold upI; rw [if_neg (by omega)]
  have hneg : ¬ i.t < 0 := by omega
  have z1 := qualS_size (s := i.t) i3
  have z2 := decS_size (i.t + 1) (by omega) (by omega)
  have hq := quality_i (M := M ++ [Slot.live ⟨[iv i.t, iv i.h], true, true, 40, 2⟩]) i h0 hi
  rw [hup] at hq ⊢
  first | (refine det_fn Tryz.func32 rfl Tryz.ntmps32 Tryz.results32 rfl rfl rfl (by simp) ?_) | (refine det_fnC Tryz.func32 rfl Tryz.ntmps32 Tryz.results32 rfl rfl (by simp) ?_)
  simp
  refine awCall_det' (isInterval_i i) (by first | omega | simp) ?_
  simp [hi, hneg]
  refine awDraw_E 5 [[],[0],[],[2],[3,2],[4,3,2,1,0],[1,0,5,4,3,2],[6,1,0,5,4,3,2]] (by kernel_rfl) (by kernel_rfl) ?_
  simp
  refine awCall_det' hq (by first | omega | simp) ?_
  simp (disch := omega) [wrap_in]
  refine awCall_det' (Decimal_a _ (by omega) (by omega)) (by first | omega | simp) ?_
  simp (disch := omega) [str_addX, hup, keeps_app]
theorem IntervalName_i {M : Mem} (i : Interval) (hi : intervalB i = true) : Det Tryz.prog M.length 32 [i.v] M (.string (nameS i)) M := by
  obtain ⟨i1, i2, i3, i4⟩ := intervalB_r hi
  by_cases hneg : i.t < 0
  · have z1 := qualS_size (s := (upI i).t) i3
    have z2 := decS_size ((upI i).t + 1) (by omega) (by omega)
    have hpos := IntervalName_pos (M := M ++ [Slot.live ⟨[iv i.t, iv i.h], true, true, 40, 2⟩]) ⟨-i.t, -i.h⟩ (by simp only; omega) (opp_ok hneg hi)
    rw [(opp_up hneg).1, (opp_up hneg).2] at hpos
    first | (refine det_fn Tryz.func32 rfl Tryz.ntmps32 Tryz.results32 rfl rfl rfl (by simp) ?_) | (refine det_fnC Tryz.func32 rfl Tryz.ntmps32 Tryz.results32 rfl rfl (by simp) ?_)
    simp
    refine awCall_det' (isInterval_i i) (by first | omega | simp) ?_
    simp [hi, hneg]
    refine awCall_det' (opposite_i i i1 i2) (by first | omega | simp) ?_
    try simp
    refine awCall_det' hpos (by first | omega | simp) ?_
    simp (disch := first | omega | (simp only [ByteArray.size_append, dshB_sz]; omega)) [dshB_lit, str_addX, nameS, hneg, keeps_app]
  · have := IntervalName_pos (M := M) i (by omega) hi
    have e : nameS i = qualS (overV i) (upI i).t ++ decS ((upI i).t + 1) := by
      unfold nameS
      rw [if_neg hneg]
      exact ByteArray.empty_append
    rw [e]
    exact this
theorem nameS_neg {i : Interval} (h : i.t < 0) : nameS i = dshB ++ (qualS (overV i) (upI i).t ++ decS ((upI i).t + 1)) := by unfold nameS; rw [if_pos h]
theorem nameS_pos {i : Interval} (h : ¬ i.t < 0) : nameS i = qualS (overV i) (upI i).t ++ decS ((upI i).t + 1) := by
  unfold nameS
  rw [if_neg h]
  exact ByteArray.empty_append
theorem perB_sz : perB.size = 1 := rfl
theorem majB_sz : majB.size = 1 := rfl
theorem minB_sz : minB.size = 1 := rfl
set_option maxHeartbeats 4000000 in
theorem l16Name_s {M : Mem} (i : Interval) (hi : intervalB i = true) : Det Tryz.prog M.length 21 [i.v] M (.string (nameS i)) M := by
  obtain ⟨i1, i2, i3, i4⟩ := intervalB_r hi
  have e2 : (upI i).t.tmod 7 = (upI i).t % 7 := Int.tmod_eq_emod_of_nonneg i4.1
  have z2 := decS_size ((upI i).t + 1) (by omega) (by omega)
  first | (refine det_fn Tryz.func21 rfl Tryz.ntmps21 Tryz.results21 rfl rfl rfl (by simp) ?_) | (refine det_fnC Tryz.func21 rfl Tryz.ntmps21 Tryz.results21 rfl rfl (by simp) ?_)
  simp
  refine awCall_det' (l16Over_s i i1 i2) (by first | omega | simp) ?_
  simp (disch := omega) [wrap_in]
  by_cases q0 : (upI i).t % 7 = 0
  · have hp : perfB (upI i).t = true := by unfold perfB; simp [q0]
    try simp (disch := omega) [e2, q0]
    by_cases d1 : 0 < (overV i)
    · have e : qualS (overV i) (upI i).t = repB augB ((overV i)).toNat := by unfold qualS; rw [if_pos d1]
      have zq := qualS_size (s := (upI i).t) i3
      rw [e] at zq
      by_cases hneg : i.t < 0
      · rw [nameS_neg hneg, e]
        simp (disch := omega) [d1, q0, e2, augB_lit, dimB_lit, perB_lit, majB_lit, minB_lit, wrap_in]
        refine awCall_det' (l16Times_s augB ((overV i)) (by omega) (by rw [augB_sz]; omega)) (by first | omega | simp) ?_
        simp (disch := first | omega | (simp only [ByteArray.size_append, dshB_sz]; omega)) [hneg, d1, q0, e2, augB_lit, dimB_lit, perB_lit, majB_lit, minB_lit, wrap_in, dshB_lit, str_addX]
        refine awCall_det' (l01Dec_a _ (by omega) (by omega)) (by first | omega | simp) ?_
        simp (disch := first | omega | (simp only [ByteArray.size_append, dshB_sz, perB_sz, majB_sz, minB_sz]; omega)) [hneg, str_addX, ByteArray.append_assoc, keeps_app]
      · rw [nameS_pos hneg, e]
        simp (disch := omega) [d1, q0, e2, augB_lit, dimB_lit, perB_lit, majB_lit, minB_lit, wrap_in]
        refine awCall_det' (l16Times_s augB ((overV i)) (by omega) (by rw [augB_sz]; omega)) (by first | omega | simp) ?_
        simp (disch := first | omega | (simp only [ByteArray.size_append, dshB_sz]; omega)) [hneg, d1, q0, e2, augB_lit, dimB_lit, perB_lit, majB_lit, minB_lit, wrap_in, dshB_lit, str_addX]
        refine awCall_det' (l01Dec_a _ (by omega) (by omega)) (by first | omega | simp) ?_
        simp (disch := first | omega | (simp only [ByteArray.size_append, dshB_sz, perB_sz, majB_sz, minB_sz]; omega)) [hneg, str_addX, ByteArray.append_assoc, keeps_app]
    by_cases d0 : (overV i) = 0
    · have e : qualS (overV i) (upI i).t = perB := by unfold qualS; rw [if_neg d1, if_pos ⟨hp, d0⟩]
      have zq := qualS_size (s := (upI i).t) i3
      rw [e] at zq
      by_cases hneg : i.t < 0
      · rw [nameS_neg hneg, e]
        simp (disch := first | omega | (simp only [ByteArray.size_append, dshB_sz, perB_sz, majB_sz, minB_sz]; omega)) [hneg, d0, q0, e2, augB_lit, dimB_lit, perB_lit, majB_lit, minB_lit, wrap_in, dshB_lit, str_addX]
        refine awCall_det' (l01Dec_a _ (by omega) (by omega)) (by first | omega | simp) ?_
        simp (disch := first | omega | (simp only [ByteArray.size_append, dshB_sz, perB_sz, majB_sz, minB_sz]; omega)) [hneg, str_addX, ByteArray.append_assoc, keeps_app]
      · rw [nameS_pos hneg, e]
        simp (disch := first | omega | (simp only [ByteArray.size_append, dshB_sz, perB_sz, majB_sz, minB_sz]; omega)) [hneg, d0, q0, e2, augB_lit, dimB_lit, perB_lit, majB_lit, minB_lit, wrap_in, dshB_lit, str_addX]
        refine awCall_det' (l01Dec_a _ (by omega) (by omega)) (by first | omega | simp) ?_
        simp (disch := first | omega | (simp only [ByteArray.size_append, dshB_sz, perB_sz, majB_sz, minB_sz]; omega)) [hneg, str_addX, ByteArray.append_assoc, keeps_app]
    have e : qualS (overV i) (upI i).t = repB dimB (-(overV i)).toNat := by unfold qualS; rw [if_neg d1, if_neg (fun h => d0 h.2), if_neg d0, if_pos hp]
    have zq := qualS_size (s := (upI i).t) i3
    rw [e] at zq
    by_cases hneg : i.t < 0
    · rw [nameS_neg hneg, e]
      simp (disch := omega) [d1, d0, q0, e2, augB_lit, dimB_lit, perB_lit, majB_lit, minB_lit, wrap_in]
      refine awCall_det' (l16Times_s dimB (-(overV i)) (by omega) (by rw [dimB_sz]; omega)) (by first | omega | simp) ?_
      simp (disch := first | omega | (simp only [ByteArray.size_append, dshB_sz]; omega)) [hneg, d1, d0, q0, e2, augB_lit, dimB_lit, perB_lit, majB_lit, minB_lit, wrap_in, dshB_lit, str_addX]
      refine awCall_det' (l01Dec_a _ (by omega) (by omega)) (by first | omega | simp) ?_
      simp (disch := first | omega | (simp only [ByteArray.size_append, dshB_sz, perB_sz, majB_sz, minB_sz]; omega)) [hneg, str_addX, ByteArray.append_assoc, keeps_app]
    · rw [nameS_pos hneg, e]
      simp (disch := omega) [d1, d0, q0, e2, augB_lit, dimB_lit, perB_lit, majB_lit, minB_lit, wrap_in]
      refine awCall_det' (l16Times_s dimB (-(overV i)) (by omega) (by rw [dimB_sz]; omega)) (by first | omega | simp) ?_
      simp (disch := first | omega | (simp only [ByteArray.size_append, dshB_sz]; omega)) [hneg, d1, d0, q0, e2, augB_lit, dimB_lit, perB_lit, majB_lit, minB_lit, wrap_in, dshB_lit, str_addX]
      refine awCall_det' (l01Dec_a _ (by omega) (by omega)) (by first | omega | simp) ?_
      simp (disch := first | omega | (simp only [ByteArray.size_append, dshB_sz, perB_sz, majB_sz, minB_sz]; omega)) [hneg, str_addX, ByteArray.append_assoc, keeps_app]
  by_cases q3 : (upI i).t % 7 = 3
  · have hp : perfB (upI i).t = true := by unfold perfB; simp [q0, q3]
    try simp (disch := omega) [e2, q0, q3]
    by_cases d1 : 0 < (overV i)
    · have e : qualS (overV i) (upI i).t = repB augB ((overV i)).toNat := by unfold qualS; rw [if_pos d1]
      have zq := qualS_size (s := (upI i).t) i3
      rw [e] at zq
      by_cases hneg : i.t < 0
      · rw [nameS_neg hneg, e]
        simp (disch := omega) [d1, q0, q3, e2, augB_lit, dimB_lit, perB_lit, majB_lit, minB_lit, wrap_in]
        refine awCall_det' (l16Times_s augB ((overV i)) (by omega) (by rw [augB_sz]; omega)) (by first | omega | simp) ?_
        simp (disch := first | omega | (simp only [ByteArray.size_append, dshB_sz]; omega)) [hneg, d1, q0, q3, e2, augB_lit, dimB_lit, perB_lit, majB_lit, minB_lit, wrap_in, dshB_lit, str_addX]
        refine awCall_det' (l01Dec_a _ (by omega) (by omega)) (by first | omega | simp) ?_
        simp (disch := first | omega | (simp only [ByteArray.size_append, dshB_sz, perB_sz, majB_sz, minB_sz]; omega)) [hneg, str_addX, ByteArray.append_assoc, keeps_app]
      · rw [nameS_pos hneg, e]
        simp (disch := omega) [d1, q0, q3, e2, augB_lit, dimB_lit, perB_lit, majB_lit, minB_lit, wrap_in]
        refine awCall_det' (l16Times_s augB ((overV i)) (by omega) (by rw [augB_sz]; omega)) (by first | omega | simp) ?_
        simp (disch := first | omega | (simp only [ByteArray.size_append, dshB_sz]; omega)) [hneg, d1, q0, q3, e2, augB_lit, dimB_lit, perB_lit, majB_lit, minB_lit, wrap_in, dshB_lit, str_addX]
        refine awCall_det' (l01Dec_a _ (by omega) (by omega)) (by first | omega | simp) ?_
        simp (disch := first | omega | (simp only [ByteArray.size_append, dshB_sz, perB_sz, majB_sz, minB_sz]; omega)) [hneg, str_addX, ByteArray.append_assoc, keeps_app]
    by_cases d0 : (overV i) = 0
    · have e : qualS (overV i) (upI i).t = perB := by unfold qualS; rw [if_neg d1, if_pos ⟨hp, d0⟩]
      have zq := qualS_size (s := (upI i).t) i3
      rw [e] at zq
      by_cases hneg : i.t < 0
      · rw [nameS_neg hneg, e]
        simp (disch := first | omega | (simp only [ByteArray.size_append, dshB_sz, perB_sz, majB_sz, minB_sz]; omega)) [hneg, d0, q0, q3, e2, augB_lit, dimB_lit, perB_lit, majB_lit, minB_lit, wrap_in, dshB_lit, str_addX]
        refine awCall_det' (l01Dec_a _ (by omega) (by omega)) (by first | omega | simp) ?_
        simp (disch := first | omega | (simp only [ByteArray.size_append, dshB_sz, perB_sz, majB_sz, minB_sz]; omega)) [hneg, str_addX, ByteArray.append_assoc, keeps_app]
      · rw [nameS_pos hneg, e]
        simp (disch := first | omega | (simp only [ByteArray.size_append, dshB_sz, perB_sz, majB_sz, minB_sz]; omega)) [hneg, d0, q0, q3, e2, augB_lit, dimB_lit, perB_lit, majB_lit, minB_lit, wrap_in, dshB_lit, str_addX]
        refine awCall_det' (l01Dec_a _ (by omega) (by omega)) (by first | omega | simp) ?_
        simp (disch := first | omega | (simp only [ByteArray.size_append, dshB_sz, perB_sz, majB_sz, minB_sz]; omega)) [hneg, str_addX, ByteArray.append_assoc, keeps_app]
    have e : qualS (overV i) (upI i).t = repB dimB (-(overV i)).toNat := by unfold qualS; rw [if_neg d1, if_neg (fun h => d0 h.2), if_neg d0, if_pos hp]
    have zq := qualS_size (s := (upI i).t) i3
    rw [e] at zq
    by_cases hneg : i.t < 0
    · rw [nameS_neg hneg, e]
      simp (disch := omega) [d1, d0, q0, q3, e2, augB_lit, dimB_lit, perB_lit, majB_lit, minB_lit, wrap_in]
      refine awCall_det' (l16Times_s dimB (-(overV i)) (by omega) (by rw [dimB_sz]; omega)) (by first | omega | simp) ?_
      simp (disch := first | omega | (simp only [ByteArray.size_append, dshB_sz]; omega)) [hneg, d1, d0, q0, q3, e2, augB_lit, dimB_lit, perB_lit, majB_lit, minB_lit, wrap_in, dshB_lit, str_addX]
      refine awCall_det' (l01Dec_a _ (by omega) (by omega)) (by first | omega | simp) ?_
      simp (disch := first | omega | (simp only [ByteArray.size_append, dshB_sz, perB_sz, majB_sz, minB_sz]; omega)) [hneg, str_addX, ByteArray.append_assoc, keeps_app]
    · rw [nameS_pos hneg, e]
      simp (disch := omega) [d1, d0, q0, q3, e2, augB_lit, dimB_lit, perB_lit, majB_lit, minB_lit, wrap_in]
      refine awCall_det' (l16Times_s dimB (-(overV i)) (by omega) (by rw [dimB_sz]; omega)) (by first | omega | simp) ?_
      simp (disch := first | omega | (simp only [ByteArray.size_append, dshB_sz]; omega)) [hneg, d1, d0, q0, q3, e2, augB_lit, dimB_lit, perB_lit, majB_lit, minB_lit, wrap_in, dshB_lit, str_addX]
      refine awCall_det' (l01Dec_a _ (by omega) (by omega)) (by first | omega | simp) ?_
      simp (disch := first | omega | (simp only [ByteArray.size_append, dshB_sz, perB_sz, majB_sz, minB_sz]; omega)) [hneg, str_addX, ByteArray.append_assoc, keeps_app]
  by_cases q4 : (upI i).t % 7 = 4
  · have hp : perfB (upI i).t = true := by unfold perfB; simp [q0, q3, q4]
    try simp (disch := omega) [e2, q0, q3, q4]
    by_cases d1 : 0 < (overV i)
    · have e : qualS (overV i) (upI i).t = repB augB ((overV i)).toNat := by unfold qualS; rw [if_pos d1]
      have zq := qualS_size (s := (upI i).t) i3
      rw [e] at zq
      by_cases hneg : i.t < 0
      · rw [nameS_neg hneg, e]
        simp (disch := omega) [d1, q0, q3, q4, e2, augB_lit, dimB_lit, perB_lit, majB_lit, minB_lit, wrap_in]
        refine awCall_det' (l16Times_s augB ((overV i)) (by omega) (by rw [augB_sz]; omega)) (by first | omega | simp) ?_
        simp (disch := first | omega | (simp only [ByteArray.size_append, dshB_sz]; omega)) [hneg, d1, q0, q3, q4, e2, augB_lit, dimB_lit, perB_lit, majB_lit, minB_lit, wrap_in, dshB_lit, str_addX]
        refine awCall_det' (l01Dec_a _ (by omega) (by omega)) (by first | omega | simp) ?_
        simp (disch := first | omega | (simp only [ByteArray.size_append, dshB_sz, perB_sz, majB_sz, minB_sz]; omega)) [hneg, str_addX, ByteArray.append_assoc, keeps_app]
      · rw [nameS_pos hneg, e]
        simp (disch := omega) [d1, q0, q3, q4, e2, augB_lit, dimB_lit, perB_lit, majB_lit, minB_lit, wrap_in]
        refine awCall_det' (l16Times_s augB ((overV i)) (by omega) (by rw [augB_sz]; omega)) (by first | omega | simp) ?_
        simp (disch := first | omega | (simp only [ByteArray.size_append, dshB_sz]; omega)) [hneg, d1, q0, q3, q4, e2, augB_lit, dimB_lit, perB_lit, majB_lit, minB_lit, wrap_in, dshB_lit, str_addX]
        refine awCall_det' (l01Dec_a _ (by omega) (by omega)) (by first | omega | simp) ?_
        simp (disch := first | omega | (simp only [ByteArray.size_append, dshB_sz, perB_sz, majB_sz, minB_sz]; omega)) [hneg, str_addX, ByteArray.append_assoc, keeps_app]
    by_cases d0 : (overV i) = 0
    · have e : qualS (overV i) (upI i).t = perB := by unfold qualS; rw [if_neg d1, if_pos ⟨hp, d0⟩]
      have zq := qualS_size (s := (upI i).t) i3
      rw [e] at zq
      by_cases hneg : i.t < 0
      · rw [nameS_neg hneg, e]
        simp (disch := first | omega | (simp only [ByteArray.size_append, dshB_sz, perB_sz, majB_sz, minB_sz]; omega)) [hneg, d0, q0, q3, q4, e2, augB_lit, dimB_lit, perB_lit, majB_lit, minB_lit, wrap_in, dshB_lit, str_addX]
        refine awCall_det' (l01Dec_a _ (by omega) (by omega)) (by first | omega | simp) ?_
        simp (disch := first | omega | (simp only [ByteArray.size_append, dshB_sz, perB_sz, majB_sz, minB_sz]; omega)) [hneg, str_addX, ByteArray.append_assoc, keeps_app]
      · rw [nameS_pos hneg, e]
        simp (disch := first | omega | (simp only [ByteArray.size_append, dshB_sz, perB_sz, majB_sz, minB_sz]; omega)) [hneg, d0, q0, q3, q4, e2, augB_lit, dimB_lit, perB_lit, majB_lit, minB_lit, wrap_in, dshB_lit, str_addX]
        refine awCall_det' (l01Dec_a _ (by omega) (by omega)) (by first | omega | simp) ?_
        simp (disch := first | omega | (simp only [ByteArray.size_append, dshB_sz, perB_sz, majB_sz, minB_sz]; omega)) [hneg, str_addX, ByteArray.append_assoc, keeps_app]
    have e : qualS (overV i) (upI i).t = repB dimB (-(overV i)).toNat := by unfold qualS; rw [if_neg d1, if_neg (fun h => d0 h.2), if_neg d0, if_pos hp]
    have zq := qualS_size (s := (upI i).t) i3
    rw [e] at zq
    by_cases hneg : i.t < 0
    · rw [nameS_neg hneg, e]
      simp (disch := omega) [d1, d0, q0, q3, q4, e2, augB_lit, dimB_lit, perB_lit, majB_lit, minB_lit, wrap_in]
      refine awCall_det' (l16Times_s dimB (-(overV i)) (by omega) (by rw [dimB_sz]; omega)) (by first | omega | simp) ?_
      simp (disch := first | omega | (simp only [ByteArray.size_append, dshB_sz]; omega)) [hneg, d1, d0, q0, q3, q4, e2, augB_lit, dimB_lit, perB_lit, majB_lit, minB_lit, wrap_in, dshB_lit, str_addX]
      refine awCall_det' (l01Dec_a _ (by omega) (by omega)) (by first | omega | simp) ?_
      simp (disch := first | omega | (simp only [ByteArray.size_append, dshB_sz, perB_sz, majB_sz, minB_sz]; omega)) [hneg, str_addX, ByteArray.append_assoc, keeps_app]
    · rw [nameS_pos hneg, e]
      simp (disch := omega) [d1, d0, q0, q3, q4, e2, augB_lit, dimB_lit, perB_lit, majB_lit, minB_lit, wrap_in]
      refine awCall_det' (l16Times_s dimB (-(overV i)) (by omega) (by rw [dimB_sz]; omega)) (by first | omega | simp) ?_
      simp (disch := first | omega | (simp only [ByteArray.size_append, dshB_sz]; omega)) [hneg, d1, d0, q0, q3, q4, e2, augB_lit, dimB_lit, perB_lit, majB_lit, minB_lit, wrap_in, dshB_lit, str_addX]
      refine awCall_det' (l01Dec_a _ (by omega) (by omega)) (by first | omega | simp) ?_
      simp (disch := first | omega | (simp only [ByteArray.size_append, dshB_sz, perB_sz, majB_sz, minB_sz]; omega)) [hneg, str_addX, ByteArray.append_assoc, keeps_app]
  have hp : ¬ perfB (upI i).t = true := by unfold perfB; simp [q0, q3, q4]
  try simp (disch := omega) [e2, q0, q3, q4]
  by_cases d1 : 0 < (overV i)
  · have e : qualS (overV i) (upI i).t = repB augB ((overV i)).toNat := by unfold qualS; rw [if_pos d1]
    have zq := qualS_size (s := (upI i).t) i3
    rw [e] at zq
    by_cases hneg : i.t < 0
    · rw [nameS_neg hneg, e]
      simp (disch := omega) [d1, q0, q3, q4, e2, augB_lit, dimB_lit, perB_lit, majB_lit, minB_lit, wrap_in]
      refine awCall_det' (l16Times_s augB ((overV i)) (by omega) (by rw [augB_sz]; omega)) (by first | omega | simp) ?_
      simp (disch := first | omega | (simp only [ByteArray.size_append, dshB_sz]; omega)) [hneg, d1, q0, q3, q4, e2, augB_lit, dimB_lit, perB_lit, majB_lit, minB_lit, wrap_in, dshB_lit, str_addX]
      refine awCall_det' (l01Dec_a _ (by omega) (by omega)) (by first | omega | simp) ?_
      simp (disch := first | omega | (simp only [ByteArray.size_append, dshB_sz, perB_sz, majB_sz, minB_sz]; omega)) [hneg, str_addX, ByteArray.append_assoc, keeps_app]
    · rw [nameS_pos hneg, e]
      simp (disch := omega) [d1, q0, q3, q4, e2, augB_lit, dimB_lit, perB_lit, majB_lit, minB_lit, wrap_in]
      refine awCall_det' (l16Times_s augB ((overV i)) (by omega) (by rw [augB_sz]; omega)) (by first | omega | simp) ?_
      simp (disch := first | omega | (simp only [ByteArray.size_append, dshB_sz]; omega)) [hneg, d1, q0, q3, q4, e2, augB_lit, dimB_lit, perB_lit, majB_lit, minB_lit, wrap_in, dshB_lit, str_addX]
      refine awCall_det' (l01Dec_a _ (by omega) (by omega)) (by first | omega | simp) ?_
      simp (disch := first | omega | (simp only [ByteArray.size_append, dshB_sz, perB_sz, majB_sz, minB_sz]; omega)) [hneg, str_addX, ByteArray.append_assoc, keeps_app]
  by_cases d0 : (overV i) = 0
  · have e : qualS (overV i) (upI i).t = majB := by unfold qualS; rw [if_neg d1, if_neg (fun h => hp h.1), if_pos d0]
    have zq := qualS_size (s := (upI i).t) i3
    rw [e] at zq
    by_cases hneg : i.t < 0
    · rw [nameS_neg hneg, e]
      simp (disch := first | omega | (simp only [ByteArray.size_append, dshB_sz, perB_sz, majB_sz, minB_sz]; omega)) [hneg, d0, q0, q3, q4, e2, augB_lit, dimB_lit, perB_lit, majB_lit, minB_lit, wrap_in, dshB_lit, str_addX]
      refine awCall_det' (l01Dec_a _ (by omega) (by omega)) (by first | omega | simp) ?_
      simp (disch := first | omega | (simp only [ByteArray.size_append, dshB_sz, perB_sz, majB_sz, minB_sz]; omega)) [hneg, str_addX, ByteArray.append_assoc, keeps_app]
    · rw [nameS_pos hneg, e]
      simp (disch := first | omega | (simp only [ByteArray.size_append, dshB_sz, perB_sz, majB_sz, minB_sz]; omega)) [hneg, d0, q0, q3, q4, e2, augB_lit, dimB_lit, perB_lit, majB_lit, minB_lit, wrap_in, dshB_lit, str_addX]
      refine awCall_det' (l01Dec_a _ (by omega) (by omega)) (by first | omega | simp) ?_
      simp (disch := first | omega | (simp only [ByteArray.size_append, dshB_sz, perB_sz, majB_sz, minB_sz]; omega)) [hneg, str_addX, ByteArray.append_assoc, keeps_app]
  by_cases dm : (overV i) = -1
  · have e : qualS (overV i) (upI i).t = minB := by unfold qualS; rw [if_neg d1, if_neg (fun h => hp h.1), if_neg d0, if_neg hp, if_pos dm]
    have zq := qualS_size (s := (upI i).t) i3
    rw [e] at zq
    by_cases hneg : i.t < 0
    · rw [nameS_neg hneg, e]
      simp (disch := first | omega | (simp only [ByteArray.size_append, dshB_sz, perB_sz, majB_sz, minB_sz]; omega)) [hneg, dm, q0, q3, q4, e2, augB_lit, dimB_lit, perB_lit, majB_lit, minB_lit, wrap_in, dshB_lit, str_addX]
      refine awCall_det' (l01Dec_a _ (by omega) (by omega)) (by first | omega | simp) ?_
      simp (disch := first | omega | (simp only [ByteArray.size_append, dshB_sz, perB_sz, majB_sz, minB_sz]; omega)) [hneg, str_addX, ByteArray.append_assoc, keeps_app]
    · rw [nameS_pos hneg, e]
      simp (disch := first | omega | (simp only [ByteArray.size_append, dshB_sz, perB_sz, majB_sz, minB_sz]; omega)) [hneg, dm, q0, q3, q4, e2, augB_lit, dimB_lit, perB_lit, majB_lit, minB_lit, wrap_in, dshB_lit, str_addX]
      refine awCall_det' (l01Dec_a _ (by omega) (by omega)) (by first | omega | simp) ?_
      simp (disch := first | omega | (simp only [ByteArray.size_append, dshB_sz, perB_sz, majB_sz, minB_sz]; omega)) [hneg, str_addX, ByteArray.append_assoc, keeps_app]
  rcases (show (overV i) = -2 ∨ (overV i) = -3 by omega) with d2 | d2
  · have e : qualS (overV i) (upI i).t = repB dimB 1 := by unfold qualS; rw [if_neg d1, if_neg (fun h => hp h.1), if_neg d0, if_neg hp, if_neg dm, d2]; rfl
    have zq := qualS_size (s := (upI i).t) i3
    rw [e] at zq
    by_cases hneg : i.t < 0
    · rw [nameS_neg hneg, e]
      simp (disch := omega) [d2, q0, q3, q4, e2, augB_lit, dimB_lit, perB_lit, majB_lit, minB_lit, wrap_in]
      refine awCall_det' (l16Times_s dimB 1 (by omega) (by rw [dimB_sz]; omega)) (by first | omega | simp) ?_
      simp (disch := first | omega | (simp only [ByteArray.size_append, dshB_sz]; omega)) [hneg, d2, q0, q3, q4, e2, augB_lit, dimB_lit, perB_lit, majB_lit, minB_lit, wrap_in, dshB_lit, str_addX]
      refine awCall_det' (l01Dec_a _ (by omega) (by omega)) (by first | omega | simp) ?_
      simp (disch := first | omega | (simp only [ByteArray.size_append, dshB_sz, perB_sz, majB_sz, minB_sz]; omega)) [hneg, str_addX, ByteArray.append_assoc, keeps_app]
    · rw [nameS_pos hneg, e]
      simp (disch := omega) [d2, q0, q3, q4, e2, augB_lit, dimB_lit, perB_lit, majB_lit, minB_lit, wrap_in]
      refine awCall_det' (l16Times_s dimB 1 (by omega) (by rw [dimB_sz]; omega)) (by first | omega | simp) ?_
      simp (disch := first | omega | (simp only [ByteArray.size_append, dshB_sz]; omega)) [hneg, d2, q0, q3, q4, e2, augB_lit, dimB_lit, perB_lit, majB_lit, minB_lit, wrap_in, dshB_lit, str_addX]
      refine awCall_det' (l01Dec_a _ (by omega) (by omega)) (by first | omega | simp) ?_
      simp (disch := first | omega | (simp only [ByteArray.size_append, dshB_sz, perB_sz, majB_sz, minB_sz]; omega)) [hneg, str_addX, ByteArray.append_assoc, keeps_app]
  · have e : qualS (overV i) (upI i).t = repB dimB 2 := by unfold qualS; rw [if_neg d1, if_neg (fun h => hp h.1), if_neg d0, if_neg hp, if_neg dm, d2]; rfl
    have zq := qualS_size (s := (upI i).t) i3
    rw [e] at zq
    by_cases hneg : i.t < 0
    · rw [nameS_neg hneg, e]
      simp (disch := omega) [d2, q0, q3, q4, e2, augB_lit, dimB_lit, perB_lit, majB_lit, minB_lit, wrap_in]
      refine awCall_det' (l16Times_s dimB 2 (by omega) (by rw [dimB_sz]; omega)) (by first | omega | simp) ?_
      simp (disch := first | omega | (simp only [ByteArray.size_append, dshB_sz]; omega)) [hneg, d2, q0, q3, q4, e2, augB_lit, dimB_lit, perB_lit, majB_lit, minB_lit, wrap_in, dshB_lit, str_addX]
      refine awCall_det' (l01Dec_a _ (by omega) (by omega)) (by first | omega | simp) ?_
      simp (disch := first | omega | (simp only [ByteArray.size_append, dshB_sz, perB_sz, majB_sz, minB_sz]; omega)) [hneg, str_addX, ByteArray.append_assoc, keeps_app]
    · rw [nameS_pos hneg, e]
      simp (disch := omega) [d2, q0, q3, q4, e2, augB_lit, dimB_lit, perB_lit, majB_lit, minB_lit, wrap_in]
      refine awCall_det' (l16Times_s dimB 2 (by omega) (by rw [dimB_sz]; omega)) (by first | omega | simp) ?_
      simp (disch := first | omega | (simp only [ByteArray.size_append, dshB_sz]; omega)) [hneg, d2, q0, q3, q4, e2, augB_lit, dimB_lit, perB_lit, majB_lit, minB_lit, wrap_in, dshB_lit, str_addX]
      refine awCall_det' (l01Dec_a _ (by omega) (by omega)) (by first | omega | simp) ?_
      simp (disch := first | omega | (simp only [ByteArray.size_append, dshB_sz, perB_sz, majB_sz, minB_sz]; omega)) [hneg, str_addX, ByteArray.append_assoc, keeps_app]
end Go.Proofs.YtodbjnngkonklaaGreatDoor
