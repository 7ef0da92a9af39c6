/- Plain lemmas on fades: what the functions compute, on lists of integers. -/
import Derived.Test.YthopcmglcnlcfaaOWin
namespace Go.Proofs.Ythopcmglcnlcfaa.Old
open Go.RowKit
set_option linter.unusedVariables false
set_option maxRecDepth 100000
set_option linter.unusedSimpArgs false

def sigB (l : List Int) : Bool := decide (l.length ≤ 4000) && allB sampB l
theorem allB_get {p : Int → Bool} {l : List Int} (h : allB p l = true) {k : Nat} (hk : k < l.length) : p (gi l k) = true := by
  unfold allB at h
  rw [List.all_eq_true] at h
  have := h _ (List.getElem_mem hk)
  rwa [gi_eq hk] at this
theorem sigB_len {l : List Int} (h : sigB l = true) : l.length ≤ 4000 := by
  unfold sigB at h
  simp only [Bool.and_eq_true, decide_eq_true_eq] at h
  exact h.1
theorem sigB_get {l : List Int} (h : sigB l = true) {k : Nat} (hk : k < l.length) : -2147483648 ≤ gi l k ∧ gi l k ≤ 2147483647 := by
  unfold sigB at h
  simp only [Bool.and_eq_true, decide_eq_true_eq] at h
  exact inB_iff.1 (allB_get h.2 hk)
theorem winB_len {l : List Int} (h : winB l = true) : 1 ≤ l.length ∧ l.length ≤ 256 := by
  unfold winB at h
  simp only [Bool.and_eq_true] at h
  have := inB_iff.1 h.2
  omega
theorem winB_get {l : List Int} (h : winB l = true) {k : Nat} (hk : k < l.length) : 0 ≤ gi l k ∧ gi l k ≤ 256 := by
  unfold winB at h
  simp only [Bool.and_eq_true] at h
  exact inB_iff.1 (allB_get h.1 hk)

theorem mulw_bd {x v : Int} (h1 : -2147483648 ≤ x) (h2 : x ≤ 2147483647) (h3 : 0 ≤ v) (h4 : v ≤ 256) : -549755813888 ≤ x * v ∧ x * v ≤ 549755813888 := by
  constructor
  · have a := Int.mul_le_mul_of_nonneg_right h1 h3
    have b : -2147483648 * 256 ≤ -2147483648 * v := by omega
    omega
  · have a := Int.mul_le_mul_of_nonneg_right h2 h3
    omega

def fl (z : Int) : Int := z / 256
theorem fl_yes (z : Int) (h : z.tmod 256 < 0) : z.tdiv 256 - 1 = fl z := by
  unfold fl
  have h1 := Int.mul_tdiv_add_tmod z 256
  have h2 := Int.tmod_lt_of_pos z (show (0 : Int) < 256 by omega)
  have h3 : -256 < z.tmod 256 := by
    have := Int.lt_tmod_of_pos z (show (0 : Int) < 256 by omega)
    omega
  omega
theorem fl_no (z : Int) (h : ¬ z.tmod 256 < 0) : z.tdiv 256 = fl z := by
  unfold fl
  have h1 := Int.mul_tdiv_add_tmod z 256
  have h2 := Int.tmod_lt_of_pos z (show (0 : Int) < 256 by omega)
  omega
theorem tdiv_bd (z : Int) (h1 : -4611686018427387904 ≤ z) (h2 : z ≤ 4611686018427387904) : -4611686018427387904 ≤ z.tdiv 256 ∧ z.tdiv 256 ≤ 4611686018427387904 := by
  have h3 := Int.mul_tdiv_add_tmod z 256
  have h4 := Int.tmod_lt_of_pos z (show (0 : Int) < 256 by omega)
  have h5 := Int.lt_tmod_of_pos z (show (0 : Int) < 256 by omega)
  omega

/-- between two samples -/
def crossV (x y v : Int) : Int := fl (x * (256 - v) + y * v)
def crossL (x y m : List Int) (k : Nat) : List Int := (List.range k).map fun (i : Nat) => crossV (gi x i) (gi y i) (gi m i)
theorem crossL_len (x y m : List Int) (k : Nat) : (crossL x y m k).length = k := by simp [crossL]
theorem crossL_succ (x y m : List Int) (k : Nat) : crossL x y m (k + 1) = crossL x y m k ++ [crossV (gi x k) (gi y k) (gi m k)] := by simp [crossL, List.range_succ]

/-- the signal with the first k elements of the window laid on from f on -/
def fadeK (x m : List Int) (f k : Nat) : List Int := (List.range x.length).map fun (i : Nat) => if f ≤ i ∧ i < f + k then fl (gi x i * gi m (i - f)) else gi x i
theorem fadeK_len (x m : List Int) (f k : Nat) : (fadeK x m f k).length = x.length := by simp [fadeK]
theorem gi_fadeK (x m : List Int) (f k i : Nat) (h : i < x.length) : gi (fadeK x m f k) i = if f ≤ i ∧ i < f + k then fl (gi x i * gi m (i - f)) else gi x i := by
  simp [fadeK, gi, h]
theorem ext_gi {l m : List Int} (h : l.length = m.length) (hi : ∀ i, i < l.length → gi l i = gi m i) : l = m := by
  refine List.ext_getElem h fun i h1 h2 => ?_
  rw [gi_eq h1, gi_eq h2, hi i h1]
theorem fadeK_zero (x m : List Int) (f : Nat) : fadeK x m f 0 = x := by
  refine ext_gi (fadeK_len _ _ _ _) fun i hi => ?_
  rw [fadeK_len] at hi
  rw [gi_fadeK _ _ _ _ _ hi, if_neg (by omega)]
theorem gi_set (l : List Int) (i j : Nat) (z : Int) (h : j < l.length) : gi (l.set i z) j = if i = j then z else gi l j := by
  unfold gi
  simp only [List.getD_eq_getElem?_getD, List.getElem?_set]
  split
  · subst_vars; simp [h]
  · rfl
theorem ints_set (l : List Int) (i : Nat) (z : Int) : (ints l).set i (iv z) = ints (l.set i z) := by simp [ints, List.map_set]
theorem fadeK_step (x m : List Int) (f k : Nat) (h : f + k < x.length) : (fadeK x m f k).set (f + k) (fl (gi x (f + k) * gi m k)) = fadeK x m f (k + 1) := by
  refine ext_gi (by simp [fadeK_len]) fun i hi => ?_
  rw [List.length_set, fadeK_len] at hi
  rw [gi_set _ _ _ _ (by rw [fadeK_len]; exact hi), gi_fadeK _ _ _ _ _ hi, gi_fadeK _ _ _ _ _ hi]
  by_cases e : f + k = i
  · rw [if_pos e, if_pos (by omega), show i - f = k by omega, e]
  · rw [if_neg e]
    by_cases c : f ≤ i ∧ i < f + k
    · rw [if_pos c, if_pos (by omega)]
    · rw [if_neg c, if_neg (by omega)]
theorem fadeK_more (x m : List Int) (f k n : Nat) (h : x.length ≤ f + k) (hn : k ≤ n) : fadeK x m f n = fadeK x m f k := by
  refine ext_gi (by simp [fadeK_len]) fun i hi => ?_
  rw [fadeK_len] at hi
  rw [gi_fadeK _ _ _ _ _ hi, gi_fadeK _ _ _ _ _ hi]
  by_cases c : f ≤ i
  · rw [if_pos (by omega), if_pos (by omega)]
  · rw [if_neg (by omega), if_neg (by omega)]
theorem gi_fadeK_at (x m : List Int) (f k : Nat) (h : f + k < x.length) : gi (fadeK x m f k) (f + k) = gi x (f + k) := by
  rw [gi_fadeK _ _ _ _ _ h, if_neg (by omega)]
/-- the elements in the opposite order: the last k of them -/
def revL (l : List Int) (k : Nat) : List Int := (l.reverse).take k
theorem revL_succ {l : List Int} {k : Nat} (h : k < l.length) : revL l (k + 1) = revL l k ++ [gi l (l.length - 1 - k)] := by
  unfold revL
  rw [List.take_succ_eq_append_getElem (by simpa using h), List.getElem_reverse, gi_eq]
/-- 256 minus each element -/
def compL (l : List Int) : List Int := l.map fun v => 256 - v
theorem compL_take_succ {l : List Int} {k : Nat} (h : k < l.length) : compL (l.take (k + 1)) = compL (l.take k) ++ [256 - gi l k] := by
  unfold compL
  rw [List.take_succ_eq_append_getElem h, gi_eq]
  simp
end Go.Proofs.Ythopcmglcnlcfaa.Old
