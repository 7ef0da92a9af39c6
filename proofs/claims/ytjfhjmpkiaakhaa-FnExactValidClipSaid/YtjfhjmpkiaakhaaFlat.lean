/- Plain lemmas: lists of records that are laid flat as numbers. No program in sight. -/
import Derived.Test.YtjfhjmpkiaakhaaCore
namespace Go.Proofs.Ytjfhjmpkiaakhaa
open Go.RowKit
set_option linter.unusedVariables false
set_option linter.unusedSimpArgs false

/-- A record of k numbers. -/
structure Rec (α : Type) (k : Nat) where
  row : α → List Int
  make : List Int → α
  len : ∀ a, (row a).length = k
  make_row : ∀ a, make (row a) = a
  row_make : ∀ zs, zs.length = k → row (make zs) = zs

variable {α : Type} {k : Nat}
def flat (R : Rec α k) (l : List α) : List Int := l.flatMap R.row
theorem flat_len (R : Rec α k) (l : List α) : (flat R l).length = l.length * k := by
  unfold flat
  induction l with
  | nil => simp
  | cons a l ih => rw [List.flatMap_cons, List.length_append, ih, R.len, List.length_cons, Nat.add_mul]; omega
theorem flat_cons (R : Rec α k) (a : α) (l : List α) : flat R (a :: l) = R.row a ++ flat R l := by simp [flat]
theorem flat_append (R : Rec α k) (l m : List α) : flat R (l ++ m) = flat R l ++ flat R m := by simp [flat]
theorem flat_snoc (R : Rec α k) (l : List α) (a : α) : flat R (l ++ [a]) = flat R l ++ R.row a := by simp [flat]
theorem flat_take (R : Rec α k) (l : List α) : ∀ n, flat R (l.take n) = (flat R l).take (n * k) := by
  induction l with
  | nil => simp [flat]
  | cons a l ih =>
    intro n
    cases n with
    | zero => simp [flat]
    | succ n =>
      rw [List.take_succ_cons, flat_cons, flat_cons, ih, List.take_append, R.len, Nat.add_mul, Nat.one_mul, List.take_of_length_le (l := R.row a) (by rw [R.len]; omega), show n * k + k - k = n * k by omega]
theorem flat_drop (R : Rec α k) (l : List α) : ∀ n, flat R (l.drop n) = (flat R l).drop (n * k) := by
  induction l with
  | nil => simp [flat]
  | cons a l ih =>
    intro n
    cases n with
    | zero => simp
    | succ n =>
      rw [List.drop_succ_cons, flat_cons, ih, List.drop_append, R.len, Nat.add_mul, Nat.one_mul, List.drop_of_length_le (l := R.row a) (by rw [R.len]; omega), show n * k + k - k = n * k by omega, List.nil_append]
theorem flat_inj (R : Rec α k) (hk : 0 < k) : ∀ {l m : List α}, flat R l = flat R m → l = m := by
  intro l
  induction l with
  | nil =>
    intro m h
    cases m with
    | nil => rfl
    | cons b m =>
      have := congrArg List.length h
      rw [flat_len, flat_len, List.length_cons, List.length_nil, Nat.add_mul] at this
      omega
  | cons a l ih =>
    intro m h
    cases m with
    | nil =>
      have := congrArg List.length h
      rw [flat_len, flat_len, List.length_cons, List.length_nil, Nat.add_mul] at this
      omega
    | cons b m =>
      rw [flat_cons, flat_cons] at h
      have h1 := List.append_inj h (by rw [R.len, R.len])
      rw [ih h1.2, ← R.make_row a, ← R.make_row b, h1.1]
/-- The i-th record (any, behind the end). -/
def el [Inhabited α] (l : List α) (i : Nat) : α := l.getD i default
theorem el_eq [Inhabited α] {l : List α} {i : Nat} (h : i < l.length) : l[i] = el l i := by simp [el, h]
theorem take_el [Inhabited α] {l : List α} {i : Nat} (h : i < l.length) : l.take (i + 1) = l.take i ++ [el l i] := by
  rw [List.take_succ_eq_append_getElem h, el_eq]
theorem gi_flat [Inhabited α] (R : Rec α k) {l : List α} {i j : Nat} (hi : i < l.length) (hj : j < k) : gi (flat R l) (i * k + j) = gi (R.row (el l i)) j := by
  have h1 : l = l.take i ++ (el l i :: l.drop (i + 1)) := by
    conv => lhs; rw [← List.take_append_drop i l, List.drop_eq_getElem_cons hi, el_eq]
  have h2 : flat R l = flat R (l.take i) ++ (R.row (el l i) ++ flat R (l.drop (i + 1))) := by
    conv => lhs; rw [h1]
    rw [flat_append, flat_cons]
  unfold gi
  rw [h2]
  have hl : (flat R (l.take i)).length = i * k := by rw [flat_len, List.length_take, Nat.min_eq_left (by omega)]
  simp only [List.getD_eq_getElem?_getD]
  rw [List.getElem?_append_right (by omega), hl, List.getElem?_append_left (by rw [R.len]; omega)]
  congr 2
  omega
/-- The records that numbers are laid for. -/
def unflat (R : Rec α k) (n : Nat) (zs : List Int) : List α := (List.range n).map fun i => R.make ((zs.drop (i * k)).take k)
theorem unflat_len (R : Rec α k) (n : Nat) (zs : List Int) : (unflat R n zs).length = n := by simp [unflat]
theorem flat_unflat (R : Rec α k) : ∀ (n : Nat) (zs : List Int), zs.length = n * k → flat R (unflat R n zs) = zs := by
  intro n
  induction n with
  | zero =>
    intro zs h
    have : zs = [] := List.eq_nil_of_length_eq_zero (by omega)
    subst this
    simp [unflat, flat]
  | succ n ih =>
    intro zs h
    rw [Nat.add_mul, Nat.one_mul] at h
    have h1 : unflat R (n + 1) zs = unflat R n (zs.take (n * k)) ++ [R.make ((zs.drop (n * k)).take k)] := by
      unfold unflat
      rw [List.range_succ, List.map_append]
      congr 1
      refine List.map_congr_left fun i hi => ?_
      have hi' : i < n := by simpa using hi
      have : i * k + k ≤ n * k := by
        have := Nat.mul_le_mul_right k (show i + 1 ≤ n by omega)
        rwa [Nat.add_mul, Nat.one_mul] at this
      rw [List.drop_take, List.take_take, Nat.min_eq_left (by omega)]
    rw [h1, flat_snoc, ih _ (by rw [List.length_take]; omega), R.row_make _ (by rw [List.length_take, List.length_drop]; omega), List.take_of_length_le (l := zs.drop (n * k)) (by rw [List.length_drop]; omega), List.take_append_drop]

/-- A slice of records that reads: each cell. -/
theorem Rd.rec_at [Inhabited α] (R : Rec α k) {w : World} {A : Option Addr} {n c : Nat} {l : List α} (h : Rd w k A n c (ints (flat R l))) (hk : 0 < k) {i : Nat} (hi : i < n) :
    ∃ ad : Addr, A = some ad ∧ ad.block < w.heap.size ∧ ∀ j, j < k → w.cell? (ad.add (i * k + j)) = some (iv (gi (R.row (el l i)) j)) := by
  obtain ⟨ad, e, hlt, hc⟩ := h.2.2.2 (by omega)
  have hl := h.1
  rw [ints_len, flat_len] at hl
  have hn : l.length = n := Nat.eq_of_mul_eq_mul_right hk hl
  refine ⟨ad, e, hlt, fun j hj => ?_⟩
  have hb : i * k + j < (flat R l).length := by
    rw [flat_len, hn]
    have := Nat.mul_le_mul_right k (show i + 1 ≤ n by omega)
    rw [Nat.add_mul, Nat.one_mul] at this
    omega
  rw [hc _ _ (ints_get hb), gi_flat R (by omega) hj]
theorem Rd.rec_len (R : Rec α k) {w : World} {A : Option Addr} {n c : Nat} {l : List α} (h : Rd w k A n c (ints (flat R l))) (hk : 0 < k) : l.length = n := by
  have hl := h.1
  rw [ints_len, flat_len] at hl
  exact Nat.eq_of_mul_eq_mul_right hk hl
end Go.Proofs.Ytjfhjmpkiaakhaa
