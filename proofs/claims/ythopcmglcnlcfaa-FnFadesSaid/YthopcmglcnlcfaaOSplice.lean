/- Walks: two signals spliced, in both packages. -/
import Derived.Test.YthopcmglcnlcfaaOFade
import Derived.Deep.RegionHeld3
namespace Go.Proofs.Ythopcmglcnlcfaa.Old
open Go.RowKit
set_option linter.unusedVariables false
set_option maxRecDepth 100000
set_option linter.unusedSimpArgs false

theorem Rd.take {w : World} {s n c k : Nat} {A : Option Addr} {xs : List Value} (h : Rd w s A n c xs) (hk : k ≤ n) : Rd w s A k c (xs.take (k * s)) := by
  obtain ⟨h1, h2, h3, h4⟩ := h
  refine ⟨?_, by omega, h3, fun hn => ?_⟩
  · rw [List.length_take, h1]
    exact Nat.min_eq_left (Nat.mul_le_mul_right s hk)
  · obtain ⟨ad, e, hl, hc⟩ := h4 (by omega)
    refine ⟨ad, e, hl, fun j u hu => hc j u ?_⟩
    rw [List.getElem?_take] at hu
    split at hu
    · exact hu
    · cases hu
theorem Rd.drop {w : World} {s n c k : Nat} {A : Option Addr} {xs : List Value} (h : Rd w s A n c xs) (hk : k ≤ n) : Rd w s (if c = k then A else A.map (·.add (k * s))) (n - k) (c - k) (xs.drop (k * s)) := by
  obtain ⟨h1, h2, h3, h4⟩ := h
  refine ⟨by rw [List.length_drop, h1, Nat.sub_mul], by omega, by omega, fun hn => ?_⟩
  obtain ⟨ad, e, hl, hc⟩ := h4 (by omega)
  subst e
  rw [if_neg (by omega)]
  refine ⟨ad.add (k * s), rfl, by rw [block_add]; exact hl, fun j u hu => ?_⟩
  rw [add_add']
  exact hc _ u (by rw [← hu, List.getElem?_drop])
theorem allB_mem {p : Int → Bool} {l m : List Int} (h : allB p l = true) (hm : ∀ z ∈ m, z ∈ l) : allB p m = true := by
  unfold allB at *
  rw [List.all_eq_true] at *
  exact fun z hz => h z (hm z hz)
theorem sig_drop {l : List Int} (h : sigB l = true) (k : Nat) : sigB (l.drop k) = true := by
  unfold sigB at *
  simp only [Bool.and_eq_true, decide_eq_true_eq] at *
  exact ⟨by rw [List.length_drop]; omega, allB_mem h.2 fun z hz => List.mem_of_mem_drop hz⟩
theorem sig_take {l : List Int} (h : sigB l = true) (k : Nat) : sigB (l.take k) = true := by
  unfold sigB at *
  simp only [Bool.and_eq_true, decide_eq_true_eq] at *
  exact ⟨by rw [List.length_take]; omega, allB_mem h.2 fun z hz => List.mem_of_mem_take hz⟩
theorem ints_take (l : List Int) (k : Nat) : (ints l).take k = ints (l.take k) := by simp [ints, List.map_take]
theorem ints_drop (l : List Int) (k : Nat) : (ints l).drop k = ints (l.drop k) := by simp [ints, List.map_drop]

/-- the splice and its code -/
def splC (x y m : List Int) : Int := if sigB x && sigB y && winB m then (if x.length < m.length ∨ y.length < m.length then 6 else if 4000 + m.length < x.length + y.length then 5 else 0) else 1
def splR (x y m : List Int) : List Int := if splC x y m = 0 then x.take (x.length - m.length) ++ crossL (x.drop (x.length - m.length)) y m m.length ++ y.drop m.length else []
theorem spl_cases (x y m : List Int) : (sigB x = false ∧ splC x y m = 1 ∧ splR x y m = []) ∨ (sigB x = true ∧ sigB y = false ∧ splC x y m = 1 ∧ splR x y m = []) ∨
    (sigB x = true ∧ sigB y = true ∧ winB m = false ∧ splC x y m = 1 ∧ splR x y m = []) ∨
    (sigB x = true ∧ sigB y = true ∧ winB m = true ∧ x.length < m.length ∧ splC x y m = 6 ∧ splR x y m = []) ∨
    (sigB x = true ∧ sigB y = true ∧ winB m = true ∧ m.length ≤ x.length ∧ y.length < m.length ∧ splC x y m = 6 ∧ splR x y m = []) ∨
    (sigB x = true ∧ sigB y = true ∧ winB m = true ∧ m.length ≤ x.length ∧ m.length ≤ y.length ∧ 4000 + m.length < x.length + y.length ∧ splC x y m = 5 ∧ splR x y m = []) ∨
    (sigB x = true ∧ sigB y = true ∧ winB m = true ∧ m.length ≤ x.length ∧ m.length ≤ y.length ∧ x.length + y.length ≤ 4000 + m.length ∧ splC x y m = 0 ∧
      splR x y m = x.take (x.length - m.length) ++ crossL (x.drop (x.length - m.length)) y m m.length ++ y.drop m.length) := by
  unfold splR splC
  cases sigB x
  · exact .inl ⟨rfl, rfl, rfl⟩
  cases sigB y
  · exact .inr (.inl ⟨rfl, rfl, rfl, rfl⟩)
  cases winB m
  · exact .inr (.inr (.inl ⟨rfl, rfl, rfl, rfl, rfl⟩))
  by_cases h1 : x.length < m.length
  · exact .inr (.inr (.inr (.inl ⟨rfl, rfl, rfl, h1, by simp [h1], by simp [h1]⟩)))
  by_cases h2 : y.length < m.length
  · exact .inr (.inr (.inr (.inr (.inl ⟨rfl, rfl, rfl, by omega, h2, by simp [h2], by simp [h2]⟩))))
  by_cases h3 : 4000 + m.length < x.length + y.length
  · exact .inr (.inr (.inr (.inr (.inr (.inl ⟨rfl, rfl, rfl, by omega, by omega, h3, by simp [h1, h2, h3], by simp [h1, h2, h3]⟩)))))
  · exact .inr (.inr (.inr (.inr (.inr (.inr ⟨rfl, rfl, rfl, by omega, by omega, by omega, by simp [h1, h2, h3], by simp [h1, h2, h3]⟩)))))

end Go.Proofs.Ythopcmglcnlcfaa.Old
