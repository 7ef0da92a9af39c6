/- Gates: polyphony. No conditions. -/
import Derived.Test.YtdcfofaojalilaaG4
namespace Go.Proofs.Ytdcfofaojalilaa
open Go.RowKit
set_option linter.unusedVariables false
set_option linter.unusedSimpArgs false
set_option maxRecDepth 100000
attribute [local simp] List.getElem?_cons_zero
attribute [local irreducible] awCond awCall awLoop awDraw ow retQ retC resQ Keeps
def inG (x : Int) (g : Gate) : Bool := decide (g.s ≤ x) && decide (x < g.e)
def cntG (l : List Gate) (x : Int) : Nat := (l.filter (inG x)).length
def polyN (l m : List Gate) : Int := m.foldl (fun a g => max a (cntG l g.s : Int)) 0
def polyV (l : List Gate) : Int × Int := if okG l = false then (0, 1) else (polyN l l, 0)
theorem cntG_le (l : List Gate) (x : Int) : cntG l x ≤ l.length := List.length_filter_le _ _
theorem cntG_snoc (l : List Gate) (g : Gate) (x : Int) : cntG (l ++ [g]) x = cntG l x + (if inG x g = true then 1 else 0) := by
  unfold cntG
  rw [List.filter_append, List.length_append]
  by_cases h : inG x g = true <;> simp [h]
theorem polyN_snoc (l m : List Gate) (g : Gate) : polyN l (m ++ [g]) = max (polyN l m) (cntG l g.s : Int) := by simp [polyN]
theorem polyN_bd (l : List Gate) : ∀ m : List Gate, ∀ a : Int, 0 ≤ a → a ≤ l.length → 0 ≤ m.foldl (fun a g => max a (cntG l g.s : Int)) a ∧ m.foldl (fun a g => max a (cntG l g.s : Int)) a ≤ l.length
  | [], a, h0, h1 => ⟨h0, h1⟩
  | g :: m, a, h0, h1 => by
    have := cntG_le l g.s
    exact polyN_bd l m (max a (cntG l g.s : Int)) (by omega) (by omega)
theorem l00Max_a {M : Mem} (a b : Int) : Det Try.prog M.length 60 [iv a, iv b] M (iv (max a b)) M := by
  first | (refine det_fn Try.func60 rfl Try.ntmps60 Try.results60 rfl rfl rfl (by simp) ?_) | (refine det_fnC Try.func60 rfl Try.ntmps60 Try.results60 rfl rfl (by simp) ?_)
  simp
  refine awCond_split ?_ ?_ <;> intro h <;> simp at h
  · simp [Keeps.refl]
    omega
  · simp [Keeps.refl]
    omega
theorem l21Polyphony_a {M : Mem} {A : Option Addr} {n c : Nat} {l : List Gate} (h : Sl gateR M A n l) (hn : n ≤ 1099511627776) : Det Try.prog M.length 50 [.slice A n c] M (iv (polyN l l)) M := by
  have hl := h.1
  first | (refine det_fn Try.func50 rfl Try.ntmps50 Try.results50 rfl rfl rfl (by simp) ?_) | (refine det_fnC Try.func50 rfl Try.ntmps50 Try.results50 rfl rfl (by simp) ?_)
  simp
  refine awLoop_T (fun m T M' => ∃ i : Nat, i + m = n ∧ M = M' ∧ look T 4 = some (iv i) ∧ look T 3 = some (iv (polyN l (l.take i))) ∧ look T 0 = some (.slice A n c)) n ⟨0, by omega, rfl, by simp, by simp [polyN], by simp⟩ ?_
  rintro m T M' ⟨i, hm, rfl, h4, h3, h0⟩
  by_cases hlt : i < n
  · simp (disch := omega) [h4, h3, h0, hlt, wrap_in]
    refine awLoop_T (fun m T M' => ∃ k : Nat, k + m = n ∧ M = M' ∧ look T 6 = some (iv k) ∧ look T 5 = some (iv (cntG (l.take k) (el l i).s : Nat)) ∧ look T 4 = some (iv i) ∧ look T 3 = some (iv (polyN l (l.take i))) ∧ look T 0 = some (.slice A n c)) n ⟨0, by omega, rfl, by simp, by simp [cntG], by simp [h4], by simp [h3], by simp [h0]⟩ ?_
    rintro m2 T2 M' ⟨k, hm2, rfl, g6, g5, g4, g3, g0⟩
    obtain ⟨id, off, rfl, he, hc⟩ := h.at_ hlt
    obtain ⟨c0, c1, c2, c3, c4⟩ := gate_cells hc
    by_cases hki : k < n
    · obtain ⟨_, _, e, _, hc'⟩ := h.at_ (i := k) (by omega)
      cases e
      obtain ⟨d0, d1, d2, d3, d4⟩ := gate_cells hc'
      have hle : cntG (l.take k) (el l i).s ≤ k := Nat.le_trans (cntG_le _ _) (by simp; omega)
      have hst : cntG (l.take (k + 1)) (el l i).s = cntG (l.take k) (el l i).s + (if inG (el l i).s (el l k) = true then 1 else 0) := by rw [take_el (by omega), cntG_snoc]
      simp (disch := omega) [g6, g5, g4, g3, g0, hki, wrap_in]
      refine awDraw_E 22 [[],[],[0,1],[2,0,1],[3,2,0,1],[],[],[5,6],[7,5,6],[8,7,5,6],[4,3,2,0,1,9,8,7,5,6],[10,4,3,2,0,1,9,8,7,5,6],[11,10,4,3,2,0,1,9,8,7,5,6],[11,10,4,3,2,0,1,9,8,7,5,6],[12,11,10,4,3,2,0,1,9,8,7,5,6,13],[14,12,11,10,4,3,2,0,1,9,8,7,5,6,13],[15,14,12,11,10,4,3,2,0,1,9,8,7,5,6,13],[11,10,4,3,2,0,1,9,8,7,5,6],[11,10,4,3,2,0,1,9,8,7,5,6],[17,11,10,4,3,2,0,1,9,8,7,5,6,18],[19,17,11,10,4,3,2,0,1,9,8,7,5,6,18],[20,19,17,11,10,4,3,2,0,1,9,8,7,5,6,18],[16,15,14,12,11,10,4,3,2,0,1,9,8,7,5,6,13,21,20,19,17,18],[11,10,4,3,2,0,1,9,8,7,5,6,22,16,15,14,12,13,21,20,19,17,18]] (by kernel_rfl) (by kernel_rfl) ?_
      simp (disch := omega) [g6, g5, g4, g3, g0, hki, hlt, wrap_in, d1, c1]
      by_cases p1 : (el l k).s ≤ (el l i).s
      · simp (disch := omega) [g6, g5, g4, g3, g0, hki, hlt, wrap_in, d1, c1, d2, p1]
        by_cases p2 : (el l i).s < (el l k).e
        · simp (disch := omega) [g6, g5, g4, g3, g0, wrap_in, p2]
          refine lpI (m2 - 1) (by omega) ?_
          exact ⟨k + 1, by omega, rfl, by simp, by simp [hst, inG, p1, p2], by simp [g4], by simp [g3], by simp [g0]⟩
        · simp (disch := omega) [g6, g5, g4, g3, g0, wrap_in, p2]
          refine lpI (m2 - 1) (by omega) ?_
          exact ⟨k + 1, by omega, rfl, by simp, by simp [hst, inG, p1, p2, g5], by simp [g4], by simp [g3], by simp [g0]⟩
      · simp (disch := omega) [g6, g5, g4, g3, g0, wrap_in, p1]
        refine lpI (m2 - 1) (by omega) ?_
        exact ⟨k + 1, by omega, rfl, by simp, by simp [hst, inG, p1, g5], by simp [g4], by simp [g3], by simp [g0]⟩
    · obtain rfl : k = n := by omega
      rw [List.take_of_length_le (by omega)] at g5
      simp (disch := omega) [g6, g5, g4, g3, g0, wrap_in]
      refine awCall_det' (l00Max_a _ _) (Nat.le_refl _) ?_
      try simp (disch := omega) [g4, wrap_in]
      refine lpI (m - 1) (by omega) ?_
      exact ⟨i + 1, by omega, rfl, by simp, by simp [take_el (show i < l.length by omega), polyN_snoc], by simp [g0]⟩
  · obtain rfl : i = n := by omega
    rw [List.take_of_length_le (by omega)] at h3
    simp [h4, h3, h0, Keeps.refl]
theorem PolyphonyOf_i {M : Mem} {A : Option Addr} {n c : Nat} {l : List Gate} (h : Sl gateR M A n l) (hn : n ≤ 1099511627776) : Det Try.prog M.length 25 [.slice A n c] M (.tuple #[iv (polyV l).1, iv (polyV l).2]) M := by
  have hl := h.1
  first | (refine det_fn Try.func25 rfl Try.ntmps25 Try.results25 rfl rfl rfl (by simp) ?_) | (refine det_fnC Try.func25 rfl Try.ntmps25 Try.results25 rfl rfl (by simp) ?_)
  simp
  refine awCall_det' (areGates_a h (by omega)) (by simp) ?_
  by_cases hok : okG l = true
  · simp [hok]
    refine awLoop_T (fun m T M' => ∃ i : Nat, i + m = n ∧ Keeps M M' ∧ look T 15 = some (iv i) ∧ look T 14 = some (iv n) ∧ look T 13 = some (.slice A n c) ∧ look T 0 = some (.slice A n c) ∧ look T 4 = some (iv (polyN l (l.take i)))) n ⟨0, by omega, Keeps.refl _, by simp, by simp, by simp, by simp, by simp [polyN]⟩ ?_
    rintro m T M' ⟨i, hm, hK, h15, h14, h13, h0, h4⟩
    by_cases hlt : i < n
    · have h' := h.keeps hK
      have hKl := hK.len
      obtain ⟨id, off, rfl, he, hc⟩ := h'.at_ hlt
      simp (disch := omega) [h15, h14, h13, h0, h4, hlt, wrap_in, gate_load hc]
      refine awLoop_T (fun m T M2 => ∃ k : Nat, k + m = n ∧ Keeps M M2 ∧ Keeps (M' ++ [.live ⟨[iv (el l i).o, iv (el l i).s, iv (el l i).e, iv (el l i).k, iv (el l i).u], true, true, 45, 5⟩]) M2 ∧ look T 21 = some (iv k) ∧ look T 20 = some (iv n) ∧ look T 19 = some (.slice (some ⟨id, off, none⟩) n c) ∧ look T 7 = some (iv (cntG (l.take k) (el l i).s : Nat)) ∧ look T 6 = some (.pointer (some ⟨M'.length, 0, none⟩)) ∧
        look T 15 = some (iv i) ∧ look T 14 = some (iv n) ∧ look T 13 = some (.slice (some ⟨id, off, none⟩) n c) ∧ look T 0 = some (.slice (some ⟨id, off, none⟩) n c) ∧ look T 4 = some (iv (polyN l (l.take i)))) n ⟨0, by omega, hK.app _, Keeps.refl _, by simp, by simp, by simp, by simp [cntG], by simp, by simp [h15], by simp [h14], by simp [h13], by simp [h0], by simp [h4]⟩ ?_
      rintro m2 T2 M2 ⟨k, hm2, hK2, hK3, g21, g20, g19, g7, g6, g15, g14, g13, g0, g4⟩
      have hKl2 := hK2.len
      have hKl3 := hK3.len
      by_cases hki : k < n
      · obtain ⟨_, _, e, he2, hc2⟩ := (h.keeps hK2).at_ hki
        cases e
        have b1 : cellAt M2 M'.length 1 = some (iv (el l i).s) := cellAt_keeps hK3 (by simp)
        have hle : cntG (l.take k) (el l i).s ≤ k := Nat.le_trans (cntG_le _ _) (by simp; omega)
        have hst : cntG (l.take (k + 1)) (el l i).s = cntG (l.take k) (el l i).s + (if inG (el l i).s (el l k) = true then 1 else 0) := by rw [take_el (by omega), cntG_snoc]
        have hbd := okG_el hok (el_mem (l := l) (i := k) (by omega))
        have hin : inB (el l i).s (el l k).s ((el l k).e - 1) = inG (el l i).s (el l k) := by
          have e : ((el l i).s ≤ (el l k).e - 1) = ((el l i).s < (el l k).e) := propext (by omega)
          simp only [inB, inG, e]
        simp (disch := omega) [g21, g20, g19, g7, g6, g15, g14, g13, g0, g4, hki, wrap_in, gate_load hc2, he2, cellAt_app b1]
        refine awCall_det' (contains_a (el l k) _ (by omega) (by omega)) (by simp <;> omega) ?_
        rw [hin]
        cases hq : inG (el l i).s (el l k)
        · simp (disch := omega) [g21, g20, g19, g7, g6, g15, g14, g13, g0, g4, wrap_in]
          refine lpI (m2 - 1) (by omega) ?_
          exact ⟨k + 1, by omega, hK2.app _, hK3.app _, by simp, by simp [g20], by simp [g19], by simp [g7, hst, hq], by simp [g6], by simp [g15], by simp [g14], by simp [g13], by simp [g0], by simp [g4]⟩
        · simp (disch := omega) [g21, g20, g19, g7, g6, g15, g14, g13, g0, g4, wrap_in]
          refine lpI (m2 - 1) (by omega) ?_
          exact ⟨k + 1, by omega, hK2.app _, hK3.app _, by simp, by simp [g20], by simp [g19], by simp [hst, hq], by simp [g6], by simp [g15], by simp [g14], by simp [g13], by simp [g0], by simp [g4]⟩
      · obtain rfl : k = n := by omega
        rw [List.take_of_length_le (by omega)] at g7
        simp (disch := omega) [g21, g20, g19, g7, g6, g15, g14, g13, g0, g4, wrap_in]
        refine lpI (m - 1) (by omega) ?_
        refine ⟨i + 1, by omega, hK2, by simp, by simp [g14], by simp [g13], by simp [g0], ?_⟩
        rw [take_el (show i < l.length by omega), polyN_snoc]
        simp
        split <;> omega
    · obtain rfl : i = n := by omega
      rw [List.take_of_length_le (by omega)] at h4
      simp [h15, h14, h13, h0, h4, polyV, hok, hK]
  · simp at hok
    simp [hok, polyV, Keeps.refl]
theorem PolyphonyOf_s {M : Mem} {A : Option Addr} {n c : Nat} {l : List Gate} (h : Sl gateR M A n l) (hn : n ≤ 1099511627776) : Det Try.prog M.length 24 [.slice A n c] M (.tuple #[iv (polyV l).1, iv (polyV l).2]) M := by
  first | (refine det_fn Try.func24 rfl Try.ntmps24 Try.results24 rfl rfl rfl (by simp) ?_) | (refine det_fnC Try.func24 rfl Try.ntmps24 Try.results24 rfl rfl (by simp) ?_)
  simp
  refine awCall_det' (l21Ok_a h (by omega)) (by simp) ?_
  by_cases hok : okG l = true
  · simp [hok]
    refine awCall_det' (l21Polyphony_a h hn) (by simp) ?_
    simp [hok, polyV, Keeps.refl]
  · simp at hok
    simp [hok, polyV, Keeps.refl]
theorem PolyphonyOf_sl {M : Mem} {v : Value} {lo hi : Nat} {x : List Gate} (hx : RdL gateR lo hi M v x) (ex : x.length ≤ 1048576) : Det Try.prog M.length 24 [v] M (.tuple #[iv (polyV x).1, iv (polyV x).2]) M := by
  obtain ⟨A, n, c, rfl, hn, hS, _⟩ := hx
  exact PolyphonyOf_s hS (by have := hS.1; omega)
theorem PolyphonyOf_il {M : Mem} {v : Value} {lo hi : Nat} {x : List Gate} (hx : RdL gateR lo hi M v x) (ex : x.length ≤ 1048576) : Det Try.prog M.length 25 [v] M (.tuple #[iv (polyV x).1, iv (polyV x).2]) M := by
  obtain ⟨A, n, c, rfl, hn, hS, _⟩ := hx
  exact PolyphonyOf_i hS (by have := hS.1; omega)
end Go.Proofs.Ytdcfofaojalilaa
