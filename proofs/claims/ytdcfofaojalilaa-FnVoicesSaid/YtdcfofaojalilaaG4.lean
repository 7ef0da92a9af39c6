/- Gates: the gate at a sample. No conditions. -/
import Derived.Test.YtdcfofaojalilaaG3
namespace Go.Proofs.Ytdcfofaojalilaa
open Go.RowKit
set_option linter.unusedVariables false
set_option linter.unusedSimpArgs false
set_option maxRecDepth 100000
attribute [local simp] List.getElem?_cons_zero
attribute [local irreducible] awCond awCall awLoop awDraw ow retQ retC resQ Keeps
theorem IndexFunc_a {M : Mem} {A : Option Addr} {n c : Nat} {l : List Gate} {g : FuncId} {us vs : Array Value} (p : Gate → Bool) (h : Sl gateR M A n l) (hn : n ≤ 1099511627776)
    (hp : ∀ (M' : Mem) a, Keeps M M' → a ∈ l → Det Try.prog M'.length g (us.toList ++ [a.v] ++ vs.toList) M' (.bool (p a)) M') : Det Try.prog M.length 47 [.slice A n c, .func (.func g) us vs] M (iv (fstI p l)) M := by
  have hl := h.1
  first | (refine det_fn Try.func47 rfl Try.ntmps47 Try.results47 rfl rfl rfl (by simp) ?_) | (refine det_fnC Try.func47 rfl Try.ntmps47 Try.results47 rfl rfl (by simp) ?_)
  simp
  refine awLoop_T (fun m T M' => ∃ k : Nat, k + m = n ∧ M = M' ∧ look T 8 = some (iv k) ∧ look T 7 = some (iv n) ∧ look T 0 = some (.slice A n c) ∧ look T 1 = some (.func (.func g) us vs) ∧ ∀ i, i < k → p (el l i) = false) n ⟨0, by omega, rfl, by simp, by simp, by simp, by simp, by omega⟩ ?_
  rintro m T M' ⟨k, hm, rfl, h8, h7, h0, h1, hk⟩
  by_cases hlt : k < n
  · obtain ⟨id, off, rfl, he, hc⟩ := h.at_ hlt
    simp (disch := omega) [h8, h7, h0, h1, hlt, wrap_in, gate_load hc]
    refine awCall_det' (hp M (el l k) (Keeps.refl M) (el_mem (by omega))) (Nat.le_refl _) ?_
    try simp
    refine awCond_split ?_ ?_ <;> intro hq <;> try simp at hq
    · simp
      exact ⟨(fstI_some (by omega) hq hk).symm, Keeps.refl _⟩
    · simp (disch := omega) [h8, h7, h0, h1, wrap_in]
      refine lpI (m - 1) (by omega) ?_
      refine ⟨k + 1, by omega, rfl, by simp, by simp [h7], by simp [h0], by simp [h1], fun i hi => ?_⟩
      by_cases hik : i < k
      · exact hk i hik
      · obtain rfl : i = k := by omega
        exact hq
  · obtain rfl : k = n := by omega
    simp [h8, h7, h0, h1]
    exact ⟨(fstI_none (by rw [hl]; exact hk)).symm, Keeps.refl _⟩

def atB (voice at_ : Int) (g : Gate) : Bool := decide (g.o = voice) && decide (g.s ≤ at_) && decide (at_ < g.e)
theorem okG_el {l : List Gate} (h : okG l = true) {a : Gate} (ha : a ∈ l) : 0 ≤ a.s ∧ a.s < a.e ∧ a.e ≤ 4000 ∧ 0 ≤ a.o ∧ a.o ≤ 3 := by
  obtain ⟨i, hi, rfl⟩ := List.getElem_of_mem ha
  unfold okG at h
  simp only [Bool.and_eq_true, decide_eq_true_eq] at h
  have := (h.1 i hi).1
  rw [el_eq hi]
  simp [gateB, inB] at this
  omega
theorem contains_a {M : Mem} (g : Gate) (t : Int) (hg : -9223372036854775808 < g.e) (hg2 : g.e ≤ 9223372036854775807) : Det Try.prog M.length 49 [g.v, iv t] M (.bool (inB t g.s (g.e - 1))) M := by
  first | (refine det_fn Try.func49 rfl Try.ntmps49 Try.results49 rfl rfl rfl (by simp) ?_) | (refine det_fnC Try.func49 rfl Try.ntmps49 Try.results49 rfl rfl (by simp) ?_)
  simp (disch := omega) [wrap_in]
  refine awCall_det' (within_a _ _ _) (by simp) ?_
  simp [keeps_app]
theorem gateAt1_a {M : Mem} (g : Gate) {voice t : Int} {i j : Nat} (hi : cellAt M i 0 = some (iv voice)) (hj : cellAt M j 0 = some (iv t)) (hg : -9223372036854775808 < g.e) (hg2 : g.e ≤ 9223372036854775807) : Det Try.prog M.length 48 [g.v, .pointer (some ⟨i, 0, none⟩), .pointer (some ⟨j, 0, none⟩)] M (.bool (atB voice t g)) M := by
  first | (refine det_fn Try.func48 rfl Try.ntmps48 Try.results48 rfl rfl rfl (by simp) ?_) | (refine det_fnC Try.func48 rfl Try.ntmps48 Try.results48 rfl rfl (by simp) ?_)
  simp [cellAt_app hi, cellAt_app hj]
  by_cases hv : g.o = voice
  · subst hv
    simp [cellAt_app hi, cellAt_app hj]
    refine awCall_det' (contains_a g t hg hg2) (by simp) ?_
    have e : (t ≤ g.e - 1) = (t < g.e) := propext (by omega)
    simp only [inB, e]
    simp [keeps_app, atB]
  · simp [hv, atB, keeps_app]
def gateAtV (l : List Gate) (voice at_ : Int) : Int × Int := if okG l = false then (0, 1) else if (inB voice 0 3 && inB at_ 0 4000) = false then (0, 2) else if fstI (atB voice at_) l < 0 then (0, 3) else (fstI (atB voice at_) l, 0)
theorem GateAt_s {M : Mem} {A : Option Addr} {n c : Nat} {l : List Gate} (voice t : Int) (h : Sl gateR M A n l) (hn : n ≤ 1099511627776) : Det Try.prog M.length 22 [.slice A n c, iv voice, iv t] M (.tuple #[iv (gateAtV l voice t).1, iv (gateAtV l voice t).2]) M := by
  have hl := h.1
  first | (refine det_fn Try.func22 rfl Try.ntmps22 Try.results22 rfl rfl rfl (by simp) ?_) | (refine det_fnC Try.func22 rfl Try.ntmps22 Try.results22 rfl rfl (by simp) ?_)
  simp
  refine awCall_det' (l21Ok_a h (by omega)) (Nat.le_refl _) ?_
  by_cases hok : okG l = true
  · simp [hok]
    refine awCall_det' (l00In_a _ _ _) (Nat.le_refl _) ?_
    by_cases hv : inB voice 0 3 = true
    · simp [hv]
      refine awCall_det' (l00In_a _ _ _) (Nat.le_refl _) ?_
      by_cases ht : inB t 0 4000 = true
      · simp [ht]
        refine awLoop_T (fun m T M' => ∃ k : Nat, k + m = n ∧ M = M' ∧ look T 8 = some (iv k) ∧ look T 0 = some (.slice A n c) ∧ look T 1 = some (iv voice) ∧ look T 2 = some (iv t) ∧ ∀ i, i < k → atB voice t (el l i) = false) n ⟨0, by omega, rfl, by simp, by simp, by simp, by simp, by omega⟩ ?_
        rintro m T M' ⟨k, hm, rfl, h8, h0, h1, h2, hk⟩
        by_cases hlt : k < n
        · obtain ⟨id, off, rfl, he, hc⟩ := h.at_ hlt
          obtain ⟨c0, c1, c2, c3, c4⟩ := gate_cells hc
          simp (disch := omega) [h8, h0, h1, h2, hlt, wrap_in, c0]
          by_cases p1 : (el l k).o = voice
          · simp (disch := omega) [h8, h0, h1, h2, hlt, wrap_in, c1, p1]
            by_cases p2 : (el l k).s ≤ t
            · simp (disch := omega) [h8, h0, h1, h2, hlt, wrap_in, c2, p1, p2]
              by_cases p3 : t < (el l k).e
              · simp (disch := omega) [h8, h0, h1, h2, p3, wrap_in]
                have hf : fstI (atB voice t) l = k := fstI_some (by omega) (by simp [atB, p1, p2, p3]) hk
                have : ¬ (k : Int) < 0 := by omega
                simp [gateAtV, hok, hv, ht, hf, this, Keeps.refl]
              · simp (disch := omega) [h8, h0, h1, h2, p3, wrap_in]
                refine lpI (m - 1) (by omega) ?_
                refine ⟨k + 1, by omega, rfl, by simp, by simp [h0], by simp [h1], by simp [h2], fun i hi => ?_⟩
                by_cases hik : i < k
                · exact hk i hik
                · obtain rfl : i = k := by omega
                  simp [atB, p3]
            · simp (disch := omega) [h8, h0, h1, h2, p2, p1, wrap_in]
              refine lpI (m - 1) (by omega) ?_
              refine ⟨k + 1, by omega, rfl, by simp, by simp [h0], by simp [h1], by simp [h2], fun i hi => ?_⟩
              by_cases hik : i < k
              · exact hk i hik
              · obtain rfl : i = k := by omega
                simp [atB, p2]
          · simp (disch := omega) [h8, h0, h1, h2, p1, wrap_in]
            refine lpI (m - 1) (by omega) ?_
            refine ⟨k + 1, by omega, rfl, by simp, by simp [h0], by simp [h1], by simp [h2], fun i hi => ?_⟩
            by_cases hik : i < k
            · exact hk i hik
            · obtain rfl : i = k := by omega
              simp [atB, p1]
        · obtain rfl : k = n := by omega
          have hf : fstI (atB voice t) l = -1 := fstI_none (by rw [hl]; exact hk)
          simp [h8, h0, h1, h2, gateAtV, hok, hv, ht, hf, Keeps.refl]
      · simp at ht
        simp [ht, gateAtV, hok, Keeps.refl]
    · simp at hv
      simp [hv, gateAtV, hok, Keeps.refl]
  · simp at hok
    simp [hok, gateAtV, Keeps.refl]
theorem GateAt_i {M : Mem} {A : Option Addr} {n c : Nat} {l : List Gate} (voice t : Int) (h : Sl gateR M A n l) (hn : n ≤ 1099511627776) : Det Try.prog M.length 23 [.slice A n c, iv voice, iv t] M (.tuple #[iv (gateAtV l voice t).1, iv (gateAtV l voice t).2]) M := by
  have hl := h.1
  first | (refine det_fn Try.func23 rfl Try.ntmps23 Try.results23 rfl rfl rfl (by simp) ?_) | (refine det_fnC Try.func23 rfl Try.ntmps23 Try.results23 rfl rfl (by simp) ?_)
  simp
  refine awCall_det' (areGates_a (h.app _) (by omega)) (by simp) ?_
  by_cases hok : okG l = true
  · simp [hok]
    refine awCall_det' (isVoice_a _) (by simp) ?_
    by_cases hv : inB voice 0 3 = true
    · simp [hv]
      refine awCall_det' (isCount_a _) (by simp) ?_
      by_cases ht : inB t 0 4000 = true
      · simp [ht]
        refine awCall_det' (IndexFunc_a (atB voice t) (h.app _) hn fun M' a hK ha => gateAt1_a a (cellAt_keeps hK (by simp)) (cellAt_keeps hK (by simp)) (by have := okG_el hok ha; omega) (by have := okG_el hok ha; omega)) (by simp) ?_
        by_cases hf : fstI (atB voice t) l < 0
        · simp [hf, gateAtV, hok, hv, ht, keeps_app]
        · simp (disch := omega) [hf, gateAtV, hok, hv, ht, keeps_app, wrap_in]
      · simp at ht
        simp [ht, gateAtV, hok, keeps_app]
    · simp at hv
      simp [hv, gateAtV, hok, keeps_app]
  · simp at hok
    simp [hok, gateAtV, keeps_app]
theorem GateAt_sl {M : Mem} {v : Value} {lo hi : Nat} {x : List Gate} {b t : Int} (hx : RdL gateR lo hi M v x) (ex : x.length ≤ 1048576) : Det Try.prog M.length 22 [v, iv b, iv t] M (.tuple #[iv (gateAtV x b t).1, iv (gateAtV x b t).2]) M := by
  obtain ⟨A, n, c, rfl, hn, hS, _⟩ := hx
  exact GateAt_s b t hS (by have := hS.1; omega)
theorem GateAt_il {M : Mem} {v : Value} {lo hi : Nat} {x : List Gate} {b t : Int} (hx : RdL gateR lo hi M v x) (ex : x.length ≤ 1048576) : Det Try.prog M.length 23 [v, iv b, iv t] M (.tuple #[iv (gateAtV x b t).1, iv (gateAtV x b t).2]) M := by
  obtain ⟨A, n, c, rfl, hn, hS, _⟩ := hx
  exact GateAt_i b t hS (by have := hS.1; omega)
end Go.Proofs.Ytdcfofaojalilaa
