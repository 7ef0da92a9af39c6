/- Instruments: the program's tests of nodes, tables, envelopes. No conditions. -/
import Derived.Test.YtffbocbjmhkikaaHP3
namespace Go.Proofs.Ytffbocbjmhkikaa
open Go.RowKit
set_option linter.unusedVariables false
set_option linter.unusedSimpArgs false
set_option maxRecDepth 100000
attribute [local simp] List.getElem?_cons_zero
attribute [local irreducible] awCond awCall awLoop awDraw ow retQ retC resQ Keeps
def sampleB (x : Int) : Bool := inB x (-2147483648) 2147483647
def areSB (l : List Int) : Bool := l.all sampleB
def idxB (n : Int) (l : List Int) : Bool := l.all fun x => inB x 0 (n - 1)
def tableB (t : List Int) : Bool := (decide (t.length = 2) || decide (t.length = 4) || decide (t.length = 8) || decide (t.length = 16)) && areSB t
def tablesB (ts : List (List Int)) : Bool := ts.all tableB && decide (ts.length ≤ 4)
def segB (s : Segment) : Bool := inB s.tg 0 65536 && inB s.ln 0 4000
def envB (e : Envl) : Bool := e.segs.all segB && inB e.st 0 65536 && inB e.rel 0 4000 && decide (e.segs.length ≤ 8)
theorem all_no {α : Type} [Inhabited α] {p : α → Bool} {l : List α} {k : Nat} (hk : k < l.length) (h : p (el l k) = false) : l.all p = false := by
  cases hh : l.all p with
  | false => rfl
  | true =>
    have := List.all_eq_true.1 hh _ (el_mem hk)
    rw [h] at this; cases this
theorem all_yes {α : Type} [Inhabited α] {p : α → Bool} {l : List α} (h : ∀ i, i < l.length → p (el l i) = true) : l.all p = true := by
  rw [List.all_eq_true]
  intro x hx
  obtain ⟨i, hi, rfl⟩ := List.getElem_of_mem hx
  rw [el_eq hi]
  exact h i hi
theorem areSamples_i {M : Mem} {lo hi : Nat} {u : Value} {l : List Int} (h : SlV intP lo hi M u l) : Det Try.prog M.length 108 [u] M (.bool (areSB l)) M := by
  obtain ⟨A, n, c, rfl, h1, h2, h3⟩ := h
  have hl := h3.1
  replace h3 := h3.sl
  first | (refine det_fn Try.func108 rfl Try.ntmps108 Try.results108 rfl rfl rfl (by simp) ?_) | (refine det_fnC Try.func108 rfl Try.ntmps108 Try.results108 rfl rfl (by simp) ?_)
  simp
  refine awLoop_T (fun m T M' => ∃ k : Nat, k + m = n ∧ M' = M ∧ look T 7 = some (iv k) ∧ look T 6 = some (iv n) ∧ look T 5 = some (.slice A n c) ∧ ∀ i, i < k → sampleB (el l i) = true) n ⟨0, by omega, rfl, by simp, by simp, by simp, fun i hi => by omega⟩ ?_
  rintro m T M' ⟨k, hm, rfl, t7, t6, t5, hk⟩
  by_cases hlt : k < n
  · obtain ⟨id, off, rfl, he, hc⟩ := h3.at_ hlt
    have c1 := int_cell hc
    simp only [Nat.mul_one] at c1
    simp (disch := omega) [t7, t6, t5, hlt, c1, he]
    refine awCall_det' (isSample_a (el l k)) (Nat.le_refl _) ?_
    by_cases hs : sampleB (el l k) = true
    · have hs' : inB (el l k) (-2147483648) 2147483647 = true := hs
      simp (disch := omega) [hs', t7, t6, t5, wrap_in]
      refine lpI (m - 1) (by omega) ⟨k + 1, by omega, rfl, by simp, by simp [t6], by simp [t5], fun i hi => ?_⟩
      by_cases e : i = k
      · rw [e]; exact hs
      · exact hk i (by omega)
    · rw [Bool.not_eq_true] at hs
      have hs' : inB (el l k) (-2147483648) 2147483647 = false := hs
      simp [hs']
      exact ⟨all_no (by omega) hs, Keeps.refl _⟩
  · obtain rfl : k = n := by omega
    simp [t7, t6, Keeps.refl]
    exact all_yes fun i hi => hk i (by omega)
theorem areIndices_i {M : Mem} {lo hi : Nat} {u : Value} {l : List Int} (q : Int) (hq : 0 ≤ q) (hq' : q ≤ 9223372036854775807) (h : SlV intP lo hi M u l) : Det Try.prog M.length 174 [u, iv q] M (.bool (idxB q l)) M := by
  obtain ⟨A, n, c, rfl, h1, h2, h3⟩ := h
  have hl := h3.1
  replace h3 := h3.sl
  first | (refine det_fn Try.func174 rfl Try.ntmps174 Try.results174 rfl rfl rfl (by simp) ?_) | (refine det_fnC Try.func174 rfl Try.ntmps174 Try.results174 rfl rfl (by simp) ?_)
  simp
  refine awLoop_T (fun m T M' => ∃ k : Nat, k + m = n ∧ M' = M ∧ look T 9 = some (iv k) ∧ look T 8 = some (iv n) ∧ look T 7 = some (.slice A n c) ∧ look T 1 = some (iv q) ∧ ∀ i, i < k → inB (el l i) 0 (q - 1) = true) n ⟨0, by omega, rfl, by simp, by simp, by simp, by simp, fun i hi => by omega⟩ ?_
  rintro m T M' ⟨k, hm, rfl, t7, t6, t5, t1, hk⟩
  by_cases hlt : k < n
  · obtain ⟨id, off, rfl, he, hc⟩ := h3.at_ hlt
    have c1 := int_cell hc
    simp only [Nat.mul_one] at c1
    simp (disch := omega) [t7, t6, t5, t1, hlt, c1, he, wrap_in]
    refine awCall_det' (within_a (el l k) 0 (q - 1)) (Nat.le_refl _) ?_
    by_cases hs : inB (el l k) 0 (q - 1) = true
    · simp (disch := omega) [hs, t7, t6, t5, t1, wrap_in]
      refine lpI (m - 1) (by omega) ⟨k + 1, by omega, rfl, by simp, by simp [t6], by simp [t5], by simp [t1], fun i hi => ?_⟩
      by_cases e : i = k
      · rw [e]; exact hs
      · exact hk i (by omega)
    · rw [Bool.not_eq_true] at hs
      simp [hs]
      exact ⟨all_no (by omega) hs, Keeps.refl _⟩
  · obtain rfl : k = n := by omega
    simp [t7, t6, Keeps.refl]
    exact all_yes fun i hi => hk i (by omega)
theorem areTables_i {M : Mem} {lo hi : Nat} {u : Value} {l : List (List Int)} (h : SlV tabP lo hi M u l) : Det Try.prog M.length 173 [u] M (.bool (tablesB l)) M := by
  obtain ⟨A, n, c, rfl, h1, h2, h3⟩ := h
  have hl := h3.1
  first | (refine det_fn Try.func173 rfl Try.ntmps173 Try.results173 rfl rfl rfl (by simp) ?_) | (refine det_fnC Try.func173 rfl Try.ntmps173 Try.results173 rfl rfl (by simp) ?_)
  simp
  refine awLoop_T (fun m T M' => ∃ k : Nat, k + m = n ∧ M' = M ∧ look T 8 = some (iv k) ∧ look T 7 = some (iv n) ∧ look T 6 = some (.slice A n c) ∧ look T 0 = some (.slice A n c) ∧ ∀ i, i < k → tableB (el l i) = true) n ⟨0, by omega, rfl, by simp, by simp, by simp, by simp, fun i hi => by omega⟩ ?_
  rintro m T M' ⟨k, hm, rfl, t8, t7, t6, t0, hk⟩
  by_cases hlt : k < n
  · obtain ⟨id, off, us, rfl, he, ⟨u, rfl, hu⟩, hc⟩ := h3.at_ hlt
    have c1 := (cl_cons.1 hc).1
    simp only [Nat.mul_one] at c1
    obtain ⟨A1, n1, c1', rfl, p1, p2, p3⟩ := (show SlV intP lo hi M' _ _ from hu)
    have hn1 := p3.1
    have no : tableB (el l k) = false → tablesB l = false := fun h => by unfold tablesB; rw [all_no (by omega) h]; rfl
    simp (disch := omega) [t8, t7, t6, t0, hlt, c1, he]
    have key : tableB (el l k) = ((decide (n1 = 2) || decide (n1 = 4) || decide (n1 = 8) || decide (n1 = 16)) && areSB (el l k)) := by unfold tableB; rw [hn1]
    by_cases hsz : n1 = 2 ∨ n1 = 4 ∨ n1 = 8 ∨ n1 = 16
    case neg =>
      have e2 : ¬ n1 = 2 := by omega
      have e4 : ¬ n1 = 4 := by omega
      have e8 : ¬ n1 = 8 := by omega
      have e16 : ¬ n1 = 16 := by omega
      have f2 : ¬ (n1 : Int) = 2 := by omega
      have f4 : ¬ (n1 : Int) = 4 := by omega
      have f8 : ¬ (n1 : Int) = 8 := by omega
      have f16 : ¬ (n1 : Int) = 16 := by omega
      simp [f2, f4, f8, f16]
      exact ⟨no (by rw [key]; simp [e2, e4, e8, e16]), Keeps.refl _⟩
    have hpos : (decide (n1 = 2) || decide (n1 = 4) || decide (n1 = 8) || decide (n1 = 16)) = true := by
      rcases hsz with h | h | h | h <;> simp [h]
    rw [hpos, Bool.true_and] at key
    rcases hsz with h | h | h | h
    all_goals
      subst h
      simp
      refine awCall_det' (areSamples_i hu) (Nat.le_refl _) ?_
      by_cases hs : areSB (el l k) = true
      · simp (disch := omega) [hs, t8, t7, t6, t0, wrap_in]
        refine lpI (m - 1) (by omega) ⟨k + 1, by omega, rfl, by simp, by simp [t7], by simp [t6], by simp [t0], fun i hi => ?_⟩
        by_cases e : i = k
        · rw [e, key]; exact hs
        · exact hk i (by omega)
      · rw [Bool.not_eq_true] at hs
        simp [hs]
        exact ⟨no (by rw [key]; exact hs), Keeps.refl _⟩
  · obtain rfl : k = n := by omega
    simp [t8, t7, t0, Keeps.refl]
    unfold tablesB
    rw [all_yes fun i hi => hk i (by omega), hl]
    by_cases h4 : k ≤ 4 <;> simp [h4] <;> omega
theorem isEnvelope_i {M : Mem} {lo hi : Nat} {us : List Value} {x : Envl} (h : envP.rd lo hi M x us) : Det Try.prog M.length 107 [.agg us.toArray] M (.bool (envB x)) M := by
  obtain ⟨u, rfl, hu⟩ := h
  obtain ⟨A, n, c, rfl, h1, h2, h3⟩ := hu
  have hl := h3.1
  replace h3 := h3.sl
  have lev : ∀ {M : Mem} (z : Int), Det Try.prog M.length 150 [iv z] M (.bool (inB z 0 65536)) M := fun {M} z => by
    first | (refine det_fn Try.func150 rfl Try.ntmps150 Try.results150 rfl rfl rfl (by simp) ?_) | (refine det_fnC Try.func150 rfl Try.ntmps150 Try.results150 rfl rfl (by simp) ?_)
    simp
    refine awCall_det' (within_a _ _ _) (by simp) ?_
    simp [Keeps.refl]
  first | (refine det_fn Try.func107 rfl Try.ntmps107 Try.results107 rfl rfl rfl (by simp) ?_) | (refine det_fnC Try.func107 rfl Try.ntmps107 Try.results107 rfl rfl (by simp) ?_)
  simp
  obtain ⟨M0, hM0⟩ : ∃ M0 : Mem, M0 = M ++ [Slot.live ⟨[iv x.st, .slice A n c, iv x.rel], true, true, 39, 3⟩] := ⟨_, rfl⟩
  have k0 : Keeps M M0 := by rw [hM0]; exact keeps_app _
  have b0 : cellAt M0 M.length 0 = some (iv x.st) := by rw [hM0]; simp
  have b1 : cellAt M0 M.length 1 = some (.slice A n c) := by rw [hM0]; simp
  have b2 : cellAt M0 M.length 2 = some (iv x.rel) := by rw [hM0]; simp
  have l0 := k0.len
  rw [← hM0]
  clear hM0
  refine awLoop_T (fun m T M' => ∃ k : Nat, k + m = n ∧ Keeps M0 M' ∧ look T 8 = some (iv k) ∧ look T 7 = some (iv n) ∧ look T 6 = some (.slice A n c) ∧ look T 1 = some (.pointer (some ⟨M.length, 0, none⟩)) ∧ ∀ i, i < k → segB (el x.segs i) = true) n ⟨0, by omega, Keeps.refl _, by simp, by simp, by simp, by simp, fun i hi => by omega⟩ ?_
  rintro m T M1 ⟨k, hm, k1, t8, t7, t6, t1, hk⟩
  have k01 := k0.trans k1
  have l1 := k1.len
  by_cases hlt : k < n
  · obtain ⟨id, off, rfl, he, hc⟩ := (h3.keeps k01).at_ hlt
    have no : segB (el x.segs k) = false → envB x = false := fun h => by unfold envB; rw [all_no (by omega) h]; rfl
    simp (disch := omega) [t8, t7, t6, t1, hlt, segment_load hc, he]
    refine awCall_det' (lev (el x.segs k).tg) (by simp; omega) ?_
    by_cases g1 : inB (el x.segs k).tg 0 65536 = true
    · simp (disch := omega) [g1]
      refine awCall_det' (isCount_a (el x.segs k).ln) (by simp; omega) ?_
      by_cases g2 : inB (el x.segs k).ln 0 4000 = true
      · simp (disch := omega) [g2, t8, t7, t6, t1, wrap_in]
        refine lpI (m - 1) (by omega) ⟨k + 1, by omega, k1.app _, by simp, by simp [t7], by simp [t6], by simp [t1], fun i hi => ?_⟩
        by_cases e : i = k
        · rw [e]; unfold segB; rw [g1, g2]; rfl
        · exact hk i (by omega)
      · rw [Bool.not_eq_true] at g2
        simp [g2]
        exact ⟨no (by unfold segB; rw [g2]; simp), k01.app _⟩
    · rw [Bool.not_eq_true] at g1
      simp [g1]
      exact ⟨no (by unfold segB; rw [g1]; rfl), k01.app _⟩
  · obtain rfl : k = n := by omega
    have ha : x.segs.all segB = true := all_yes fun i hi => hk i (by omega)
    simp (disch := omega) [t8, t7, t1, cellAt_keeps k1 b0]
    refine awCall_det' (lev x.st) (by omega) ?_
    by_cases g1 : inB x.st 0 65536 = true
    · simp (disch := omega) [g1, t1, cellAt_keeps k1 b2]
      refine awCall_det' (isCount_a x.rel) (by omega) ?_
      by_cases g2 : inB x.rel 0 4000 = true
      · by_cases g3 : k ≤ 8
        · simp (disch := omega) [g2, t1, cellAt_keeps k1 b1, g3]
          exact ⟨by unfold envB; rw [ha, g1, g2, hl]; simpa using by omega, k01⟩
        · have g3' : ¬ (k : Int) ≤ 8 := by omega
          simp (disch := omega) [g2, t1, cellAt_keeps k1 b1, g3']
          exact ⟨by unfold envB; rw [ha, g1, g2, hl]; simpa using by omega, k01⟩
      · rw [Bool.not_eq_true] at g2
        simp [g2]
        exact ⟨by unfold envB; rw [g2]; simp, k01⟩
    · rw [Bool.not_eq_true] at g1
      simp [g1]
      exact ⟨by unfold envB; rw [g1]; simp, k01⟩
end Go.Proofs.Ytffbocbjmhkikaa
