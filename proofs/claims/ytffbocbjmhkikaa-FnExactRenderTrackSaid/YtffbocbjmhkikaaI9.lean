/- Instruments: the reference's tests of nodes, tables, envelopes. No conditions. -/
import Derived.Test.YtffbocbjmhkikaaI8
namespace Go.Proofs.Ytffbocbjmhkikaa
open Go.RowKit
set_option linter.unusedVariables false
set_option linter.unusedSimpArgs false
set_option maxRecDepth 100000
attribute [local simp] List.getElem?_cons_zero
attribute [local irreducible] awCond awCall awLoop awDraw ow retQ retC resQ Keeps
theorem l00Has_s {M : Mem} {lo hi : Nat} {u : Value} {l : List Int} (z : Int) (h : SlV intP lo hi M u l) : Det Try.prog M.length 169 [u, iv z] M (.bool (decide (z ∈ l))) M := by
  obtain ⟨A, n, c, rfl, h1, h2, h3⟩ := h
  have hl := h3.1
  replace h3 := h3.sl
  first | (refine det_fn Try.func169 rfl Try.ntmps169 Try.results169 rfl rfl rfl (by simp) ?_) | (refine det_fnC Try.func169 rfl Try.ntmps169 Try.results169 rfl rfl (by simp) ?_)
  simp
  refine awLoop_T (fun m T M' => ∃ k : Nat, k + m = n ∧ M' = M ∧ look T 5 = some (iv k) ∧ look T 0 = some (.slice A n c) ∧ look T 1 = some (iv z) ∧ ∀ i, i < k → el l i ≠ z) n ⟨0, by omega, rfl, by simp, by simp, by simp, fun i hi => by omega⟩ ?_
  rintro m T M' ⟨k, hm, rfl, t5, t0, t1, hk⟩
  by_cases hlt : k < n
  · obtain ⟨id, off, rfl, he, hc⟩ := h3.at_ hlt
    have c1 := int_cell hc
    simp only [Nat.mul_one] at c1
    by_cases hz : el l k = z
    · simp (disch := omega) [t5, t0, t1, hlt, c1, he, hz]
      refine ⟨?_, Keeps.refl _⟩
      rw [← hz]
      exact el_mem (by omega)
    · simp (disch := omega) [t5, t0, t1, hlt, c1, he, hz, wrap_in]
      refine lpI (m - 1) (by omega) ⟨k + 1, by omega, rfl, by simp, by simp [t0], by simp [t1], fun i hi => ?_⟩
      by_cases e : i = k
      · rw [e]; exact hz
      · exact hk i (by omega)
  · obtain rfl : k = n := by omega
    have hz : z ∉ l := fun hh => by
      obtain ⟨i, hi, e⟩ := List.getElem_of_mem hh
      rw [el_eq hi] at e
      exact hk i (by omega) e
    simp [t5, t0, Keeps.refl, hz]
theorem l04Samples_s {M : Mem} {lo hi : Nat} {u : Value} {l : List Int} (h : SlV intP lo hi M u l) : Det Try.prog M.length 105 [u] M (.bool (areSB l)) M := by
  obtain ⟨A, n, c, rfl, h1, h2, h3⟩ := h
  have hl := h3.1
  replace h3 := h3.sl
  first | (refine det_fn Try.func105 rfl Try.ntmps105 Try.results105 rfl rfl rfl (by simp) ?_) | (refine det_fnC Try.func105 rfl Try.ntmps105 Try.results105 rfl rfl (by simp) ?_)
  simp
  refine awLoop_T (fun m T M' => ∃ k : Nat, k + m = n ∧ M' = M ∧ look T 3 = some (iv k) ∧ look T 0 = some (.slice A n c) ∧ ∀ i, i < k → sampleB (el l i) = true) n ⟨0, by omega, rfl, by simp, by simp, fun i hi => by omega⟩ ?_
  rintro m T M' ⟨k, hm, rfl, t3, t0, hk⟩
  by_cases hlt : k < n
  · obtain ⟨id, off, rfl, he, hc⟩ := h3.at_ hlt
    have c1 := int_cell hc
    simp only [Nat.mul_one] at c1
    simp (disch := omega) [t3, t0, hlt, c1, he]
    refine awCall_det' (l01Sample_a (el l k)) (Nat.le_refl _) ?_
    by_cases hs : sampleB (el l k) = true
    · have hs' : inB (el l k) (-2147483648) 2147483647 = true := hs
      simp (disch := omega) [hs', t3, t0, wrap_in]
      refine lpI (m - 1) (by omega) ⟨k + 1, by omega, rfl, by simp, by simp [t0], fun i hi => ?_⟩
      by_cases e : i = k
      · rw [e]; exact hs
      · exact hk i (by omega)
    · rw [Bool.not_eq_true] at hs
      have hs' : inB (el l k) (-2147483648) 2147483647 = false := hs
      simp [hs']
      exact ⟨all_no (by omega) hs, Keeps.refl _⟩
  · obtain rfl : k = n := by omega
    simp [t3, t0, Keeps.refl]
    exact all_yes fun i hi => hk i (by omega)
theorem l03Ok_s {M : Mem} {lo hi : Nat} {u : Value} {l : List Int} (h : SlV intP lo hi M u l) (hb : l.length ≤ 4000) : Det Try.prog M.length 112 [u] M (.bool (areSB l)) M := by
  obtain ⟨A, n, c, rfl, h1, h2, h3⟩ := h
  have hl := h3.1
  replace h3 := h3.sl
  have e0 : ¬ (4000 : Int) < n := by omega
  first | (refine det_fn Try.func112 rfl Try.ntmps112 Try.results112 rfl rfl rfl (by simp) ?_) | (refine det_fnC Try.func112 rfl Try.ntmps112 Try.results112 rfl rfl (by simp) ?_)
  simp [e0]
  refine awLoop_T (fun m T M' => ∃ k : Nat, k + m = n ∧ M' = M ∧ look T 3 = some (iv k) ∧ look T 0 = some (.slice A n c) ∧ ∀ i, i < k → sampleB (el l i) = true) n ⟨0, by omega, rfl, by simp, by simp, fun i hi => by omega⟩ ?_
  rintro m T M' ⟨k, hm, rfl, t3, t0, hk⟩
  by_cases hlt : k < n
  · obtain ⟨id, off, rfl, he, hc⟩ := h3.at_ hlt
    have c1 := int_cell hc
    simp only [Nat.mul_one] at c1
    simp (disch := omega) [t3, t0, hlt, c1, he]
    refine awCall_det' (l01Sample_a (el l k)) (Nat.le_refl _) ?_
    by_cases hs : sampleB (el l k) = true
    · have hs' : inB (el l k) (-2147483648) 2147483647 = true := hs
      simp (disch := omega) [hs', t3, t0, wrap_in]
      refine lpI (m - 1) (by omega) ⟨k + 1, by omega, rfl, by simp, by simp [t0], fun i hi => ?_⟩
      by_cases e : i = k
      · rw [e]; exact hs
      · exact hk i (by omega)
    · rw [Bool.not_eq_true] at hs
      have hs' : inB (el l k) (-2147483648) 2147483647 = false := hs
      simp [hs']
      exact ⟨all_no (by omega) hs, Keeps.refl _⟩
  · obtain rfl : k = n := by omega
    simp [t3, t0, Keeps.refl]
    exact all_yes fun i hi => hk i (by omega)
theorem lit_slv {M : Mem} {l : List Int} {n : Nat} {cs : List Value} {e : TypeId} (hc : cs = cellsL intR l) (hn : l.length = n) (hb : n ≤ 1000) : SlV intP M.length (M ++ [Slot.live ⟨cs, true, true, e, 1⟩]).length (M ++ [Slot.live ⟨cs, true, true, e, 1⟩]) (.slice (some ⟨M.length, 0, none⟩) n n) l := by
  subst hc
  refine ⟨_, n, n, rfl, by omega, (fun h => by cases h), SlP.of_sl (Sl.new hn) fun a e _ => ?_⟩
  injection e with e
  subst e
  exact ⟨Nat.le_refl _, by simp⟩
theorem fill4I (a b c d : Int) : Instr.fill (fun i => some (i, 1)) (zrow [iv 0] 4).toArray [(0, iv a), (1, iv b), (2, iv c), (3, iv d)] = some #[iv a, iv b, iv c, iv d] := by rfl
theorem l06Tables_s {M : Mem} {lo hi : Nat} {u : Value} {l : List (List Int)} (h : SlV tabP lo hi M u l) : Det Try.prog M.length 167 [u] M (.bool (tablesB l)) M := by
  obtain ⟨A, n, c, rfl, h1, h2, h3⟩ := h
  have hl := h3.1
  first | (refine det_fn Try.func167 rfl Try.ntmps167 Try.results167 rfl rfl rfl (by simp) ?_) | (refine det_fnC Try.func167 rfl Try.ntmps167 Try.results167 rfl rfl (by simp) ?_)
  simp
  refine awLoop_T (fun m T M' => ∃ k : Nat, k + m = n ∧ Keeps M M' ∧ look T 3 = some (iv k) ∧ look T 0 = some (.slice A n c) ∧ ∀ i, i < k → tableB (el l i) = true) n ⟨0, by omega, Keeps.refl _, by simp, by simp, fun i hi => by omega⟩ ?_
  rintro m T M1 ⟨k, hm, k1, t3, t0, hk⟩
  have l1 := k1.len
  by_cases hlt : k < n
  · obtain ⟨id, off, us, rfl, he, ⟨u, rfl, hu⟩, hc⟩ := (h3.keeps k1).at_ hlt
    have c1 := (cl_cons.1 hc).1
    simp only [Nat.mul_one] at c1
    have hu2 := hu
    obtain ⟨A1, n1, c1', rfl, p1, p2, p3⟩ := hu2
    have hn1 := p3.1
    have no : tableB (el l k) = false → tablesB l = false := fun h => by unfold tablesB; rw [all_no (by omega) h]; rfl
    have key : tableB (el l k) = (decide ((n1 : Int) ∈ [2, 4, 8, 16]) && areSB (el l k)) := by
      unfold tableB
      rw [hn1]
      congr 1
      rw [Bool.eq_iff_iff]
      simp
      omega
    simp (disch := omega) [t3, t0, hlt, fill4I, cellAt_app c1, he, rowEsz_keeps (keeps_app _) he]
    have hd := l00Has_s (n1 : Int) (lit_slv (M := M1) (n := 4) (l := [2, 4, 8, 16]) (cs := [iv 2, iv 4, iv 8, iv 16]) (e := 2) rfl rfl (by omega))
    refine awCall_det' hd (by simp; omega) ?_
    by_cases g1 : (n1 : Int) ∈ ([2, 4, 8, 16] : List Int)
    case neg =>
      rw [decide_eq_false g1] at key ⊢
      simp
      exact ⟨no (by rw [key]; rfl), k1.app _⟩
    rw [decide_eq_true g1] at key ⊢
    simp (disch := omega) [t3, t0, hlt, cellAt_app c1, rowEsz_keeps (keeps_app _) he]
    refine awCall_det' (l03Ok_s (hu.app _) (by simp at g1; omega)) (by simp; omega) ?_
    by_cases hs : areSB (el l k) = true
    · simp (disch := omega) [hs, t3, t0, wrap_in]
      refine lpI (m - 1) (by omega) ⟨k + 1, by omega, k1.app _, by simp, by simp [t0], fun i hi => ?_⟩
      by_cases e : i = k
      · rw [e, key]; exact hs
      · exact hk i (by omega)
    · rw [Bool.not_eq_true] at hs
      simp [hs]
      exact ⟨no (by rw [key]; exact hs), k1.app _⟩
  · obtain rfl : k = n := by omega
    simp [t3, t0]
    refine ⟨?_, k1⟩
    unfold tablesB
    rw [all_yes fun i hi => hk i (by omega), hl]
    by_cases h4 : k ≤ 4 <;> simp [h4] <;> omega
theorem l14Ok_s {M : Mem} {lo hi id0 off0 : Nat} {us : List Value} {x : Envl} (h : envP.rd lo hi M x us) (hc0 : Cl M id0 off0 us) : Det Try.prog M.length 93 [.pointer (some ⟨id0, off0, none⟩)] M (.bool (envB x)) M := by
  obtain ⟨u, rfl, hu⟩ := h
  obtain ⟨A, n, c, rfl, h1, h2, h3⟩ := hu
  have hl := h3.1
  replace h3 := h3.sl
  have b0 : cellAt M id0 off0 = some (iv x.st) := hc0 0 _ rfl
  have b1 : cellAt M id0 (off0 + 1) = some (.slice A n c) := hc0 1 _ rfl
  have b2 : cellAt M id0 (off0 + 2) = some (iv x.rel) := hc0 2 _ rfl
  have lev : ∀ {M : Mem} (z : Int), Det Try.prog M.length 138 [iv z] M (.bool (inB z 0 65536)) M := fun {M} z => by
    first | (refine det_fn Try.func138 rfl Try.ntmps138 Try.results138 rfl rfl rfl (by simp) ?_) | (refine det_fnC Try.func138 rfl Try.ntmps138 Try.results138 rfl rfl (by simp) ?_)
    simp
    refine awCall_det' (l00In_a _ _ _) (by simp) ?_
    simp [Keeps.refl]
  have len : ∀ {M : Mem} (z : Int), Det Try.prog M.length 137 [iv z] M (.bool (inB z 0 4000)) M := fun {M} z => by
    first | (refine det_fn Try.func137 rfl Try.ntmps137 Try.results137 rfl rfl rfl (by simp) ?_) | (refine det_fnC Try.func137 rfl Try.ntmps137 Try.results137 rfl rfl (by simp) ?_)
    simp
    refine awCall_det' (l00In_a _ _ _) (by simp) ?_
    simp [Keeps.refl]
  first | (refine det_fn Try.func93 rfl Try.ntmps93 Try.results93 rfl rfl rfl (by simp) ?_) | (refine det_fnC Try.func93 rfl Try.ntmps93 Try.results93 rfl rfl (by simp) ?_)
  simp
  refine awLoop_T (fun m T M' => ∃ k : Nat, k + m = n ∧ M' = M ∧ look T 3 = some (iv k) ∧ look T 0 = some (.pointer (some ⟨id0, off0, none⟩)) ∧ ∀ i, i < k → segB (el x.segs i) = true) n ⟨0, by omega, rfl, by simp, by simp, fun i hi => by omega⟩ ?_
  rintro m T M1 ⟨k, hm, rfl, t3, t0, hk⟩
  by_cases hlt : k < n
  · obtain ⟨id, off, rfl, he, hc⟩ := h3.at_ hlt
    obtain ⟨c0, c1⟩ := segment_cells hc
    have no : segB (el x.segs k) = false → envB x = false := fun h => by unfold envB; rw [all_no (by omega) h]; rfl
    simp (disch := omega) [t3, t0, hlt, b1, he, c0, c1]
    refine awCall_det' (len (el x.segs k).ln) (by omega) ?_
    by_cases g2 : inB (el x.segs k).ln 0 4000 = true
    · simp (disch := omega) [g2, t3, t0, hlt, b1, he, c0, c1]
      refine awCall_det' (lev (el x.segs k).tg) (by omega) ?_
      by_cases g1 : inB (el x.segs k).tg 0 65536 = true
      · simp (disch := omega) [g1, t3, t0, wrap_in]
        refine lpI (m - 1) (by omega) ⟨k + 1, by omega, rfl, by simp, by simp [t0], fun i hi => ?_⟩
        by_cases e : i = k
        · rw [e]; unfold segB; rw [g1, g2]; rfl
        · exact hk i (by omega)
      · rw [Bool.not_eq_true] at g1
        simp [g1]
        exact ⟨no (by unfold segB; rw [g1]; rfl), Keeps.refl _⟩
    · rw [Bool.not_eq_true] at g2
      simp [g2]
      exact ⟨no (by unfold segB; rw [g2]; simp), Keeps.refl _⟩
  · obtain rfl : k = n := by omega
    have ha : x.segs.all segB = true := all_yes fun i hi => hk i (by omega)
    simp (disch := omega) [t3, t0, b0, b1]
    refine awCall_det' (lev x.st) (by omega) ?_
    by_cases g1 : inB x.st 0 65536 = true
    · simp (disch := omega) [g1, t0, b2]
      refine awCall_det' (len x.rel) (by omega) ?_
      by_cases g2 : inB x.rel 0 4000 = true
      · by_cases g3 : k ≤ 8
        · simp (disch := omega) [g2, t0, b1, g3]
          exact ⟨by unfold envB; rw [ha, g1, g2, hl]; simpa using by omega, Keeps.refl _⟩
        · have g3' : ¬ (k : Int) ≤ 8 := by omega
          simp (disch := omega) [g2, t0, b1, g3']
          exact ⟨by unfold envB; rw [ha, g1, g2, hl]; simpa using by omega, Keeps.refl _⟩
      · rw [Bool.not_eq_true] at g2
        simp [g2]
        exact ⟨by unfold envB; rw [g2]; simp, Keeps.refl _⟩
    · rw [Bool.not_eq_true] at g1
      simp [g1]
      exact ⟨by unfold envB; rw [g1]; simp, Keeps.refl _⟩
end Go.Proofs.Ytffbocbjmhkikaa
