/- Gates: contracts of the functions on one gate. No conditions. -/
import Derived.Test.YtdcfofaojalilaaHGate
namespace Go.Proofs.Ytdcfofaojalilaa
open Go.RowKit
set_option linter.unusedVariables false
set_option linter.unusedSimpArgs false
set_option maxRecDepth 100000
attribute [local simp] List.getElem?_cons_zero
attribute [local irreducible] awCond awCall awLoop awDraw ow retQ retC resQ Keeps
def gateB (g : Gate) : Bool := inB g.o 0 3 && decide (0 ≤ g.s) && decide (g.s < g.e) && decide (g.e ≤ 4000) && inB g.k 0 127 && inB g.u 1 127
theorem l21Gate_a {M : Mem} {id off : Nat} {g : Gate} (h : Cl M id off g.row) : Det Try.prog M.length 58 [.pointer (some ⟨id, off, none⟩)] M (.bool (gateB g)) M := by
  obtain ⟨h0, h1, h2, h3, h4⟩ := gate_cells h
  first | (refine det_fn Try.func58 rfl Try.ntmps58 Try.results58 rfl rfl rfl (by simp) ?_) | (refine det_fnC Try.func58 rfl Try.ntmps58 Try.results58 rfl rfl (by simp) ?_)
  simp
  refine awDraw_E 21 [[],[0],[1,0],[2,1,0],[3,2,1,0],[4,3,2,1,0],[5,4,3,2,1,0],[6,5,4,3,2,1,0],[7,6,5,4,3,2,1,0],[8,7,6,5,4,3,2,1,0],[9,8,7,6,5,4,3,2,1,0],[5,4,3,2,1,0,10,9,8,7,6],[11,5,4,3,2,1,0,10,9,8,7,6],[12,11,5,4,3,2,1,0,10,9,8,7,6],[13,12,11,5,4,3,2,1,0,10,9,8,7,6],[14,13,12,11,5,4,3,2,1,0,10,9,8,7,6],[15,14,13,12,11,5,4,3,2,1,0,10,9,8,7,6],[12,11,5,4,3,2,1,0,10,9,8,7,6],[17,12,11,5,4,3,2,1,0,10,9,8,7,6],[18,17,12,11,5,4,3,2,1,0,10,9,8,7,6],[19,18,17,12,11,5,4,3,2,1,0,10,9,8,7,6],[16,15,14,13,12,11,5,4,3,2,1,0,10,9,8,7,6,20,19,18,17],[12,11,5,4,3,2,1,0,10,9,8,7,6,21,16,15,14,13,20,19,18,17],[22,12,11,5,4,3,2,1,0,10,9,8,7,6,21,16,15,14,13,20,19,18,17],[23,22,12,11,5,4,3,2,1,0,10,9,8,7,6,21,16,15,14,13,20,19,18,17],[24,23,22,12,11,5,4,3,2,1,0,10,9,8,7,6,21,16,15,14,13,20,19,18,17],[25,24,23,22,12,11,5,4,3,2,1,0,10,9,8,7,6,21,16,15,14,13,20,19,18,17],[26,25,24,23,22,12,11,5,4,3,2,1,0,10,9,8,7,6,21,16,15,14,13,20,19,18,17],[27,26,25,24,23,22,12,11,5,4,3,2,1,0,10,9,8,7,6,21,16,15,14,13,20,19,18,17],[23,22,12,11,5,4,3,2,1,0,10,9,8,7,6,21,16,15,14,13,20,19,18,17,28,27,26,25,24],[29,23,22,12,11,5,4,3,2,1,0,10,9,8,7,6,21,16,15,14,13,20,19,18,17,28,27,26,25,24],[30,29,23,22,12,11,5,4,3,2,1,0,10,9,8,7,6,21,16,15,14,13,20,19,18,17,28,27,26,25,24],[31,30,29,23,22,12,11,5,4,3,2,1,0,10,9,8,7,6,21,16,15,14,13,20,19,18,17,28,27,26,25,24],[32,31,30,29,23,22,12,11,5,4,3,2,1,0,10,9,8,7,6,21,16,15,14,13,20,19,18,17,28,27,26,25,24],[33,32,31,30,29,23,22,12,11,5,4,3,2,1,0,10,9,8,7,6,21,16,15,14,13,20,19,18,17,28,27,26,25,24],[34,33,32,31,30,29,23,22,12,11,5,4,3,2,1,0,10,9,8,7,6,21,16,15,14,13,20,19,18,17,28,27,26,25,24],[30,29,23,22,12,11,5,4,3,2,1,0,10,9,8,7,6,21,16,15,14,13,20,19,18,17,28,27,26,25,24,35,34,33,32,31],[36,30,29,23,22,12,11,5,4,3,2,1,0,10,9,8,7,6,21,16,15,14,13,20,19,18,17,28,27,26,25,24,35,34,33,32,31],[37,36,30,29,23,22,12,11,5,4,3,2,1,0,10,9,8,7,6,21,16,15,14,13,20,19,18,17,28,27,26,25,24,35,34,33,32,31],[38,37,36,30,29,23,22,12,11,5,4,3,2,1,0,10,9,8,7,6,21,16,15,14,13,20,19,18,17,28,27,26,25,24,35,34,33,32,31],[39,38,37,36,30,29,23,22,12,11,5,4,3,2,1,0,10,9,8,7,6,21,16,15,14,13,20,19,18,17,28,27,26,25,24,35,34,33,32,31],[40,39,38,37,36,30,29,23,22,12,11,5,4,3,2,1,0,10,9,8,7,6,21,16,15,14,13,20,19,18,17,28,27,26,25,24,35,34,33,32,31],[41,40,39,38,37,36,30,29,23,22,12,11,5,4,3,2,1,0,10,9,8,7,6,21,16,15,14,13,20,19,18,17,28,27,26,25,24,35,34,33,32,31],[37,36,30,29,23,22,12,11,5,4,3,2,1,0,10,9,8,7,6,21,16,15,14,13,20,19,18,17,28,27,26,25,24,35,34,33,32,31,42,41,40,39,38],[43,37,36,30,29,23,22,12,11,5,4,3,2,1,0,10,9,8,7,6,21,16,15,14,13,20,19,18,17,28,27,26,25,24,35,34,33,32,31,42,41,40,39,38]] (by kernel_rfl) (by kernel_rfl) ?_
  simp [h0]
  refine awCall_det' (l00In_a _ _ _) (by simp) ?_
  simp
  repeat' (first | (refine guardV_split ?_ ?_ <;> intro _) | (refine awCall_det' (l00In_a _ _ _) (by simp) ?_) | (simp [*]))
  all_goals (simp_all [gateB, Keeps.refl] <;> omega)
theorem isGate_a {M : Mem} (g : Gate) : Det Try.prog M.length 59 [g.v] M (.bool (gateB g)) M := by
  first | (refine det_fn Try.func59 rfl Try.ntmps59 Try.results59 rfl rfl rfl (by simp) ?_) | (refine det_fnC Try.func59 rfl Try.ntmps59 Try.results59 rfl rfl (by simp) ?_)
  simp
  repeat' (first | (refine guardV_split ?_ ?_ <;> intro _) | (refine awCall_det' (isVoice_a _) (by simp) ?_) | (refine awCall_det' (isKey_a _) (by simp) ?_) | (refine awCall_det' (within_a _ _ _) (by simp) ?_) | (simp [*]))
  all_goals (simp_all [gateB, keeps_app] <;> omega)
def okG (l : List Gate) : Bool := decide (∀ i, i < l.length → gateB (el l i) = true ∧ (0 < i → (el l (i - 1)).s ≤ (el l i).s)) && decide (l.length ≤ 60)
theorem okG_of {l : List Gate} (h : ∀ i, i < l.length → gateB (el l i) = true ∧ (0 < i → (el l (i - 1)).s ≤ (el l i).s)) : okG l = decide (l.length ≤ 60) := by
  unfold okG; rw [decide_eq_true h, Bool.true_and]
theorem okG_not {l : List Gate} {i : Nat} (hi : i < l.length) (h : ¬ (gateB (el l i) = true ∧ (0 < i → (el l (i - 1)).s ≤ (el l i).s))) : okG l = false := by
  unfold okG; rw [decide_eq_false (fun h' => h (h' i hi)), Bool.false_and]
theorem l21Ok_a {M : Mem} {A : Option Addr} {n c : Nat} {l : List Gate} (h : Sl gateR M A n l) (hn : n ≤ 4611686018427387904) : Det Try.prog M.length 40 [.slice A n c] M (.bool (okG l)) M := by
  have hl := h.1
  first | (refine det_fn Try.func40 rfl Try.ntmps40 Try.results40 rfl rfl rfl (by simp) ?_) | (refine det_fnC Try.func40 rfl Try.ntmps40 Try.results40 rfl rfl (by simp) ?_)
  simp
  refine awLoop_T (fun m T M' => ∃ k : Nat, k + m = n ∧ M' = M ∧ look T 3 = some (iv k) ∧ look T 0 = some (.slice A n c) ∧ ∀ i, i < k → gateB (el l i) = true ∧ (0 < i → (el l (i - 1)).s ≤ (el l i).s)) n ⟨0, by omega, rfl, by simp, by simp, by omega⟩ ?_
  rintro m T M' ⟨k, hm, rfl, h3, h0, hk⟩
  by_cases hlt : k < n
  · obtain ⟨id, off, rfl, he, hc⟩ := h.at_ hlt
    obtain ⟨c0, c1, c2, c3, c4⟩ := gate_cells hc
    simp (disch := omega) [h3, h0, hlt, wrap_in]
    refine awDraw_E 20 [[],[],[0,1],[2,0,1],[3,2,0,1],[4,3,2,0,1],[5,4,3,2,0,1],[6,5,4,3,2,0,1],[7,6,5,4,3,2,0,1],[8,7,6,5,4,3,2,0,1],[8,7,6,5,4,3,2,0,1],[10,8,7,6,5,4,3,2,0,1],[9,8,7,6,5,4,3,2,0,1,11,10],[12,9,8,7,6,5,4,3,2,0,1,11,10],[13,12,9,8,7,6,5,4,3,2,0,1,11,10],[8,7,6,5,4,3,2,0,1],[8,7,6,5,4,3,2,0,1],[15,8,7,6,5,4,3,2,0,1,16],[17,15,8,7,6,5,4,3,2,0,1,16],[18,17,15,8,7,6,5,4,3,2,0,1,16],[14,13,12,9,8,7,6,5,4,3,2,0,1,11,10,19,18,17,15,16],[8,7,6,5,4,3,2,0,1,20,14,13,12,9,11,10,19,18,17,15,16],[5,4,3,2,0,1,21,8,7,6,20,14,13,12,9,11,10,19,18,17,15,16]] (by kernel_rfl) (by kernel_rfl) ?_
    simp (disch := omega) [h3, h0, hlt, wrap_in]
    refine awCall_det' (l21Gate_a hc) (by simp) ?_
    have hkl : k < l.length := by omega
    simp
    cases hg : gateB (el l k)
    · simp (disch := omega) [h3, hg]
      rw [okG_not hkl (by simp [hg])]
      simp [Keeps.refl]
    · simp (disch := omega) [h3, hg]
      rcases k with _ | j
      · simp (disch := omega) [h3, h0, wrap_in]
        refine lpI (m - 1) (by omega) ?_
        refine ⟨1, by omega, rfl, by simp, by simp [h0], ?_⟩
        intro i hi
        obtain rfl : i = 0 := by omega
        simp [hg]
      · obtain ⟨_, _, he', _, hc'⟩ := h.at_ (i := j) (by omega)
        cases he'
        obtain ⟨_, d1, _⟩ := gate_cells hc'
        simp (disch := omega) [h0, h3, wrap_in, c1, d1]
        refine ⟨by omega, by omega, ?_⟩
        refine awCond_split ?_ ?_ <;> intro hs
        · simp at hs
          simp
          rw [okG_not hkl (by simp; omega)]
          simp [Keeps.refl]
        · simp at hs
          simp (disch := omega) [h3, h0, wrap_in]
          refine lpI (m - 1) (by omega) ?_
          refine ⟨j + 1 + 1, by omega, rfl, by simp, by simp [h0], ?_⟩
          intro i hi
          by_cases hi' : i < j + 1
          · exact hk i hi'
          · obtain rfl : i = j + 1 := by omega
            simp [hg, hs]
  · obtain rfl : k = n := by omega
    simp [h3, h0]
    rw [okG_of (by rw [hl]; exact hk), hl]
    simp [Keeps.refl]
    omega
theorem areGates_a {M : Mem} {A : Option Addr} {n c : Nat} {l : List Gate} (h : Sl gateR M A n l) (hn : n ≤ 4611686018427387904) : Det Try.prog M.length 41 [.slice A n c] M (.bool (okG l)) M := by
  have hl := h.1
  first | (refine det_fn Try.func41 rfl Try.ntmps41 Try.results41 rfl rfl rfl (by simp) ?_) | (refine det_fnC Try.func41 rfl Try.ntmps41 Try.results41 rfl rfl (by simp) ?_)
  simp
  refine awLoop_T (fun m T M' => ∃ k : Nat, k + m = n ∧ Keeps M M' ∧ look T 7 = some (iv k) ∧ look T 6 = some (iv n) ∧ look T 5 = some (.slice A n c) ∧ look T 0 = some (.slice A n c) ∧ ∀ i, i < k → gateB (el l i) = true ∧ (0 < i → (el l (i - 1)).s ≤ (el l i).s)) n ⟨0, by omega, Keeps.refl _, by simp, by simp, by simp, by simp, by omega⟩ ?_
  rintro m T M' ⟨k, hm, hK, h7, h6, h5, h0, hk⟩
  by_cases hlt : k < n
  · have h' := h.keeps hK
    have hKl := hK.len
    obtain ⟨id, off, rfl, he, hc⟩ := h'.at_ hlt
    obtain ⟨c0, c1, c2, c3, c4⟩ := gate_cells hc
    have hkl : k < l.length := by omega
    simp (disch := omega) [h7, h6, h5, h0, hlt, wrap_in, gate_load hc]
    refine awDraw_E 15 [[],[0],[1,0],[2,1,0],[3,2,1,0],[4,3,2,1,0],[5,4,3,2,1,0],[6,5,4,3,2,1,0],[7,6,5,4,3,2,1,0],[6,5,4,3,2,1,0],[6,5,4,3,2,1,0],[10,6,5,4,3,2,1,0],[9,6,5,4,3,2,1,0,11,10],[12,9,6,5,4,3,2,1,0,11,10],[13,12,9,6,5,4,3,2,1,0,11,10],[8,7,6,5,4,3,2,1,0,14,13,12,9,11,10],[6,5,4,3,2,1,0,15,8,7,14,13,12,9,11,10],[3,2,1,0,16,6,5,4,15,8,7,14,13,12,9,11,10]] (by kernel_rfl) (by kernel_rfl) ?_
    simp (disch := omega) [h7, h6, h5, h0, hlt, wrap_in]
    refine awCall_det' (isGate_a (el l k)) (by simp <;> omega) ?_
    simp
    cases hg : gateB (el l k)
    · simp (disch := omega) [h0, h7, hg]
      rw [okG_not hkl (by simp [hg])]
      simp [hK.app]
    · simp (disch := omega) [h0, h7, hg]
      rcases k with _ | j
      · simp (disch := omega) [h7, h6, h5, h0, wrap_in]
        refine lpI (m - 1) (by omega) ?_
        refine ⟨1, by omega, hK.app _, by simp, by simp [h6], by simp [h5], by simp [h0], ?_⟩
        intro i hi
        obtain rfl : i = 0 := by omega
        simp [hg]
      · obtain ⟨_, _, he', _, hc'⟩ := h'.at_ (i := j) (by omega)
        cases he'
        obtain ⟨_, d1, _⟩ := gate_cells hc'
        simp (disch := omega) [h0, h7, wrap_in, cellAt_app c1, cellAt_app d1, rowEsz_keeps (keeps_app _) he]
        refine ⟨by omega, ?_⟩
        refine awCond_split ?_ ?_ <;> intro hs
        · simp at hs
          simp
          rw [okG_not hkl (by simp; omega)]
          simp [hK.app]
        · simp at hs
          simp (disch := omega) [h7, h6, h5, h0, wrap_in]
          refine lpI (m - 1) (by omega) ?_
          refine ⟨j + 1 + 1, by omega, hK.app _, by simp, by simp [h6], by simp [h5], by simp [h0], ?_⟩
          intro i hi
          by_cases hi' : i < j + 1
          · exact hk i hi'
          · obtain rfl : i = j + 1 := by omega
            simp [hg, hs]
  · obtain rfl : k = n := by omega
    simp [h7, h6, h5, h0]
    rw [okG_of (by rw [hl]; exact hk), hl]
    simp [hK]
    try omega
theorem ValidGates_s {M : Mem} {A : Option Addr} {n c : Nat} {l : List Gate} (h : Sl gateR M A n l) (hn : n ≤ 4611686018427387904) : Det Try.prog M.length 18 [.slice A n c] M (.bool (okG l)) M := by
  first | (refine det_fn Try.func18 rfl Try.ntmps18 Try.results18 rfl rfl rfl (by simp) ?_) | (refine det_fnC Try.func18 rfl Try.ntmps18 Try.results18 rfl rfl (by simp) ?_)
  simp
  refine awCall_det' (l21Ok_a h hn) (Nat.le_refl _) ?_
  simp [Keeps.refl]
theorem ValidGates_i {M : Mem} {A : Option Addr} {n c : Nat} {l : List Gate} (h : Sl gateR M A n l) (hn : n ≤ 4611686018427387904) : Det Try.prog M.length 19 [.slice A n c] M (.bool (okG l)) M := by
  first | (refine det_fn Try.func19 rfl Try.ntmps19 Try.results19 rfl rfl rfl (by simp) ?_) | (refine det_fnC Try.func19 rfl Try.ntmps19 Try.results19 rfl rfl (by simp) ?_)
  simp
  refine awCall_det' (areGates_a h hn) (Nat.le_refl _) ?_
  simp [Keeps.refl]
theorem ValidGates_sl {M : Mem} {v : Value} {lo hi : Nat} {l : List Gate} (h : RdL gateR lo hi M v l) (hl : l.length ≤ 1048576) : Det Try.prog M.length 18 [v] M (.bool (okG l)) M := by
  obtain ⟨A, n, c, rfl, hn, hS, _⟩ := h
  exact ValidGates_s hS (by have := hS.1; omega)
theorem ValidGates_il {M : Mem} {v : Value} {lo hi : Nat} {l : List Gate} (h : RdL gateR lo hi M v l) (hl : l.length ≤ 1048576) : Det Try.prog M.length 19 [v] M (.bool (okG l)) M := by
  obtain ⟨A, n, c, rfl, hn, hS, _⟩ := h
  exact ValidGates_i hS (by have := hS.1; omega)
end Go.Proofs.Ytdcfofaojalilaa
