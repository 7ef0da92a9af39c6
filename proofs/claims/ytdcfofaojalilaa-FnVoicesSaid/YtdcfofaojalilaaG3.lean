/- Gates: playable, polyphony. No conditions. -/
import Derived.Test.YtdcfofaojalilaaG2
namespace Go.Proofs.Ytdcfofaojalilaa
open Go.RowKit
set_option linter.unusedVariables false
set_option linter.unusedSimpArgs false
set_option maxRecDepth 100000
attribute [local simp] List.getElem?_cons_zero
attribute [local irreducible] awCond awCall awLoop awDraw ow retQ retC resQ Keeps
def playB (l : List Gate) : Bool := decide (∀ i, i < l.length → ∀ k, k < i → ¬ ((el l k).o = (el l i).o ∧ (el l i).s < (el l k).e))
theorem playB_not {l : List Gate} {i k : Nat} (hi : i < l.length) (hk : k < i) (h : (el l k).o = (el l i).o ∧ (el l i).s < (el l k).e) : playB l = false := decide_eq_false fun h' => h' i hi k hk h
theorem l21Playable_a {M : Mem} {A : Option Addr} {n c : Nat} {l : List Gate} (h : Sl gateR M A n l) (hn : n ≤ 1099511627776) : Det Try.prog M.length 42 [.slice A n c] M (.bool (playB l)) M := by
  have hl := h.1
  first | (refine det_fn Try.func42 rfl Try.ntmps42 Try.results42 rfl rfl rfl (by simp) ?_) | (refine det_fnC Try.func42 rfl Try.ntmps42 Try.results42 rfl rfl (by simp) ?_)
  simp
  refine awLoop_T (fun m T M' => ∃ i : Nat, i + m = n ∧ M = M' ∧ look T 3 = some (iv i) ∧ look T 0 = some (.slice A n c) ∧ ∀ j, j < i → ∀ k, k < j → ¬ ((el l k).o = (el l j).o ∧ (el l j).s < (el l k).e)) n ⟨0, by omega, rfl, by simp, by simp, by omega⟩ ?_
  rintro m T M' ⟨i, hm, rfl, h3, h0, hi⟩
  by_cases hlt : i < n
  · simp (disch := omega) [h3, h0, hlt, wrap_in]
    refine awLoop_T (fun m T M' => ∃ k : Nat, k + m = i ∧ M = M' ∧ look T 4 = some (iv k) ∧ look T 3 = some (iv i) ∧ look T 0 = some (.slice A n c) ∧ ∀ j, j < k → ¬ ((el l j).o = (el l i).o ∧ (el l i).s < (el l j).e)) i ⟨0, by omega, rfl, by simp, by simp [h3], by simp [h0], by omega⟩ ?_
    rintro m2 T2 M' ⟨k, hm2, rfl, g4, g3, g0, hk⟩
    obtain ⟨id, off, rfl, he, hc⟩ := h.at_ hlt
    obtain ⟨c0, c1, c2, c3, c4⟩ := gate_cells hc
    by_cases hki : k < i
    · obtain ⟨_, _, e, _, hc'⟩ := h.at_ (i := k) (by omega)
      cases e
      obtain ⟨d0, d1, d2, d3, d4⟩ := gate_cells hc'
      have hkn : k < n := by omega
      simp (disch := omega) [g4, g3, g0, hki, wrap_in]
      refine awDraw_E 22 [[],[],[0,1],[2,0,1],[3,2,0,1],[],[],[5,6],[7,5,6],[8,7,5,6],[4,3,2,0,1,9,8,7,5,6],[10,4,3,2,0,1,9,8,7,5,6],[11,10,4,3,2,0,1,9,8,7,5,6],[11,10,4,3,2,0,1,9,8,7,5,6],[12,11,10,4,3,2,0,1,9,8,7,5,6,13],[14,12,11,10,4,3,2,0,1,9,8,7,5,6,13],[15,14,12,11,10,4,3,2,0,1,9,8,7,5,6,13],[11,10,4,3,2,0,1,9,8,7,5,6],[11,10,4,3,2,0,1,9,8,7,5,6],[17,11,10,4,3,2,0,1,9,8,7,5,6,18],[19,17,11,10,4,3,2,0,1,9,8,7,5,6,18],[20,19,17,11,10,4,3,2,0,1,9,8,7,5,6,18],[16,15,14,12,11,10,4,3,2,0,1,9,8,7,5,6,13,21,20,19,17,18],[11,10,4,3,2,0,1,9,8,7,5,6,22,16,15,14,12,13,21,20,19,17,18]] (by kernel_rfl) (by kernel_rfl) ?_
      simp (disch := omega) [g4, g3, g0, hki, hkn, hlt, wrap_in, c0, c1, d0, d2]
      refine guardV_split ?_ ?_ <;> intro hp <;> simp at hp
      · simp (disch := omega) [g4, g3, g0, hki, hkn, hlt, wrap_in, c0, c1, d0, d2, hp]
        refine awCond_split ?_ ?_ <;> intro hq <;> simp at hq
        · simp
          exact ⟨(playB_not (i := i) (k := k) (by omega) hki ⟨hp, hq⟩), Keeps.refl _⟩
        · simp (disch := omega) [g4, g3, g0, wrap_in]
          refine lpI (m2 - 1) (by omega) ?_
          refine ⟨k + 1, by omega, rfl, by simp, by simp [g3], by simp [g0], fun j hj => ?_⟩
          by_cases hjk : j < k
          · exact hk j hjk
          · obtain rfl : j = k := by omega
            omega
      · simp (disch := omega) [g4, g3, g0, wrap_in, hp]
        refine lpI (m2 - 1) (by omega) ?_
        refine ⟨k + 1, by omega, rfl, by simp, by simp [g3], by simp [g0], fun j hj => ?_⟩
        by_cases hjk : j < k
        · exact hk j hjk
        · obtain rfl : j = k := by omega
          omega
    · obtain rfl : k = i := by omega
      simp (disch := omega) [g4, g3, g0, wrap_in]
      refine lpI (m - 1) (by omega) ?_
      refine ⟨k + 1, by omega, rfl, by simp, by simp [g0], fun j hj => ?_⟩
      by_cases hjk : j < k
      · exact hi j hjk
      · obtain rfl : j = k := by omega
        exact hk
  · obtain rfl : i = n := by omega
    simp [h3, h0]
    have : playB l = true := decide_eq_true (by rw [hl]; exact hi)
    exact ⟨this, Keeps.refl _⟩
theorem arePlayable_a {M : Mem} {A : Option Addr} {n c : Nat} {l : List Gate} (h : Sl gateR M A n l) (hn : n ≤ 1099511627776) : Det Try.prog M.length 43 [.slice A n c] M (.bool (playB l && okG l)) M := by
  have hl := h.1
  first | (refine det_fn Try.func43 rfl Try.ntmps43 Try.results43 rfl rfl rfl (by simp) ?_) | (refine det_fnC Try.func43 rfl Try.ntmps43 Try.results43 rfl rfl (by simp) ?_)
  simp
  refine awLoop_T (fun m T M' => ∃ i : Nat, i + m = n ∧ Keeps M M' ∧ look T 9 = some (iv i) ∧ look T 8 = some (iv n) ∧ look T 7 = some (.slice A n c) ∧ look T 0 = some (.slice A n c) ∧ ∀ j, j < i → ∀ k, j < k → k < n → ¬ ((el l j).o = (el l k).o ∧ (el l k).s < (el l j).e)) n ⟨0, by omega, Keeps.refl _, by simp, by simp, by simp, by simp, by omega⟩ ?_
  rintro m T M' ⟨i, hm, hK, h9, h8, h7, h0, hi⟩
  by_cases hlt : i < n
  · have h' := h.keeps hK
    have hKl := hK.len
    obtain ⟨id, off, rfl, he, hc⟩ := h'.at_ hlt
    simp (disch := omega) [h9, h8, h7, h0, hlt, wrap_in, gate_load hc]
    refine ⟨by omega, rowEsz_keeps (keeps_app _) he, ?_⟩
    have hB := keeps_app (M := M') [.live ⟨[iv (el l i).o, iv (el l i).s, iv (el l i).e, iv (el l i).k, iv (el l i).u], true, true, 45, 5⟩]
    refine awLoop_T (fun m T M2 => ∃ k : Nat, k + m = n - (i + 1) ∧ Keeps M M2 ∧ Keeps (M' ++ [.live ⟨[iv (el l i).o, iv (el l i).s, iv (el l i).e, iv (el l i).k, iv (el l i).u], true, true, 45, 5⟩]) M2 ∧ look T 19 = some (iv k) ∧ look T 18 = some (iv ((n - (i + 1) : Nat) : Int)) ∧ look T 17 = some (.slice (some ⟨id, off + (i + 1) * 5, none⟩) (n - (i + 1)) (n - (i + 1))) ∧ look T 4 = some (.pointer (some ⟨M'.length, 0, none⟩)) ∧
      look T 9 = some (iv i) ∧ look T 8 = some (iv n) ∧ look T 7 = some (.slice (some ⟨id, off, none⟩) n c) ∧ look T 0 = some (.slice (some ⟨id, off, none⟩) n c) ∧ ∀ j, i < j → j ≤ i + k → ¬ ((el l i).o = (el l j).o ∧ (el l j).s < (el l i).e)) (n - (i + 1)) ⟨0, by omega, hK.trans hB, Keeps.refl _, by simp, by simp, by simp, by simp, by simp [h9], by simp [h8], by simp [h7], by simp [h0], by omega⟩ ?_
    rintro m2 T2 M2 ⟨k, hm2, hK2, hK3, g19, g18, g17, g4, g9, g8, g7, g0, hk⟩
    have hKl2 := hK2.len
    have hKl3 := hK3.len
    by_cases hki : k < n - (i + 1)
    · obtain ⟨_, _, e, he2, hc2⟩ := (h.keeps hK2).at_ (i := i + 1 + k) (by omega)
      cases e
      have c0 : cellAt M2 M'.length 0 = some (iv (el l i).o) := cellAt_keeps hK3 (by simp)
      have c2 : cellAt M2 M'.length 2 = some (iv (el l i).e) := cellAt_keeps hK3 (by simp)
      rw [Nat.add_mul, ← Nat.add_assoc] at hc2
      simp (disch := omega) [g19, g18, g17, g4, g9, g8, g7, g0, hki, wrap_in, gate_load hc2, he2, cellAt_app c0, cellAt_app c2]
      refine guardV_split ?_ ?_ <;> intro hp <;> simp at hp
      · simp (disch := omega) [g4, cellAt_app c0, cellAt_app c2, hp]
        refine awCond_split ?_ ?_ <;> intro hq <;> simp at hq
        · simp
          rw [playB_not (i := i + 1 + k) (k := i) (by omega) (by omega) ⟨hp, hq⟩]
          exact ⟨by simp, hK2.app _⟩
        · simp (disch := omega) [g19, g18, g17, g4, g9, g8, g7, g0, wrap_in]
          refine lpI (m2 - 1) (by omega) ?_
          refine ⟨k + 1, by omega, hK2.app _, hK3.app _, by simp, by simp [g18], by simp [g17], by simp [g4], by simp [g9], by simp [g8], by simp [g7], by simp [g0], fun j hj hj2 => ?_⟩
          by_cases hjk : j ≤ i + k
          · exact hk j hj hjk
          · obtain rfl : j = i + 1 + k := by omega
            omega
      · simp (disch := omega) [g19, g18, g17, g4, g9, g8, g7, g0, wrap_in, hp]
        refine lpI (m2 - 1) (by omega) ?_
        refine ⟨k + 1, by omega, hK2.app _, hK3.app _, by simp, by simp [g18], by simp [g17], by simp [g4], by simp [g9], by simp [g8], by simp [g7], by simp [g0], fun j hj hj2 => ?_⟩
        by_cases hjk : j ≤ i + k
        · exact hk j hj hjk
        · obtain rfl : j = i + 1 + k := by omega
          omega
    · obtain rfl : k = n - (i + 1) := by omega
      simp (disch := omega) [g19, g18, g17, g4, g9, g8, g7, g0, wrap_in]
      refine lpI (m - 1) (by omega) ?_
      refine ⟨i + 1, by omega, hK2, by simp, by simp [g8], by simp [g7], by simp [g0], fun j hj k hk1 hk2 => ?_⟩
      by_cases hji : j < i
      · exact hi j hji k hk1 hk2
      · obtain rfl : j = i := by omega
        exact hk k hk1 (by omega)
  · obtain rfl : i = n := by omega
    simp [h9, h8, h7, h0]
    refine awCall_det' (areGates_a (h.keeps hK) (by omega)) hK.len ?_
    have : playB l = true := decide_eq_true fun i hi' k hk => hi k (by omega) i hk (by omega)
    simp [this, hK]
theorem ArePlayable_s {M : Mem} {A : Option Addr} {n c : Nat} {l : List Gate} (h : Sl gateR M A n l) (hn : n ≤ 1099511627776) : Det Try.prog M.length 20 [.slice A n c] M (.bool (playB l && okG l)) M := by
  first | (refine det_fn Try.func20 rfl Try.ntmps20 Try.results20 rfl rfl rfl (by simp) ?_) | (refine det_fnC Try.func20 rfl Try.ntmps20 Try.results20 rfl rfl (by simp) ?_)
  simp
  refine awCall_det' (l21Ok_a h (by omega)) (Nat.le_refl _) ?_
  refine guardV_split ?_ ?_ <;> intro hp <;> try simp at hp
  · simp [hp]
    refine awCall_det' (l21Playable_a h hn) (Nat.le_refl _) ?_
    simp [hp, Keeps.refl]
  · simp [hp, Keeps.refl]
theorem ArePlayable_i {M : Mem} {A : Option Addr} {n c : Nat} {l : List Gate} (h : Sl gateR M A n l) (hn : n ≤ 1099511627776) : Det Try.prog M.length 21 [.slice A n c] M (.bool (playB l && okG l)) M := by
  first | (refine det_fn Try.func21 rfl Try.ntmps21 Try.results21 rfl rfl rfl (by simp) ?_) | (refine det_fnC Try.func21 rfl Try.ntmps21 Try.results21 rfl rfl (by simp) ?_)
  simp
  refine awCall_det' (arePlayable_a h hn) (Nat.le_refl _) ?_
  simp [Keeps.refl]
theorem ArePlayable_sl {M : Mem} {v : Value} {lo hi : Nat} {x : List Gate} (hx : RdL gateR lo hi M v x) (ex : x.length ≤ 1048576) : Det Try.prog M.length 20 [v] M (.bool (playB x && okG x)) M := by
  obtain ⟨A, n, c, rfl, hn, hS, _⟩ := hx
  exact ArePlayable_s hS (by have := hS.1; omega)
theorem ArePlayable_il {M : Mem} {v : Value} {lo hi : Nat} {x : List Gate} (hx : RdL gateR lo hi M v x) (ex : x.length ≤ 1048576) : Det Try.prog M.length 21 [v] M (.bool (playB x && okG x)) M := by
  obtain ⟨A, n, c, rfl, hn, hS, _⟩ := hx
  exact ArePlayable_i hS (by have := hS.1; omega)
end Go.Proofs.Ytdcfofaojalilaa
