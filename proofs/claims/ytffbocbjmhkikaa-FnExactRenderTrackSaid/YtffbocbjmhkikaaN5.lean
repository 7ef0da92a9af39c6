/- Lists of lists of numbers: the laws' helpers. No conditions. -/
import Derived.Test.YtffbocbjmhkikaaN4
namespace Go.Proofs.Ytffbocbjmhkikaa
open Go.RowKit
set_option linter.unusedVariables false
set_option linter.unusedSimpArgs false
set_option maxRecDepth 100000
attribute [local simp] List.getElem?_cons_zero
attribute [local irreducible] awCond awCall awLoop awDraw ow retQ retC resQ Keeps
abbrev tabP : RecP (List Int) 1 := RecP.sl intP
theorem toInt64S_c {M : Mem} {lo hi : Nat} {us : List Value} {x : List Int} (h : tabP.rd lo hi M x us) (hb : x.length ≤ 1048576) : ∃ vs N, Det Try.prog M.length 53 [one1 us] M (one1 vs) (M ++ N) ∧ tabP.rd M.length (M ++ N).length (M ++ N) x vs ∧ vs.all oneV = true ∧ (one1 vs).cells.toList = vs := by
  obtain ⟨u, rfl, hu⟩ := h
  obtain ⟨v, N, h1, h2⟩ := toInt64S_x hu hb
  refine ⟨[v], N, h1, ⟨v, rfl, h2⟩, by simp [h2.one], ?_⟩
  obtain ⟨A, n, c, rfl, -⟩ := h2
  rfl
def wtInt64SS (l : List (List Int)) : Nat := l.length + sumW wtInt64S l l.length
theorem szInt64SS_x {M : Mem} {lo hi : Nat} {u : Value} {l : List (List Int)} {z : Int} (h : SlV tabP lo hi M u l) (hz : 0 ≤ z) (hz1 : z ≤ 1048576) : Det Try.prog M.length 19 [u, iv z] M (iv (if z - wtInt64SS l < 0 then -1 else z - wtInt64SS l)) M := by
  obtain ⟨A, n, c, rfl, h1, h2, h3⟩ := h
  have hl := h3.1
  have hw : wtInt64SS l = n + sumW wtInt64S l l.length := by unfold wtInt64SS; rw [hl]
  rw [hw]
  first | (refine det_fn Try.func19 rfl Try.ntmps19 Try.results19 rfl rfl rfl (by simp) ?_) | (refine det_fnC Try.func19 rfl Try.ntmps19 Try.results19 rfl rfl (by simp) ?_)
  simp (disch := omega) [wrap_in]
  refine awCond_split ?_ ?_ <;> intro h
  · simp at h
    simp [Keeps.refl]
    omega
  · simp at h
    simp
    refine awLoop_T (fun m T M' => ∃ k : Nat, k + m = n ∧ Keeps M M' ∧ 0 ≤ z - n - sumW wtInt64S l k ∧ look T 5 = some (iv k) ∧ look T 1 = some (iv (z - n - sumW wtInt64S l k)) ∧ look T 0 = some (.slice A n c)) n ⟨0, by omega, Keeps.refl _, by rw [sumW_zero]; omega, by simp, by simp [sumW_zero], by simp⟩ ?_
    rintro m T M' ⟨k, hm, hk, hp, h5, h1', h0⟩
    by_cases hlt : k < n
    · obtain ⟨id, off, us, rfl, he, hrd, hc⟩ := (h3.keeps hk).at_ hlt
      obtain ⟨u, rfl, hu⟩ := hrd
      have c1 := (cl_cons.1 hc).1
      simp only [Nat.mul_one] at c1
      simp (disch := omega) [h5, h1', h0, hlt, c1, he]
      have hd := szInt64S_x (M := M') hu hp (by omega)
      refine awCall_det' hd (by have := hk.len; omega) ?_
      have ht := sumW_succ wtInt64S (l := l) (k := k) (by omega)
      have hle := sumW_le wtInt64S l (k + 1)
      by_cases hneg : z - n - sumW wtInt64S l k - wtInt64S (el l k) < 0
      · simp [hneg]
        exact ⟨fun h => by omega, hk⟩
      · simp (disch := omega) [hneg, h5, wrap_in]
        exact lpI (m - 1) (by omega) ⟨k + 1, by omega, hk, by omega, by simp, by rw [ht]; simp; omega, by simp [h0]⟩
    · obtain rfl : k = n := by omega
      rw [show sumW wtInt64S l k = sumW wtInt64S l l.length by rw [hl]] at hp h1'
      simp [h5, h1', h0]
      rw [if_neg (by omega)]
      exact ⟨by omega, hk⟩
theorem toInt64SS_x {M : Mem} {lo hi : Nat} {u : Value} {l : List (List Int)} (h : SlV tabP lo hi M u l) (hn : l.length ≤ 1048576) (hb : ∀ x, x ∈ l → x.length ≤ 1048576) : ∃ v N, Det Try.prog M.length 22 [u] M v (M ++ N) ∧ SlV tabP M.length (M ++ N).length (M ++ N) v l := by
  obtain ⟨A, n, c, rfl, h1, h2, h3⟩ := h
  have hl := h3.1
  obtain ⟨f, f0, fI, fS, N, fN, hS⟩ := to_chain (P := tabP) (Mk := one1) (fn := 53) (e := 24) (z := [.slice none 0 0]) h3 rfl (by omega) (fun M1 i us hk hi hrd => toInt64S_c hrd (hb _ (el_mem (by omega))))
  have hN := fI n (Nat.le_refl _)
  rw [fN] at hS
  refine ⟨.slice (some ⟨M.length, 0, none⟩) n n, N, Ctr.det ?_, _, n, n, rfl, h1, (fun h => by cases h), hS⟩
  first | (refine ctr_fn Try.func22 rfl Try.ntmps22 Try.results22 rfl rfl (by simp) ?_) | (refine ctr_fnC Try.func22 rfl Try.ntmps22 Try.results22 rfl (by simp) ?_)
  simp
  refine ⟨by omega, ?_⟩
  refine awLoop_T (fun m T M' => ∃ k : Nat, k + m = n ∧ M' = f k ∧ look T 4 = some (iv k) ∧ look T 0 = some (.slice A n c) ∧ look T 3 = some (.slice (some ⟨M.length, 0, none⟩) n n)) n ⟨0, by omega, by rw [f0], by simp, by simp, by simp⟩ ?_
  rintro m T M' ⟨k, hm, rfl, h4, h0, h3'⟩
  by_cases hlt : k < n
  · obtain ⟨id, off, us, rfl, he, hrd, hc⟩ := h3.at_ hlt
    obtain ⟨g1, g2, g3⟩ := fI k (by omega)
    obtain ⟨vs, N', d1, d2, d2', d3⟩ := fS k hlt id off us rfl (cellsAt_of hc (tabP.len hrd) (by omega))
    obtain ⟨u, rfl, hu⟩ := hrd
    have c1 := (cl_cons.1 hc).1
    simp only [Nat.mul_one] at c1
    have c2 := cellAt_keeps g1 c1
    simp (disch := omega) [h3', h4, h0, hlt, wrap_in, c2, g3, rowEsz_keeps g1 he]
    refine awCall_det' d1 (by omega) ?_
    have g4 : rowEsz (f k ++ N') M.length = some 1 := rowEsz_keeps (keeps_app _) g3
    have hsz : (one1 vs).cells.size = 1 := by rw [← Array.length_toList, d2', d2]
    try simp (disch := omega) [h3', h4, h0, g4, wrap_in, hlt]
    refine ⟨hsz.symm, ?_⟩
    simp only [Nat.mul_one] at d3
    try rw [d2']
    rw [d3, ow_some]
    try simp (disch := omega) [h3', h4, h0, wrap_in]
    exact lpI (m - 1) (by omega) ⟨k + 1, by omega, rfl, by simp, by simp [h0], by simp [h3']⟩
  · obtain rfl : k = n := by omega
    simp [h3', h4, h0]
    exact fN
theorem eqInt64SS_x {M : Mem} {lo hi lo' hi' : Nat} {u v : Value} {x y : List (List Int)} (h : SlV tabP lo hi M u x) (h' : SlV tabP lo' hi' M v y) : Det Try.prog M.length 26 [u, v] M (.bool (decide (x = y))) M := by
  obtain ⟨A, n, c, rfl, h1, h2, h3⟩ := h
  obtain ⟨B, m, d, rfl, g1, g2, g3⟩ := h'
  have hlx := h3.1
  have hly := g3.1
  first | (refine det_fn Try.func26 rfl Try.ntmps26 Try.results26 rfl rfl rfl (by simp) ?_) | (refine det_fnC Try.func26 rfl Try.ntmps26 Try.results26 rfl rfl (by simp) ?_)
  simp
  refine awCond_split ?_ ?_ <;> intro hnm
  · simp at hnm
    simp
    exact ⟨fun e => by subst e; omega, Keeps.refl _⟩
  · simp at hnm
    obtain rfl : n = m := by omega
    simp
    refine awLoop_T (fun m T M' => ∃ k : Nat, k + m = n ∧ Keeps M M' ∧ look T 5 = some (iv k) ∧ look T 0 = some (.slice A n c) ∧ look T 1 = some (.slice B n d) ∧ x.take k = y.take k) n ⟨0, by omega, Keeps.refl _, by simp, by simp, by simp, by simp⟩ ?_
    rintro m T M' ⟨k, hm, hk, h4, h0, h1', hxy⟩
    by_cases hlt : k < n
    · obtain ⟨id, off, us, rfl, he, hrd, hc⟩ := (h3.keeps hk).at_ hlt
      obtain ⟨id', off', us', rfl, he', hrd', hc'⟩ := (g3.keeps hk).at_ hlt
      have hkl := hk.len
      obtain ⟨u, rfl, hu⟩ := hrd
      have c1 := (cl_cons.1 hc).1
      simp only [Nat.mul_one] at c1
      obtain ⟨u', rfl, hu'⟩ := hrd'
      have c1' := (cl_cons.1 hc').1
      simp only [Nat.mul_one] at c1'
      simp (disch := omega) [h4, h0, h1', hlt, wrap_in]
      refine awDraw_E 8 [[],[],[0,1],[2,0,1],[],[],[4,5],[6,4,5],[3,2,0,1,7,6,4,5],[8,3,2,0,1,7,6,4,5]] (by kernel_rfl) (by kernel_rfl) ?_
      simp (disch := omega) [h4, h0, h1', hlt, wrap_in, c1, c1', he, he']
      refine awCall_det' (eqInt64S_x (M := M') hu hu') (by omega) ?_
      by_cases hxy' : el x k = el y k
      · simp (disch := omega) [hxy', h4, h0, h1', wrap_in]
        refine lpI (m - 1) (by omega) ?_
        exact ⟨k + 1, by omega, hk, by simp, by simp [h0], by simp [h1'], by rw [take_el (by omega), take_el (by omega), hxy, hxy']⟩
      · simp [hxy']
        exact ⟨fun e => hxy' (by rw [e]), hk⟩
    · obtain rfl : k = n := by omega
      rw [List.take_of_length_le (by omega), List.take_of_length_le (by omega)] at hxy
      simp [h4, h0, h1', hxy, hk]
end Go.Proofs.Ytffbocbjmhkikaa
