/- Sources and samples. No conditions. -/
import Derived.Test.YtffbocbjmhkikaaI13
import Derived.Test.YtffbocbjmhkikaaK3
import Derived.Test.YtffbocbjmhkikaaPut
namespace Go.Proofs.Ytffbocbjmhkikaa
open Go.RowKit
set_option linter.unusedVariables false
set_option linter.unusedSimpArgs false
set_option maxRecDepth 100000
attribute [local simp] List.getElem?_cons_zero
attribute [local irreducible] awCond awCall awLoop awDraw ow retQ retC resQ Keeps
def sigB (l : List Int) : Bool := decide (l.length ≤ 4000) && areSB l
def srcsB (ss : List (List Int)) : Bool := decide (ss.length ≤ 6) && ss.all sigB
theorem sigB_el {l : List Int} (h : sigB l = true) {i : Nat} (hi : i < l.length) : -2147483648 ≤ el l i ∧ el l i ≤ 2147483647 := by
  unfold sigB at h
  rw [Bool.and_eq_true] at h
  exact inB_iff.1 (List.all_eq_true.1 h.2 _ (el_mem hi))
theorem sigB_len {l : List Int} (h : sigB l = true) : l.length ≤ 4000 := by
  unfold sigB at h
  rw [Bool.and_eq_true, decide_eq_true_eq] at h
  exact h.1
theorem smp_in {n : Int} (h1 : -2147483648 ≤ n) (h2 : n ≤ 2147483647) : smp n = n := by unfold smp; omega
theorem smp_add (a b : Int) : smp (a + smp b) = smp (a + b) := by unfold smp; omega
theorem prod_bd {a b : Int} (h1 : -2147483648 ≤ a) (h2 : a ≤ 2147483647) (h3 : -2147483648 ≤ b) (h4 : b ≤ 2147483647) : -4611686018427387904 ≤ a * b ∧ a * b ≤ 4611686018427387904 := by
  have h : (a * b).natAbs ≤ 2147483648 * 2147483648 := by
    rw [Int.natAbs_mul]
    exact Nat.mul_le_mul (by omega) (by omega)
  omega
def atL (l : List Int) (i : Int) : Int := if 0 ≤ i ∧ i < l.length then el l i.toNat else 0
theorem atL_bd {l : List Int} (h : sigB l = true) (i : Int) : -2147483648 ≤ atL l i ∧ atL l i ≤ 2147483647 := by
  unfold atL
  split
  · exact sigB_el h (by omega)
  · omega
theorem l01Add_s {M : Mem} (a b : Int) : Det Try.prog M.length 114 [iv a, iv b] M (iv (smp (smp a + smp b))) M := by
  have h1 := smp_bd a
  have h2 := smp_bd b
  first | (refine det_fn Try.func114 rfl Try.ntmps114 Try.results114 rfl rfl rfl (by simp) ?_) | (refine det_fnC Try.func114 rfl Try.ntmps114 Try.results114 rfl rfl (by simp) ?_)
  simp
  refine awCall_det' (l01Wrap_t _) (by simp) ?_
  try simp
  refine awCall_det' (l01Wrap_t _) (by simp) ?_
  simp (disch := omega) [wrap_in]
  refine awCall_det' (l01Wrap_t _) (by simp) ?_
  simp [Keeps.refl]
theorem l01Mul_s {M : Mem} (a b : Int) : Det Try.prog M.length 115 [iv a, iv b] M (iv (smp (smp a * smp b))) M := by
  have h1 := smp_bd a
  have h2 := smp_bd b
  have h3 := prod_bd h1.1 h1.2 h2.1 h2.2
  first | (refine det_fn Try.func115 rfl Try.ntmps115 Try.results115 rfl rfl rfl (by simp) ?_) | (refine det_fnC Try.func115 rfl Try.ntmps115 Try.results115 rfl rfl (by simp) ?_)
  simp
  refine awCall_det' (l01Wrap_t _) (by simp) ?_
  try simp
  refine awCall_det' (l01Wrap_t _) (by simp) ?_
  simp (disch := omega) [wrap_in]
  refine awCall_det' (l01Wrap_t _) (by simp) ?_
  simp [Keeps.refl]
theorem l03At_s {M : Mem} {lo hi : Nat} {u : Value} {l : List Int} (i : Int) (h : SlV intP lo hi M u l) : Det Try.prog M.length 116 [u, iv i] M (iv (atL l i)) M := by
  obtain ⟨A, n, c, rfl, h1, h2, h3⟩ := h
  have hl := h3.1
  replace h3 := h3.sl
  unfold atL
  rw [hl]
  first | (refine det_fn Try.func116 rfl Try.ntmps116 Try.results116 rfl rfl rfl (by simp) ?_) | (refine det_fnC Try.func116 rfl Try.ntmps116 Try.results116 rfl rfl (by simp) ?_)
  simp (disch := omega) [wrap_in]
  refine awCall_det' (l00In_a _ _ _) (by simp) ?_
  by_cases hb : inB i 0 (n - 1) = true
  · have hb' := inB_iff.1 hb
    obtain ⟨k, rfl⟩ := Int.eq_ofNat_of_zero_le hb'.1
    have hlt : k < n := by omega
    obtain ⟨id, off, rfl, he, hc⟩ := h3.at_ hlt
    have c1 := int_cell hc
    simp only [Nat.mul_one] at c1
    simp (disch := omega) [hb, hlt, he, c1, Keeps.refl]
  · have hb' : ¬ (0 ≤ i ∧ i < n) := by
      intro hh
      exact hb (inB_iff.2 ⟨hh.1, by omega⟩)
    simp [hb, hb', Keeps.refl]
theorem size_ia {M : Mem} {A : Option Addr} {n c : Nat} (hn : n ≤ 9223372036854775807) : Det Try.prog M.length 153 [.slice A n c] M (iv n) M := by
  first | (refine det_fn Try.func153 rfl Try.ntmps153 Try.results153 rfl rfl rfl (by simp) ?_) | (refine det_fnC Try.func153 rfl Try.ntmps153 Try.results153 rfl rfl (by simp) ?_)
  simp (disch := omega) [wrap_in, Keeps.refl]
theorem at_i {M : Mem} {lo hi : Nat} {u : Value} {l : List Int} (i : Int) (h0 : 0 ≤ i) (h : SlV intP lo hi M u l) : Det Try.prog M.length 121 [u, iv i] M (iv (atL l i)) M := by
  obtain ⟨A, n, c, rfl, h1, h2, h3⟩ := h
  have hl := h3.1
  replace h3 := h3.sl
  unfold atL
  rw [hl]
  obtain ⟨k, rfl⟩ := Int.eq_ofNat_of_zero_le h0
  first | (refine det_fn Try.func121 rfl Try.ntmps121 Try.results121 rfl rfl rfl (by simp) ?_) | (refine det_fnC Try.func121 rfl Try.ntmps121 Try.results121 rfl rfl (by simp) ?_)
  simp (disch := omega) [wrap_in]
  refine awCall_det' (size_ia (by omega)) (by simp) ?_
  simp (disch := omega) [wrap_in]
  by_cases hlt : k < n
  · obtain ⟨id, off, rfl, he, hc⟩ := h3.at_ hlt
    have c1 := int_cell hc
    simp only [Nat.mul_one] at c1
    have hg : ¬ n ≤ k := by omega
    simp (disch := omega) [hg, hlt, he, c1, Keeps.refl]
  · have hg : n ≤ k := by omega
    simp [hlt, hg, Keeps.refl]
theorem cellsL_rep (n : Nat) (x : Int) : zrow [iv x] n = cellsL intR (List.replicate n x) := by
  induction n with
  | zero => rfl
  | succ n ih => rw [zrow_succ, ih, List.replicate_succ, cellsL_cons]; rfl
theorem zeros_i {M : Mem} (n : Nat) (hn : n ≤ 4000) : Det Try.prog M.length 120 [iv n] M (.slice (some ⟨M.length, 0, none⟩) n n) (M ++ [.live ⟨cellsL intR (List.replicate n 0), true, true, 2, 1⟩]) := by
  refine Ctr.det ?_
  first | (refine ctr_fn Try.func120 rfl Try.ntmps120 Try.results120 rfl rfl (by simp) ?_) | (refine ctr_fnC Try.func120 rfl Try.ntmps120 Try.results120 rfl (by simp) ?_)
  simp
  exact ⟨by omega, by rw [cellsL_rep]⟩
theorem l03Zeros_s {M : Mem} {b : Nat} (n : Nat) (hn : n ≤ 4000) (hb : b ≤ M.length) : Ctr Try.prog b 113 [iv n] M fun v M' => Acc intR 2 M.length M' v (List.replicate n 0) ∧ Same M.length M M' := by
  first | (refine ctr_fn Try.func113 rfl Try.ntmps113 Try.results113 rfl rfl (by simp) ?_) | (refine ctr_fnC Try.func113 rfl Try.ntmps113 Try.results113 rfl (by simp) ?_)
  simp
  refine awLoop_T (fun m T M' => ∃ (k : Nat) (v : Value), k + m = n ∧ look T 0 = some (iv m) ∧ look T 3 = some v ∧ Acc intR 2 M.length M' v (List.replicate k 0) ∧ Same M.length M M') n ⟨0, .slice (some ⟨M.length, 0, none⟩) 0 0, by omega, by simp, by simp, ?_, ?_⟩ ?_
  · exact ⟨_, 0, 0, rfl, rfl, .inr ⟨M.length, true, rfl, Nat.le_refl _, by simp [cellsL]⟩⟩
  · exact ⟨by simp, fun i s _ hs => (keeps_app _).get hs⟩
  rintro m T M1 ⟨k, v, hm, t0, t3, ha, hs⟩
  by_cases hlt : 0 < m
  · simp (disch := omega) [t0, t3, hlt]
    rw [fill1I, ow_some]
    simp
    have ha0 := ha
    obtain ⟨A, q, c, rfl, -, -⟩ := ha0
    have ha' : Acc intR 2 M.length (M1 ++ [Slot.live ⟨[iv 0], true, true, 2, 1⟩]) _ _ := ha.keeps (keeps_app _)
    have hl1 := hs.1
    try simp [t3]
    refine Acc.append (R := intR) (e := 2) (by_ := 8) (a := 0) ha' (by omega) (by simp; omega) (by omega) (by simp) (by kernel_rfl) (by simp [srcOf, intR, iv]) (by rfl) (by simp; omega) (by unfold maxLen; simp; omega) ?_
    intro v' M' ha2 hs2
    simp (disch := omega) [t0, wrap_in]
    refine lpI (m - 1) (by omega) ⟨k + 1, v', by omega, by simp; omega, by simp, ?_, ?_⟩
    · rw [List.replicate_succ']; exact ha2
    · exact ⟨by have := hs2.1; simp at this; omega, fun i s h1 h2 => hs2.2 i s h1 ((keeps_app _).get (hs.2 i s h1 h2))⟩
  · obtain rfl : m = 0 := by omega
    obtain rfl : k = n := by omega
    simp [t0, t3, ha, hs]
theorem l03Ok_t {M : Mem} {lo hi : Nat} {u : Value} {l : List Int} (h : SlV intP lo hi M u l) : Det Try.prog M.length 112 [u] M (.bool (sigB l)) M := by
  by_cases hb : l.length ≤ 4000
  · have : sigB l = areSB l := by unfold sigB; simp [hb]
    rw [this]
    exact l03Ok_s h hb
  · have : sigB l = false := by unfold sigB; simp [hb]
    rw [this]
    obtain ⟨A, n, c, rfl, h1, h2, h3⟩ := h
    have hl := h3.1
    have e0 : (4000 : Int) < n := by omega
    first | (refine det_fn Try.func112 rfl Try.ntmps112 Try.results112 rfl rfl rfl (by simp) ?_) | (refine det_fnC Try.func112 rfl Try.ntmps112 Try.results112 rfl rfl (by simp) ?_)
    simp [e0, Keeps.refl]
theorem isSignal_i {M : Mem} {lo hi : Nat} {u : Value} {l : List Int} (h : SlV intP lo hi M u l) : Det Try.prog M.length 151 [u] M (.bool (sigB l)) M := by
  have h' := h
  obtain ⟨A, n, c, rfl, h1, h2, h3⟩ := h
  have hl := h3.1
  unfold sigB
  rw [hl]
  first | (refine det_fn Try.func151 rfl Try.ntmps151 Try.results151 rfl rfl rfl (by simp) ?_) | (refine det_fnC Try.func151 rfl Try.ntmps151 Try.results151 rfl rfl (by simp) ?_)
  simp
  by_cases hb : n ≤ 4000
  · have hb' : (n : Int) ≤ 4000 := by omega
    simp [hb, hb']
    refine awCall_det' (areSamples_i h') (by simp) ?_
    simp [hb, Keeps.refl]
  · have hb' : ¬ (n : Int) ≤ 4000 := by omega
    simp [hb, hb', Keeps.refl]
theorem areSignals_i {M : Mem} {lo hi : Nat} {u : Value} {l : List (List Int)} (h : SlV tabP lo hi M u l) : Det Try.prog M.length 117 [u] M (.bool (l.all sigB)) M := by
  obtain ⟨A, n, c, rfl, h1, h2, h3⟩ := h
  have hl := h3.1
  first | (refine det_fn Try.func117 rfl Try.ntmps117 Try.results117 rfl rfl rfl (by simp) ?_) | (refine det_fnC Try.func117 rfl Try.ntmps117 Try.results117 rfl rfl (by simp) ?_)
  simp
  refine awLoop_T (fun m T M' => ∃ k : Nat, k + m = n ∧ Keeps M M' ∧ look T 7 = some (iv k) ∧ look T 6 = some (iv n) ∧ look T 5 = some (.slice A n c) ∧ ∀ i, i < k → sigB (el l i) = true) n ⟨0, by omega, Keeps.refl _, by simp, by simp, by simp, fun i hi => by omega⟩ ?_
  rintro m T M1 ⟨k, hm, k1, t7, t6, t5, hk⟩
  have hkl := k1.len
  by_cases hlt : k < n
  · obtain ⟨id, off, us, rfl, he, hrd, hc⟩ := (h3.keeps k1).at_ hlt
    obtain ⟨u, rfl, hu⟩ := hrd
    have c1 := (cl_cons.1 hc).1
    simp only [Nat.mul_one] at c1
    simp (disch := omega) [t7, t6, t5, hlt, c1, he]
    refine awCall_det' (isSignal_i hu) (by omega) ?_
    by_cases hs : sigB (el l k) = true
    · simp (disch := omega) [hs, t7, t6, t5, wrap_in]
      refine lpI (m - 1) (by omega) ⟨k + 1, by omega, k1, by simp, by simp [t6], by simp [t5], fun i hi => ?_⟩
      by_cases e : i = k
      · rw [e]; exact hs
      · exact hk i (by omega)
    · rw [Bool.not_eq_true] at hs
      simp [hs, k1]
      exact ⟨_, el_mem (i := k) (by omega), hs⟩
  · obtain rfl : k = n := by omega
    simp [t7, t6, t5, k1]
    exact List.all_eq_true.1 (all_yes fun i hi => hk i (by omega))
theorem l23Sources_s {M : Mem} {lo hi : Nat} {u : Value} {l : List (List Int)} (h : SlV tabP lo hi M u l) : Det Try.prog M.length 66 [u] M (.bool (srcsB l)) M := by
  obtain ⟨A, n, c, rfl, h1, h2, h3⟩ := h
  have hl := h3.1
  first | (refine det_fn Try.func66 rfl Try.ntmps66 Try.results66 rfl rfl rfl (by simp) ?_) | (refine det_fnC Try.func66 rfl Try.ntmps66 Try.results66 rfl rfl (by simp) ?_)
  simp
  refine awLoop_T (fun m T M' => ∃ k : Nat, k + m = n ∧ M' = M ∧ look T 3 = some (iv k) ∧ look T 0 = some (.slice A n c) ∧ ∀ i, i < k → sigB (el l i) = true) n ⟨0, by omega, rfl, by simp, by simp, fun i hi => by omega⟩ ?_
  rintro m T M' ⟨k, hm, rfl, t3, t0, hk⟩
  by_cases hlt : k < n
  · obtain ⟨id, off, us, rfl, he, hrd, hc⟩ := h3.at_ hlt
    obtain ⟨u, rfl, hu⟩ := hrd
    have c1 := (cl_cons.1 hc).1
    simp only [Nat.mul_one] at c1
    simp (disch := omega) [t3, t0, hlt, c1, he]
    refine awCall_det' (l03Ok_t hu) (Nat.le_refl _) ?_
    by_cases hs : sigB (el l k) = true
    · simp (disch := omega) [hs, t3, t0, wrap_in]
      refine lpI (m - 1) (by omega) ⟨k + 1, by omega, rfl, by simp, by simp [t0], fun i hi => ?_⟩
      by_cases e : i = k
      · rw [e]; exact hs
      · exact hk i (by omega)
    · rw [Bool.not_eq_true] at hs
      have : srcsB l = false := by unfold srcsB; rw [all_no (by omega) hs, Bool.and_false]
      simp [hs, this, Keeps.refl]
  · obtain rfl : k = n := by omega
    have : srcsB l = decide (k ≤ 6) := by unfold srcsB; rw [all_yes (fun i hi => hk i (by omega)), Bool.and_true, hl]
    simp [t3, t0, this, Keeps.refl]
    omega
end Go.Proofs.Ytffbocbjmhkikaa
