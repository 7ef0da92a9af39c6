/- The length of a performance; contracts for the laws. No conditions. -/
import Derived.Test.YtgaiejaegimilaaQ13
namespace Go.Proofs.Ytgaiejaegimilaa
open Go.RowKit
set_option linter.unusedVariables false
set_option linter.unusedSimpArgs false
set_option maxRecDepth 100000
attribute [local simp] List.getElem?_cons_zero
attribute [local irreducible] awCond awCall awLoop awDraw ow retQ retC resQ Keeps
def maxE (l : List Gate) : Int := l.foldl (fun a g => max a g.e) 0
theorem maxE_take {l : List Gate} {k : Nat} (hk : k < l.length) : maxE (l.take (k + 1)) = max (maxE (l.take k)) (el l k).e := by
  rw [take_el hk]
  unfold maxE
  rw [List.foldl_append]
  rfl
theorem maxE_pos (l : List Gate) : 0 ≤ maxE l := by
  have : ∀ (l : List Gate) (a : Int), 0 ≤ a → 0 ≤ l.foldl (fun a g => max a g.e) a := by
    intro l
    induction l with
    | nil => intro a h; exact h
    | cons x l ih => intro a h; exact ih _ (show 0 ≤ max a x.e by omega)
  exact this l 0 (by omega)
def perfV (l : List Note) (t : List Tempo) : Int × Int := (maxE (gatesV l t).1, (gatesV l t).2)
theorem gatesV_err {l : List Note} {t : List Tempo} (h : (gatesV l t).2 ≠ 0) : (gatesV l t).1 = [] := by
  unfold gatesV at h ⊢
  split
  · rename_i h1
    rw [if_pos h1] at h
    split
    · rfl
    · rename_i h2
      rw [if_neg h2] at h
      exact absurd rfl h
  · rfl
theorem gatesV_len (l : List Note) (t : List Tempo) : (gatesV l t).1.length ≤ l.length := by
  unfold gatesV
  split
  · split
    · exact Nat.zero_le _
    · exact gatesF_len t l
  · exact Nat.zero_le _
theorem l00Max_t {M : Mem} (a b : Int) : Det Try.prog M.length 63 [iv a, iv b] M (iv (max a b)) M := by
  first | (refine det_fn Try.func63 rfl Try.ntmps63 Try.results63 rfl rfl rfl (by simp) ?_) | (refine det_fnC Try.func63 rfl Try.ntmps63 Try.results63 rfl rfl (by simp) ?_)
  simp
  by_cases h : b < a
  · have h' : max a b = a := by omega
    simp [h, h', Keeps.refl]
  · have h' : max a b = b := by omega
    simp [h, h', Keeps.refl]
theorem PerformLength_i {M : Mem} {A A2 : Option Addr} {n c n2 c2 : Nat} {l : List Note} {t : List Tempo} (h : Sl noteR M A n l) (hn : n ≤ 1048576) (ht : Sl tempoR M A2 n2 t) (hn2 : n2 ≤ 1048576) :
    Det Try.prog M.length 26 [.agg #[.slice A n c], .agg #[.slice A2 n2 c2]] M (.tuple #[iv (perfV l t).1, iv (perfV l t).2]) M := by
  refine Ctr.pure ?_ rfl
  first | (refine ctr_fn Try.func26 rfl Try.ntmps26 Try.results26 rfl rfl (by simp) ?_) | (refine ctr_fnC Try.func26 rfl Try.ntmps26 Try.results26 rfl (by simp) ?_)
  simp
  refine awCall_ctr ((GatesOfScore_i (c := c) (c2 := c2) (h.app _) hn (ht.app _) hn2).weaken (by simp)) ?_
  rintro _ M1 ⟨v0, rfl, ⟨A3, n3, c3, rfl, hn3, hS, -⟩, hk⟩
  have hk0 := (keeps_app _).trans hk
  unfold perfV
  generalize gatesV l t = g at hS ⊢
  have hl := hS.1
  simp
  refine awLoop_T (fun m T M' => ∃ k : Nat, k + m = n3 ∧ Keeps M M' ∧ Keeps M1 M' ∧ look T 19 = some (iv k) ∧ look T 18 = some (iv n3) ∧ look T 17 = some (.slice A3 n3 c3) ∧ look T 8 = some (iv (maxE (g.1.take k))) ∧ look T 7 = some (iv g.2)) n3 ⟨0, by omega, hk0, Keeps.refl _, by simp, by simp, by simp, by simp [maxE], by simp⟩ ?_
  rintro m T M2 ⟨k, hm, hK, hK1, t19, t18, t17, t8, t7⟩
  have hKl := hK.len
  by_cases hlt : k < n3
  · obtain ⟨id, off, rfl, he, hc⟩ := (hS.keeps hK1).at_ hlt
    have hx := maxE_take (l := g.1) (k := k) (by omega)
    simp (disch := omega) [t19, t18, t17, t8, hlt, he, gate_load hc, wrap_in]
    exact lpI (m - 1) (by omega) ⟨k + 1, by omega, hK.app _, hK1.app _, by simp, by simp [t18], by simp [t17], (by simp [hx]; split <;> omega), by simp [t7]⟩
  · obtain rfl : k = n3 := by omega
    rw [List.take_of_length_le (by omega)] at t8
    simp [t19, t18, t8, t7, hK]
theorem PerformLength_s {M : Mem} {A A2 : Option Addr} {n c n2 c2 : Nat} {l : List Note} {t : List Tempo} (h : Sl noteR M A n l) (hn : n ≤ 1048576) (ht : Sl tempoR M A2 n2 t) (hn2 : n2 ≤ 1048576) :
    Det Try.prog M.length 25 [.agg #[.slice A n c], .agg #[.slice A2 n2 c2]] M (.tuple #[iv (perfV l t).1, iv (perfV l t).2]) M := by
  refine Ctr.pure ?_ rfl
  first | (refine ctr_fn Try.func25 rfl Try.ntmps25 Try.results25 rfl rfl (by simp) ?_) | (refine ctr_fnC Try.func25 rfl Try.ntmps25 Try.results25 rfl (by simp) ?_)
  simp
  refine awCall_ctr ((GatesOfScore_s (c := c) (c2 := c2) (h.app _) hn (ht.app _) hn2).weaken (by simp)) ?_
  rintro _ M1 ⟨v0, rfl, ⟨A3, n3, c3, rfl, hn3, hS, -⟩, hk⟩
  have hk0 := (keeps_app _).trans hk
  have herr := @gatesV_err l t
  unfold perfV
  generalize gatesV l t = g at hS herr ⊢
  have hl := hS.1
  by_cases h0 : g.2 = 0
  case neg =>
    simp [h0, herr h0, maxE, hk0]
  simp [h0]
  refine awLoop_T (fun m T M' => ∃ k : Nat, k + m = n3 ∧ M' = M1 ∧ look T 9 = some (iv k) ∧ look T 6 = some (.slice A3 n3 c3) ∧ look T 8 = some (iv (maxE (g.1.take k)))) n3 ⟨0, by omega, rfl, by simp, by simp, by simp [maxE]⟩ ?_
  rintro m T M2 ⟨k, hm, rfl, t9, t6, t8⟩
  by_cases hlt : k < n3
  · obtain ⟨id, off, rfl, he, hc⟩ := hS.at_ hlt
    obtain ⟨-, -, g2, -⟩ := gate_cells hc
    have hx := maxE_take (l := g.1) (k := k) (by omega)
    simp (disch := omega) [t9, t6, t8, hlt, he, g2, wrap_in]
    refine awCall_det' (l00Max_t _ _) (by have := hk0.len; omega) ?_
    try simp (disch := omega) [t9, t6, t8, wrap_in]
    exact lpI (m - 1) (by omega) ⟨k + 1, by omega, rfl, by simp, by simp [t6], by simp [hx]⟩
  · obtain rfl : k = n3 := by omega
    rw [List.take_of_length_le (by omega)] at t8
    simp [t9, t6, t8, hk0, h0]
theorem PerformLength_sl {M : Mem} {v w : Value} {lo hi lo' hi' : Nat} {l : List Note} {t : List Tempo} (h : RdL noteR lo hi M v l) (ht : RdL tempoR lo' hi' M w t) (hl : l.length ≤ 1048576) (hl' : t.length ≤ 1048576) : Det Try.prog M.length 25 [.agg #[v], .agg #[w]] M (.tuple #[iv (perfV l t).1, iv (perfV l t).2]) M := by
  obtain ⟨A, n, c, rfl, hn, hS, _⟩ := h
  obtain ⟨A', n', c', rfl, hn', hS', _⟩ := ht
  exact PerformLength_s hS (by have := hS.1; omega) hS' (by have := hS'.1; omega)
theorem PerformLength_il {M : Mem} {v w : Value} {lo hi lo' hi' : Nat} {l : List Note} {t : List Tempo} (h : RdL noteR lo hi M v l) (ht : RdL tempoR lo' hi' M w t) (hl : l.length ≤ 1048576) (hl' : t.length ≤ 1048576) : Det Try.prog M.length 26 [.agg #[v], .agg #[w]] M (.tuple #[iv (perfV l t).1, iv (perfV l t).2]) M := by
  obtain ⟨A, n, c, rfl, hn, hS, _⟩ := h
  obtain ⟨A', n', c', rfl, hn', hS', _⟩ := ht
  exact PerformLength_i hS (by have := hS.1; omega) hS' (by have := hS'.1; omega)
theorem GatesOfScore_sl {M : Mem} {v w : Value} {lo hi lo' hi' : Nat} {l : List Note} {t : List Tempo} (h : RdL noteR lo hi M v l) (ht : RdL tempoR lo' hi' M w t) (hl : l.length ≤ 1048576) (hl' : t.length ≤ 1048576) : Ctr Try.prog M.length 16 [.agg #[v], .agg #[w]] M fun r M' => ∃ v0, r = .tuple #[v0, iv (gatesV l t).2] ∧ OwL gateR M.length M'.length M' v0 (gatesV l t).1 ∧ Keeps M M' := by
  obtain ⟨A, n, c, rfl, hn, hS, _⟩ := h
  obtain ⟨A', n', c', rfl, hn', hS', _⟩ := ht
  exact GatesOfScore_s hS (by have := hS.1; omega) hS' (by have := hS'.1; omega)
theorem GatesOfScore_il {M : Mem} {v w : Value} {lo hi lo' hi' : Nat} {l : List Note} {t : List Tempo} (h : RdL noteR lo hi M v l) (ht : RdL tempoR lo' hi' M w t) (hl : l.length ≤ 1048576) (hl' : t.length ≤ 1048576) : Ctr Try.prog M.length 18 [.agg #[v], .agg #[w]] M fun r M' => ∃ v0, r = .tuple #[v0, iv (gatesV l t).2] ∧ OwL gateR M.length M'.length M' v0 (gatesV l t).1 ∧ Keeps M M' := by
  obtain ⟨A, n, c, rfl, hn, hS, _⟩ := h
  obtain ⟨A', n', c', rfl, hn', hS', _⟩ := ht
  exact GatesOfScore_i hS (by have := hS.1; omega) hS' (by have := hS'.1; omega)
end Go.Proofs.Ytgaiejaegimilaa
