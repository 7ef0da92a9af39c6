/- Streams: are they valid. No conditions. -/
import Derived.Test.YthopcmglcnlcfaaE1
namespace Go.Proofs.Ythopcmglcnlcfaa
open Go.RowKit
set_option linter.unusedVariables false
set_option linter.unusedSimpArgs false
set_option maxRecDepth 100000
attribute [local simp] List.getElem?_cons_zero
attribute [local irreducible] awCond awCall awLoop awDraw ow retQ retC resQ Keeps
def eventB (e : StreamEvent) : Bool := inB e.d 0 268435455 && inB e.o 0 15 && inB e.k 0 127 && ((decide (e.j = 1) && inB e.u 1 127) || (decide (e.j = 2) && decide (e.u = 0)))






theorem isEvent_a {M : Mem} (g : StreamEvent) : Det Try.prog M.length 118 [g.v] M (.bool (eventB g)) M := by
  first | (refine det_fn Try.func118 rfl Try.ntmps118 Try.results118 rfl rfl rfl (by simp) ?_) | (refine det_fnC Try.func118 rfl Try.ntmps118 Try.results118 rfl rfl (by simp) ?_)
  simp
  repeat' (first | (refine guardV_split ?_ ?_ <;> intro _) | (refine awCall_det' (isKey_a _) (by simp) ?_) | (refine awCall_det' (within_a _ _ _) (by simp) ?_) | (simp [*]))
  all_goals (simp_all [eventB, keeps_app] <;> omega)
theorem IndexFunc_a {M : Mem} {A : Option Addr} {n c : Nat} {l : List StreamEvent} {g : FuncId} {us vs : Array Value} (p : StreamEvent → Bool) (h : Sl streamEventR M A n l) (hn : n ≤ 1099511627776)
    (hp : ∀ (M' : Mem) a, Keeps M M' → a ∈ l → Det Try.prog M'.length g (us.toList ++ [a.v] ++ vs.toList) M' (.bool (p a)) M') : Det Try.prog M.length 133 [.slice A n c, .func (.func g) us vs] M (iv (fstI p l)) M := by
  have hl := h.1
  first | (refine det_fn Try.func133 rfl Try.ntmps133 Try.results133 rfl rfl rfl (by simp) ?_) | (refine det_fnC Try.func133 rfl Try.ntmps133 Try.results133 rfl rfl (by simp) ?_)
  simp
  refine awLoop_T (fun m T M' => ∃ k : Nat, k + m = n ∧ M = M' ∧ look T 8 = some (iv k) ∧ look T 7 = some (iv n) ∧ look T 0 = some (.slice A n c) ∧ look T 1 = some (.func (.func g) us vs) ∧ ∀ i, i < k → p (el l i) = false) n ⟨0, by omega, rfl, by simp, by simp, by simp, by simp, by omega⟩ ?_
  rintro m T M' ⟨k, hm, rfl, h8, h7, h0, h1, hk⟩
  by_cases hlt : k < n
  · obtain ⟨id, off, rfl, he, hc⟩ := h.at_ hlt
    simp (disch := omega) [h8, h7, h0, h1, hlt, wrap_in, streamEvent_load hc]
    refine awCall_det' (hp M (el l k) (Keeps.refl M) (el_mem (by omega))) (Nat.le_refl _) ?_
    try simp
    refine awCond_split ?_ ?_ <;> intro hq <;> try simp at hq
    · simp
      exact ⟨(fstI_some (by omega) hq hk).symm, Keeps.refl _⟩
    · simp (disch := omega) [h8, h7, h0, h1, wrap_in]
      refine lpI (m - 1) (by omega) ?_
      refine ⟨k + 1, by omega, rfl, by simp, by simp [h7], by simp [h0], by simp [h1], fun i hi => ?_⟩
      by_cases hik : i < k
      · exact hk i hik
      · obtain rfl : i = k := by omega
        exact hq
  · obtain rfl : k = n := by omega
    simp [h8, h7, h0, h1]
    exact ⟨(fstI_none (by rw [hl]; exact hk)).symm, Keeps.refl _⟩
def okE (l : List StreamEvent) : Bool := decide (l.length ≤ 200) && l.all eventB



























theorem isStream1_a {M : Mem} (a : StreamEvent) : Det Try.prog M.length 117 [a.v] M (.bool (!eventB a)) M := by
  first | (refine det_fn Try.func117 rfl Try.ntmps117 Try.results117 rfl rfl rfl (by simp) ?_) | (refine det_fnC Try.func117 rfl Try.ntmps117 Try.results117 rfl rfl (by simp) ?_)
  simp
  refine awCall_det' (isEvent_a a) (by simp) ?_
  simp [keeps_app]
theorem ContainsFunc_a {M : Mem} {A : Option Addr} {n c : Nat} {l : List StreamEvent} {g : FuncId} {us vs : Array Value} (p : StreamEvent → Bool) (h : Sl streamEventR M A n l) (hn : n ≤ 1099511627776)
    (hp : ∀ (M' : Mem) a, Keeps M M' → a ∈ l → Det Try.prog M'.length g (us.toList ++ [a.v] ++ vs.toList) M' (.bool (p a)) M') : Det Try.prog M.length 116 [.slice A n c, .func (.func g) us vs] M (.bool (decide (0 ≤ fstI p l))) M := by
  first | (refine det_fn Try.func116 rfl Try.ntmps116 Try.results116 rfl rfl rfl (by simp) ?_) | (refine det_fnC Try.func116 rfl Try.ntmps116 Try.results116 rfl rfl (by simp) ?_)
  simp
  refine awCall_det' (IndexFunc_a p h hn hp) (Nat.le_refl _) ?_
  simp [Keeps.refl]
theorem isStream_a {M : Mem} {A : Option Addr} {n c : Nat} {l : List StreamEvent} (h : Sl streamEventR M A n l) (hn : n ≤ 1099511627776) : Det Try.prog M.length 70 [.slice A n c] M (.bool (okE l)) M := by
  have hl := h.1
  first | (refine det_fn Try.func70 rfl Try.ntmps70 Try.results70 rfl rfl rfl (by simp) ?_) | (refine det_fnC Try.func70 rfl Try.ntmps70 Try.results70 rfl rfl (by simp) ?_)
  by_cases hq : (n : Int) ≤ 200
  · simp [hq]
    refine awCall_det' (ContainsFunc_a (fun a => !eventB a) h hn fun M' a _ _ => isStream1_a a) (Nat.le_refl _) ?_
    have : (!decide (0 ≤ fstI (fun a => !eventB a) l)) = l.all eventB := by
      by_cases hA : l.all eventB = true
      · rw [fstI_none (fun i hi => by have := List.all_eq_true.1 hA _ (el_mem hi); simp [this]), hA]; rfl
      · simp only [Bool.not_eq_true] at hA
        rw [hA]
        unfold fstI
        cases hf : l.findIdx? (fun a => !eventB a) with
        | none =>
          rw [List.findIdx?_eq_none_iff] at hf
          have : l.all eventB = true := List.all_eq_true.2 fun x hx => by have := hf x hx; simpa using this
          rw [this] at hA; cases hA
        | some i => simp
    have h2 : n ≤ 200 := by omega
    simp [this, Keeps.refl, okE, hl, h2]
  · have h2 : ¬ n ≤ 200 := by omega
    simp [hq, okE, hl, Keeps.refl, h2]
















end Go.Proofs.Ythopcmglcnlcfaa
