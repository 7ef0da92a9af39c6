/- Gates: what an allocation leaves is good, in order, and no voice plays two at a time. No conditions. -/
import Derived.Test.YtdcfofaojalilaaG11
namespace Go.Proofs.Ytdcfofaojalilaa
open Go.RowKit
set_option linter.unusedVariables false
set_option linter.unusedSimpArgs false
/-- Gates in order that begin at x or before, each good, no two of a voice at a time. -/
structure GoodG (out : List Gate) (x : Int) : Prop where
  gate : ∀ i, i < out.length → gateB (el out i) = true
  le : ∀ i, i < out.length → (el out i).s ≤ x
  sort : ∀ i j, i < j → j < out.length → (el out i).s ≤ (el out j).s
  play : ∀ i j, i < j → j < out.length → (el out i).o = (el out j).o → (el out i).e ≤ (el out j).s
theorem gateB_iff {g : Gate} : gateB g = true ↔ (0 ≤ g.o ∧ g.o ≤ 3) ∧ 0 ≤ g.s ∧ g.s < g.e ∧ g.e ≤ 4000 ∧ (0 ≤ g.k ∧ g.k ≤ 127) ∧ (1 ≤ g.u ∧ g.u ≤ 127) := by
  simp only [gateB, Bool.and_eq_true, decide_eq_true_eq, inB_iff]
  constructor <;> (intro h; simp only [and_assoc] at h ⊢; exact h)
theorem GoodG.later {out : List Gate} {x y : Int} (h : GoodG out x) (hxy : x ≤ y) : GoodG out y := ⟨h.gate, fun i hi => by have := h.le i hi; omega, h.sort, h.play⟩
theorem GoodG.snoc {out : List Gate} {g : Gate} (h : GoodG out g.s) (hg : gateB g = true) (hp : ∀ i, i < out.length → (el out i).o = g.o → (el out i).e ≤ g.s) : GoodG (out ++ [g]) g.s := by
  have e1 : el (out ++ [g]) out.length = g := by rw [el_append_right (Nat.le_refl _), Nat.sub_self]; rfl
  have e2 : ∀ i, i < out.length → el (out ++ [g]) i = el out i := fun i hi => el_append_left hi
  have hl : (out ++ [g]).length = out.length + 1 := by simp
  have sp : ∀ i, i < out.length + 1 → i < out.length ∨ i = out.length := fun i hi => by omega
  refine ⟨fun i hi => ?_, fun i hi => ?_, fun i j hij hj => ?_, fun i j hij hj ho => ?_⟩
  · rcases sp i (by omega) with h' | rfl
    · rw [e2 i h']; exact h.gate i h'
    · rw [e1]; exact hg
  · rcases sp i (by omega) with h' | rfl
    · rw [e2 i h']; exact h.le i h'
    · rw [e1]; omega
  · rw [e2 i (by omega)]
    rcases sp j (by omega) with h' | rfl
    · rw [e2 j h']; exact h.sort i j hij h'
    · rw [e1]; exact h.le i (by omega)
  · rw [e2 i (by omega)] at ho ⊢
    rcases sp j (by omega) with h' | rfl
    · rw [e2 j h'] at ho ⊢; exact h.play i j hij h' ho
    · rw [e1] at ho ⊢; exact hp i (by omega) ho
theorem el_erase {l : List Gate} {k i : Nat} (hk : k < l.length) : el (l.eraseIdx k) i = if i < k then el l i else el l (i + 1) := by
  unfold el
  simp only [List.getD_eq_getElem?_getD, List.getElem?_eraseIdx]
  split <;> rfl
theorem GoodG.erase {out : List Gate} {x : Int} {k : Nat} (h : GoodG out x) (hk : k < out.length) : GoodG (out.eraseIdx k) x := by
  have hl : (out.eraseIdx k).length = out.length - 1 := by rw [List.length_eraseIdx, if_pos hk]
  have e : ∀ i, i < out.length - 1 → ∃ q, q < out.length ∧ el (out.eraseIdx k) i = el out q ∧ q = (if i < k then i else i + 1) := fun i hi => by
    refine ⟨if i < k then i else i + 1, by split <;> omega, ?_, rfl⟩
    rw [el_erase hk]
    split <;> rfl
  refine ⟨fun i hi => ?_, fun i hi => ?_, fun i j hij hj => ?_, fun i j hij hj ho => ?_⟩
  · obtain ⟨q, q1, q2, q3⟩ := e i (by omega); rw [q2]; exact h.gate q q1
  · obtain ⟨q, q1, q2, q3⟩ := e i (by omega); rw [q2]; exact h.le q q1
  · obtain ⟨q, q1, q2, q3⟩ := e i (by omega)
    obtain ⟨r, r1, r2, r3⟩ := e j (by omega)
    rw [q2, r2]
    exact h.sort q r (by rw [q3, r3]; split <;> split <;> omega) r1
  · obtain ⟨q, q1, q2, q3⟩ := e i (by omega)
    obtain ⟨r, r1, r2, r3⟩ := e j (by omega)
    rw [q2, r2] at ho ⊢
    exact h.play q r (by rw [q3, r3]; split <;> split <;> omega) r1 ho
theorem GoodG.cut {out : List Gate} {x : Int} {k : Nat} (h : GoodG out x) (hk : k < out.length) (h1 : (el out k).s < x) (h2 : x < (el out k).e) : GoodG (out.set k { el out k with e := x }) x := by
  have hl : (out.set k { el out k with e := x }).length = out.length := by simp
  have e : ∀ i, (el (out.set k { el out k with e := x }) i).s = (el out i).s ∧ (el (out.set k { el out k with e := x }) i).o = (el out i).o ∧ (el (out.set k { el out k with e := x }) i).e ≤ (el out i).e := fun i => by
    by_cases e : k = i
    · subst e; rw [el_set_eq hk]; exact ⟨rfl, rfl, by simp only; omega⟩
    · rw [el_set_ne e]; exact ⟨rfl, rfl, Int.le_refl _⟩
  refine ⟨fun i hi => ?_, fun i hi => ?_, fun i j hij hj => ?_, fun i j hij hj ho => ?_⟩
  · by_cases e : k = i
    · subst e
      rw [el_set_eq hk]
      have := gateB_iff.1 (h.gate k hk)
      exact gateB_iff.2 ⟨this.1, this.2.1, by simp only; omega, by simp only; omega, this.2.2.2.2⟩
    · rw [el_set_ne e]; exact h.gate i (by omega)
  · rw [(e i).1]; exact h.le i (by omega)
  · rw [(e i).1, (e j).1]; exact h.sort i j hij (by omega)
  · rw [(e i).2.1, (e j).2.1] at ho
    rw [(e j).1]
    have := h.play i j hij (by omega) ho
    have := (e i).2.2
    omega
theorem scanS_why (out : List Gate) (s : Int) : ∀ v, ((scanS out s v).1 < 0 → ∀ u : Nat, u < v → s < (el out (lastI u out).toNat).e) ∧ (0 ≤ (scanS out s v).1 → lastI (scanS out s v).1 out < 0 ∨ (el out (lastI (scanS out s v).1 out).toNat).e ≤ s)
  | 0 => by simp [scanS]
  | v + 1 => by
    obtain ⟨h1, h2⟩ := scanS_why out s v
    simp only [scanS]
    refine ⟨fun h u hu => ?_, fun h => ?_⟩
    · split at h
      · omega
      · rename_i hc
        rcases Nat.lt_or_ge u v with h' | h'
        · exact h1 h u h'
        · obtain rfl : u = v := by omega
          by_cases hl : s < (el out (lastI u out).toNat).e
          · exact hl
          · exact absurd ⟨h, .inr (by omega)⟩ hc
    · split at h
      · rename_i hc
        rw [if_pos hc]
        exact hc.2
      · rename_i hc
        rw [if_neg hc]
        exact h2 h
theorem GoodG.step {out : List Gate} {x sh : Int} {V : Nat} {g : Gate} (h : GoodG out x) (hx : x ≤ g.s) (hg : gateB g = true) (hV : 1 ≤ V ∧ V ≤ 4) : GoodG (stepS V (out, sh) g).1 g.s := by
  have h' := h.later hx
  have hgb := gateB_iff.1 hg
  obtain ⟨s1, s2, s3, s4⟩ := scanS_bd out g.s V
  have hgo : ∀ o : Int, 0 ≤ o → o ≤ 3 → gateB { g with o := o } = true := fun o a b => gateB_iff.2 ⟨⟨a, b⟩, hgb.2⟩
  -- the gates of a voice end where its last one begins, or before
  have volast : ∀ (w : Int) (k : Nat), lastI w out = k → ∀ i, i < out.length → (el out i).o = w → i = k ∨ (i < k ∧ k < out.length ∧ (el out i).e ≤ (el out k).s) := by
    intro w k hk i hi ho
    rcases lastI_spec w out with ⟨a1, a2⟩ | ⟨j, a1, a2, a3, a4⟩
    · exact absurd ho (a2 i hi)
    · obtain rfl : j = k := by rw [hk] at a1; omega
      rcases Nat.lt_trichotomy i j with h1 | h1 | h1
      · exact .inr ⟨h1, a2, h'.play i j h1 a2 (by rw [ho, a3])⟩
      · exact .inl h1
      · exact absurd ho (a4 i h1 hi)
  unfold stepS
  by_cases hf : (scanS out g.s V).1 < 0
  · rw [if_pos hf]
    simp only
    obtain ⟨k, hk, hkl, hko⟩ : ∃ k : Nat, lastI (scanS out g.s V).2 out = k ∧ k < out.length ∧ (el out k).o = (scanS out g.s V).2 := by
      rcases lastI_spec (scanS out g.s V).2 out with ⟨a1, a2⟩ | ⟨j, a1, a2, a3, a4⟩
      · have := s4 hf (scanS out g.s V).2.toNat (by omega)
        rw [show (((scanS out g.s V).2.toNat : Nat) : Int) = (scanS out g.s V).2 by omega, a1] at this
        omega
      · exact ⟨j, a1, a2, a3⟩
    rw [hk, show (k : Int).toNat = k by omega]
    have hvl := volast _ k hk
    by_cases hs : (el out k).s = g.s
    · rw [if_pos hs]
      refine (h'.erase hkl).snoc (g := { g with o := (scanS out g.s V).2 }) (hgo _ (by omega) (by omega)) fun i hi ho => ?_
      rw [el_erase hkl] at ho ⊢
      rw [List.length_eraseIdx, if_pos hkl] at hi
      split at ho
      · rename_i hik
        rw [if_pos hik]
        rcases hvl i (by omega) ho with h1 | ⟨-, -, h1⟩
        · omega
        · simp only; omega
      · rename_i hik
        rcases hvl (i + 1) (by omega) ho with h1 | ⟨h1, -, -⟩ <;> omega
    · rw [if_neg hs]
      have hle := h'.le k hkl
      -- the last gate goes on
      have hend : g.s < (el out k).e := by
        have := (scanS_why out g.s V).1 hf (scanS out g.s V).2.toNat (by omega)
        rw [show (((scanS out g.s V).2.toNat : Nat) : Int) = (scanS out g.s V).2 by omega, hk, show (k : Int).toNat = k by omega] at this
        exact this
      refine (h'.cut hkl (by omega) hend).snoc (g := { g with o := (scanS out g.s V).2 }) (hgo _ (by omega) (by omega)) fun i hi ho => ?_
      by_cases e : k = i
      · subst e; rw [el_set_eq hkl]; exact Int.le_refl _
      · rw [el_set_ne e] at ho ⊢
        rw [List.length_set] at hi
        rcases hvl i hi ho with h1 | ⟨-, -, h1⟩
        · omega
        · simp only; omega
  · rw [if_neg hf]
    simp only
    refine h'.snoc (g := { g with o := (scanS out g.s V).1 }) (hgo _ (by omega) (by omega)) fun i hi ho => ?_
    have hw := (scanS_why out g.s V).2 (by omega)
    rcases lastI_spec (scanS out g.s V).1 out with ⟨a1, a2⟩ | ⟨j, a1, a2, a3, a4⟩
    · exact absurd ho (a2 i hi)
    · rw [a1, show (j : Int).toNat = j by omega] at hw
      have hj : (el out j).e ≤ g.s := by omega
      have hjs := gateB_iff.1 (h'.gate j a2)
      rcases volast _ j a1 i hi ho with h1 | ⟨-, -, h1⟩
      · rw [h1]; exact hj
      · simp only; omega
end Go.Proofs.Ytdcfofaojalilaa
