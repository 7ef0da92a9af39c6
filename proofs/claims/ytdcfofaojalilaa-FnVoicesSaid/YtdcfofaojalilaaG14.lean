/- Gates: what voices have after an allocation, in plain words. No conditions. -/
import Derived.Test.YtdcfofaojalilaaG13
namespace Go.Proofs.Ytdcfofaojalilaa
open Go.RowKit
set_option linter.unusedVariables false
set_option linter.unusedSimpArgs false
theorem GoodG.ok {out : List Gate} {x : Int} (h : GoodG out x) (hl : out.length ≤ 60) : okG out = true := by
  rw [okG_of fun i hi => ⟨h.gate i hi, fun h0 => h.sort (i - 1) i (by omega) hi⟩]
  exact decide_eq_true hl
theorem GoodG.playB {out : List Gate} {x : Int} (h : GoodG out x) : playB out = true :=
  decide_eq_true fun i hi k hk hc => by have := h.play k i hk hi hc.1; omega
theorem GoodG.nil (x : Int) : GoodG [] x := ⟨fun i hi => by simp at hi, fun i hi => by simp at hi, fun i j _ hj => by simp at hj, fun i j _ hj => by simp at hj⟩
theorem GoodG.alloc {V : Nat} (hV : 1 ≤ V ∧ V ≤ 4) : ∀ (l : List Gate) (out : List Gate) (sh x : Int), GoodG out x → (∀ i, i < l.length → gateB (el l i) = true ∧ x ≤ (el l i).s) → (∀ i, 0 < i → i < l.length → (el l (i - 1)).s ≤ (el l i).s) →
    ∃ y, GoodG (l.foldl (stepS V) (out, sh)).1 y
  | [], out, sh, x, h, _, _ => ⟨x, h⟩
  | g :: l, out, sh, x, h, h1, h2 => by
    have hg := h1 0 (by simp)
    have hs := h.step (sh := sh) (V := V) hg.2 hg.1 hV
    rw [el_zero] at hs
    have up : ∀ i, i < l.length → g.s ≤ (el l i).s := by
      intro i
      induction i with
      | zero => intro hi; have := h2 1 (by omega) (by simpa using hi); rw [el_succ, show (1 - 1 : Nat) = 0 from rfl, el_zero] at this; exact this
      | succ i ih =>
        intro hi
        have := h2 (i + 2) (by omega) (by simp only [List.length_cons]; omega)
        rw [el_succ, show (i + 2 - 1 : Nat) = i + 1 from rfl, el_succ] at this
        exact Int.le_trans (ih (by omega)) this
    rw [List.foldl_cons]
    obtain ⟨o, s⟩ : ∃ o s, stepS V (out, sh) g = (o, s) := ⟨_, _, rfl⟩
    obtain ⟨s, e⟩ := s
    rw [e] at hs ⊢
    refine GoodG.alloc hV l o s g.s hs (fun i hi => ⟨by have := (h1 (i + 1) (by simpa using hi)).1; rwa [el_succ] at this, up i hi⟩) fun i h0 hi => ?_
    have := h2 (i + 1) (by omega) (by simpa using hi)
    rw [el_succ, show i + 1 - 1 = (i - 1) + 1 by omega, el_succ] at this
    exact this
/-- A list is good, told of its parts. -/
theorem goodG_cons {g : Gate} {l : List Gate} {x : Int} : GoodG (g :: l) x ↔ gateB g = true ∧ g.s ≤ x ∧ (∀ i, i < l.length → g.s ≤ (el l i).s ∧ (g.o = (el l i).o → g.e ≤ (el l i).s)) ∧ GoodG l x := by
  constructor
  · intro h
    refine ⟨h.gate 0 (by simp), h.le 0 (by simp), fun i hi => ⟨h.sort 0 (i + 1) (by omega) (by simpa using hi), h.play 0 (i + 1) (by omega) (by simpa using hi)⟩, ⟨fun i hi => h.gate (i + 1) (by simpa using hi), fun i hi => h.le (i + 1) (by simpa using hi), fun i j hij hj => h.sort (i + 1) (j + 1) (by omega) (by simpa using hj), fun i j hij hj => h.play (i + 1) (j + 1) (by omega) (by simpa using hj)⟩⟩
  · rintro ⟨h1, h2, h3, h4⟩
    refine ⟨fun i hi => ?_, fun i hi => ?_, fun i j hij hj => ?_, fun i j hij hj => ?_⟩
    · rcases i with _ | i
      · exact h1
      · exact h4.gate i (by simpa using hi)
    · rcases i with _ | i
      · exact h2
      · exact h4.le i (by simpa using hi)
    · rcases j with _ | j
      · omega
      · rcases i with _ | i
        · exact (h3 j (by simpa using hj)).1
        · exact h4.sort i j (by omega) (by simpa using hj)
    · rcases j with _ | j
      · omega
      · rcases i with _ | i
        · exact (h3 j (by simpa using hj)).2
        · exact h4.play i j (by omega) (by simpa using hj)
theorem el_voice {l : List Gate} {v : Int} {i : Nat} (hi : i < (voiceL l v).length) : ∃ j, j < l.length ∧ el (voiceL l v) i = el l j ∧ (el l j).o = v := by
  have h := el_mem hi
  rw [voiceL, List.mem_filter] at h
  obtain ⟨j, hj, e⟩ := List.getElem_of_mem h.1
  rw [el_eq hj] at e
  exact ⟨j, hj, e.symm, by rw [e]; simpa [voiceL] using h.2⟩
theorem GoodG.voice {x v : Int} : ∀ {l : List Gate}, GoodG l x → GoodG (voiceL l v) x
  | [], h => h
  | g :: l, h => by
    obtain ⟨h1, h2, h3, h4⟩ := goodG_cons.1 h
    have ih := GoodG.voice (v := v) h4
    by_cases hv : g.o = v
    · have e : voiceL (g :: l) v = g :: voiceL l v := by simp [voiceL, hv]
      rw [e]
      refine goodG_cons.2 ⟨h1, h2, fun i hi => ?_, ih⟩
      obtain ⟨j, j1, j2, -⟩ := el_voice hi
      rw [j2]
      exact h3 j j1
    · have e : voiceL (g :: l) v = voiceL l v := by simp [voiceL, hv]
      rw [e]
      exact ih
/-- How many gates of a list contain a sample. -/
def cntT (l : List Gate) (t : Int) : Nat := (l.filter fun g => decide (g.s ≤ t) && decide (t < g.e)).length
theorem cntT_snoc (l : List Gate) (g : Gate) (t : Int) : cntT (l ++ [g]) t = cntT l t + (if g.s ≤ t ∧ t < g.e then 1 else 0) := by
  unfold cntT
  rw [List.filter_append, List.length_append]
  by_cases h : g.s ≤ t ∧ t < g.e
  · simp [h]
  · rw [if_neg h]
    have : (decide (g.s ≤ t) && decide (t < g.e)) = false := by simpa using h
    simp [this]
theorem cntT_cons (l : List Gate) (g : Gate) (t : Int) : cntT (g :: l) t = (if g.s ≤ t ∧ t < g.e then 1 else 0) + cntT l t := by
  unfold cntT
  by_cases h : g.s ≤ t ∧ t < g.e
  · simp [h]; omega
  · rw [if_neg h]
    have : (decide (g.s ≤ t) && decide (t < g.e)) = false := by simpa using h
    simp [this]
theorem cntT_zero {l : List Gate} {t : Int} (h : ∀ i, i < l.length → ¬ ((el l i).s ≤ t ∧ t < (el l i).e)) : cntT l t = 0 := by
  unfold cntT
  rw [List.length_eq_zero_iff, List.filter_eq_nil_iff]
  intro a ha
  obtain ⟨i, hi, rfl⟩ := List.getElem_of_mem ha
  have := h i hi
  rw [el_eq hi]
  simpa using this
/-- At most one gate of a voice contains a sample. -/
theorem cntT_voice {v t x : Int} : ∀ {l : List Gate}, GoodG l x → cntT (voiceL l v) t = if ∃ i, i < l.length ∧ atB v t (el l i) = true then 1 else 0
  | [], h => by simp [voiceL, cntT]
  | g :: l, h => by
    obtain ⟨h1, h2, h3, h4⟩ := goodG_cons.1 h
    have ih := cntT_voice (v := v) (t := t) h4
    have hat : atB v t g = true ↔ g.o = v ∧ g.s ≤ t ∧ t < g.e := by simp [atB, and_assoc]
    have hsplit : (∃ i, i < (g :: l).length ∧ atB v t (el (g :: l) i) = true) ↔ atB v t g = true ∨ ∃ i, i < l.length ∧ atB v t (el l i) = true := by
      constructor
      · rintro ⟨i, hi, h⟩
        rcases i with _ | i
        · exact .inl h
        · exact .inr ⟨i, by simpa using hi, h⟩
      · rintro (h | ⟨i, hi, h⟩)
        · exact ⟨0, by simp, h⟩
        · exact ⟨i + 1, by simpa using hi, h⟩
    by_cases hg : atB v t g = true
    · obtain ⟨a1, a2, a3⟩ := hat.1 hg
      rw [if_pos (hsplit.2 (.inl hg))]
      have e : voiceL (g :: l) v = g :: voiceL l v := by simp [voiceL, a1]
      rw [e, cntT_cons, if_pos ⟨a2, a3⟩, cntT_zero]
      intro i hi hc
      obtain ⟨j, j1, j2, j3⟩ := el_voice hi
      rw [j2] at hc
      have := (h3 j j1).2 (by rw [j3, a1])
      omega
    · have e : cntT (voiceL (g :: l) v) t = cntT (voiceL l v) t := by
        by_cases hv : g.o = v
        · have e : voiceL (g :: l) v = g :: voiceL l v := by simp [voiceL, hv]
          rw [e, cntT_cons, if_neg (fun hc => hg (hat.2 ⟨hv, hc⟩))]
          omega
        · have e : voiceL (g :: l) v = voiceL l v := by simp [voiceL, hv]
          rw [e]
      rw [e, ih]
      by_cases hx : ∃ i, i < l.length ∧ atB v t (el l i) = true
      · rw [if_pos hx, if_pos (hsplit.2 (.inr hx))]
      · rw [if_neg hx, if_neg (fun hc => (hsplit.1 hc).elim hg hx)]
theorem voice_sum : ∀ {l : List Gate}, (∀ i, i < l.length → gateB (el l i) = true) → (voiceL l 0).length + (voiceL l 1).length + (voiceL l 2).length + (voiceL l 3).length = l.length
  | [], h => by simp [voiceL]
  | g :: l, h => by
    have ih := voice_sum (l := l) fun i hi => h (i + 1) (by simpa using hi)
    have hg := (gateB_iff.1 (h 0 (by simp))).1
    rw [el_zero] at hg
    have c : ∀ v : Int, (voiceL (g :: l) v).length = (voiceL l v).length + (if g.o = v then 1 else 0) := fun v => by
      by_cases hv : g.o = v <;> simp [voiceL, hv]
    rw [c, c, c, c, List.length_cons]
    have : g.o = 0 ∨ g.o = 1 ∨ g.o = 2 ∨ g.o = 3 := by omega
    rcases this with e | e | e | e <;> simp [e] <;> omega
end Go.Proofs.Ytdcfofaojalilaa
