/- Gates: both allocations do the same, in plain words. No conditions. -/
import Derived.Test.YtdcfofaojalilaaG9
namespace Go.Proofs.Ytdcfofaojalilaa
open Go.RowKit
set_option linter.unusedVariables false
set_option linter.unusedSimpArgs false
theorem lastI_snoc (v : Int) (l : List Gate) (g : Gate) : lastI v (l ++ [g]) = if g.o = v then (l.length : Int) else lastI v l := by
  by_cases h : g.o = v
  · rw [if_pos h]
    refine lastI_some (by simp) ?_ fun j h1 h2 => ?_
    · rw [el_append_right (Nat.le_refl _), Nat.sub_self]; exact h
    · simp at h2; omega
  · rw [if_neg h]
    rcases lastI_spec v l with ⟨h1, h2⟩ | ⟨i, h1, h2, h3, h4⟩
    · rw [h1]
      refine lastI_none fun i hi => ?_
      by_cases hil : i < l.length
      · rw [el_append_left hil]; exact h2 i hil
      · rw [el_append_right (by omega), show i - l.length = 0 by simp at hi; omega]; exact h
    · rw [h1]
      refine lastI_some (by simp; omega) (by rw [el_append_left h2]; exact h3) fun j hj hjl => ?_
      by_cases hil : j < l.length
      · rw [el_append_left hil]; exact h4 j hj hil
      · rw [el_append_right (by omega), show j - l.length = 0 by simp at hjl; omega]; exact h
/-- Of the first i gates, those that are not removed. -/
def keepR (gs : List Gate) (rm : List Bool) : Nat → List Gate
  | 0 => []
  | i + 1 => keepR gs rm i ++ (if el rm i = true then [] else [el gs i])
theorem keepR_congr {gs gs' : List Gate} {rm rm' : List Bool} : ∀ {i : Nat}, (∀ j, j < i → el gs j = el gs' j ∧ el rm j = el rm' j) → keepR gs rm i = keepR gs' rm' i
  | 0, _ => rfl
  | i + 1, h => by
    rw [keepR, keepR, keepR_congr fun j hj => h j (by omega), (h i (by omega)).1, (h i (by omega)).2]
theorem keepR_last {gs : List Gate} {rm : List Bool} {v : Int} {j : Nat} : ∀ {i : Nat}, j ≤ i → (∀ q, j ≤ q → q < i → el rm q = true ∨ (el gs q).o ≠ v) → lastI v (keepR gs rm i) = lastI v (keepR gs rm j)
  | 0, hj, _ => by rw [show j = 0 by omega]
  | i + 1, hj, h => by
    by_cases e : j = i + 1
    · rw [e]
    · have ih := keepR_last (v := v) (j := j) (i := i) (by omega) fun q h1 h2 => h q h1 (by omega)
      rw [keepR]
      rcases h i (by omega) (by omega) with h1 | h1
      · rw [if_pos h1, List.append_nil, ih]
      · split
        · rw [List.append_nil, ih]
        · rw [lastI_snoc, if_neg h1, ih]
theorem keepR_len_le (gs : List Gate) (rm : List Bool) {j : Nat} : ∀ {i : Nat}, j ≤ i → (keepR gs rm j).length ≤ (keepR gs rm i).length
  | 0, hj => by rw [show j = 0 by omega]; exact Nat.le_refl _
  | i + 1, hj => by
    by_cases e : j = i + 1
    · rw [e]; exact Nat.le_refl _
    · have := keepR_len_le gs rm (j := j) (i := i) (by omega)
      rw [keepR, List.length_append]
      omega
theorem keepR_el {gs : List Gate} {rm : List Bool} {j : Nat} (hr : el rm j = false) : ∀ {i : Nat}, j < i → (keepR gs rm j).length < (keepR gs rm i).length ∧ el (keepR gs rm i) (keepR gs rm j).length = el gs j
  | 0, hj => by omega
  | i + 1, hj => by
    by_cases e : j = i
    · subst e
      rw [keepR, if_neg (by rw [hr]; simp)]
      refine ⟨by simp, ?_⟩
      rw [el_append_right (Nat.le_refl _), Nat.sub_self]
      rfl
    · obtain ⟨h1, h2⟩ := keepR_el (gs := gs) hr (i := i) (by omega)
      rw [keepR]
      exact ⟨by rw [List.length_append]; omega, by rw [el_append_left h1]; exact h2⟩
/-- One gate of those is changed. -/
theorem keepR_set {gs : List Gate} {rm : List Bool} {j : Nat} {g : Gate} (hj : j < gs.length) (hr : el rm j = false) : ∀ {i : Nat}, j < i → keepR (gs.set j g) rm i = (keepR gs rm i).set (keepR gs rm j).length g
  | 0, h => by omega
  | i + 1, h => by
    by_cases e : j = i
    · subst e
      rw [keepR, keepR, if_neg (by rw [hr]; simp), if_neg (by rw [hr]; simp), el_set_self hj, keepR_congr (gs := gs.set j g) (gs' := gs) (rm' := rm) fun q hq => ⟨by simp [el, List.getElem?_set_ne (show j ≠ q by omega)], rfl⟩, List.set_append_right _ _ (Nat.le_refl _), Nat.sub_self]
      rfl
    · have h1 := (keepR_el (gs := gs) hr (i := i) (by omega)).1
      have e2 : el (gs.set j g) i = el gs i := by simp [el, List.getElem?_set_ne e]
      rw [keepR, keepR, keepR_set hj hr (by omega), List.set_append_left _ _ h1, e2]
theorem keepR_erase {gs : List Gate} {rm : List Bool} {j : Nat} (hj : j < rm.length) (hr : el rm j = false) : ∀ {i : Nat}, j < i → keepR gs (rm.set j true) i = (keepR gs rm i).eraseIdx (keepR gs rm j).length
  | 0, h => by omega
  | i + 1, h => by
    by_cases e : j = i
    · subst e
      have e1 : el (rm.set j true) j = true := by simp [el, hj]
      rw [keepR, keepR, if_pos e1, if_neg (by rw [hr]; simp), List.append_nil, keepR_congr (rm := rm.set j true) (gs' := gs) (rm' := rm) fun q hq => ⟨rfl, by simp [el, List.getElem?_set_ne (show j ≠ q by omega)]⟩]
      rw [List.eraseIdx_append_of_length_le (Nat.le_refl _), Nat.sub_self]
      simp
    · have h1 := (keepR_el (gs := gs) hr (i := i) (by omega)).1
      have e2 : el (rm.set j true) i = el rm i := by simp [el, List.getElem?_set_ne e]
      rw [keepR, keepR, keepR_erase hj hr (by omega), List.eraseIdx_append_of_lt_length h1, e2]
/-- What the program's lists have to do with the reference's. -/
structure RelA (V i : Nat) (l gs : List Gate) (rm : List Bool) (ls : List Int) (out : List Gate) : Prop where
  gl : gs.length = l.length
  rl : rm.length = l.length
  ll : ls.length = V
  hi : i ≤ l.length
  rest : ∀ j, i ≤ j → j < l.length → el rm j = false ∧ el gs j = el l j
  out_ : out = keepR gs rm i
  last : ∀ v, v < V → (el ls v = -1 ∧ ∀ j, j < i → el rm j = true ∨ (el gs j).o ≠ v) ∨ (∃ j : Nat, j < i ∧ el ls v = j ∧ el rm j = false ∧ (el gs j).o = v ∧ ∀ q, j < q → q < i → el rm q = true ∨ (el gs q).o ≠ v)
theorem RelA.at_ {V i : Nat} {l gs : List Gate} {rm : List Bool} {ls : List Int} {out : List Gate} (h : RelA V i l gs rm ls out) {v : Nat} (hv : v < V) : (el ls v = -1 ∧ lastI v out = -1) ∨ (∃ j : Nat, j < i ∧ el ls v = j ∧ el rm j = false ∧ (el gs j).o = v ∧ lastI v out = (keepR gs rm j).length ∧ el out (keepR gs rm j).length = el gs j) := by
  rcases h.last v hv with ⟨h1, h2⟩ | ⟨j, h1, h2, h3, h4, h5⟩
  · left
    refine ⟨h1, ?_⟩
    rw [h.out_, keepR_last (j := 0) (by omega) fun q _ hq => h2 q hq]
    rfl
  · right
    refine ⟨j, h1, h2, h3, h4, ?_, by rw [h.out_]; exact (keepR_el h3 h1).2⟩
    rw [h.out_, keepR_last (j := j + 1) (by omega) fun q h6 h7 => h5 q (by omega) h7, keepR, if_neg (by rw [h3]; simp), lastI_snoc, if_pos h4]
theorem RelA.free {V i : Nat} {l gs : List Gate} {rm : List Bool} {ls : List Int} {out : List Gate} (h : RelA V i l gs rm ls out) (s : Int) : ∀ v, v ≤ V → ((scanS out s v).1 = -1 ∧ (∀ u, u < v → freeB gs s (el ls u) = false) ∧ (scanS out s v).2 = oldV gs ls v) ∨ (∃ f : Nat, f < v ∧ (scanS out s v).1 = f ∧ freeB gs s (el ls f) = true ∧ ∀ u, u < f → freeB gs s (el ls u) = false)
  | 0, _ => .inl ⟨rfl, fun u hu => by omega, rfl⟩
  | v + 1, hv => by
    have ih := h.free s v (by omega)
    have ha := h.at_ (v := v) (by omega)
    rcases ih with ⟨h1, h2, h3⟩ | ⟨f, h1, h2, h3, h4⟩
    · rcases ha with ⟨a1, a2⟩ | ⟨j, a1, a2, a3, a4, a5, a6⟩
      · right
        refine ⟨v, by omega, ?_, by simp [freeB, a1], h2⟩
        simp [scanS, h1, a2]
      · by_cases hs : (el gs j).e ≤ s
        · right
          refine ⟨v, by omega, ?_, by rw [a2]; simp [freeB, hs], h2⟩
          simp [scanS, h1, a5, a6, hs]
        · left
          have hfb : freeB gs s (el ls v) = false := by rw [a2]; simp [freeB]; omega
          -- the oldest up to now
          have hold : ∃ jo : Nat, el ls (oldV gs ls v) = jo ∧ el out (lastI (oldV gs ls v) out).toNat = el gs jo := by
            have hlt := oldV_lt gs ls v
            by_cases hv0 : v = 0
            · subst hv0
              refine ⟨j, a2, ?_⟩
              show el out (lastI ((0 : Nat) : Int) out).toNat = _
              rw [a5]
              exact a6
            · have hb2 := h2 (oldV gs ls v) (by omega)
              rcases h.at_ (v := oldV gs ls v) (by omega) with ⟨b1, b2⟩ | ⟨jo, b1, b2, b3, b4, b5, b6⟩
              · rw [b1] at hb2
                simp [freeB] at hb2
              · exact ⟨jo, b2, by rw [b5]; exact b6⟩
          obtain ⟨jo, o1, o2⟩ := hold
          refine ⟨by simp [scanS, h1, a5, a6, hs], fun u hu => ?_, ?_⟩
          · by_cases e : u = v
            · rw [e]; exact hfb
            · exact h2 u (by omega)
          · have e5 : ((keepR gs rm j).length : Int).toNat = (keepR gs rm j).length := by omega
            simp only [scanS, h1, a5, e5, a6, h3, o2, oldV, a2, o1]
            have n1 : ¬ (((keepR gs rm j).length : Int) < 0) := by omega
            have n2 : (0 : Int) ≤ (keepR gs rm j).length := by omega
            simp [n1, n2, hs]
            split <;> rfl
    · right
      refine ⟨f, by omega, ?_, h3, h4⟩
      have : ¬ ((f : Int) < 0) := by omega
      simp [scanS, h2, this]
theorem el_set_ne {α : Type} [Inhabited α] {l : List α} {j q : Nat} {x : α} (h : j ≠ q) : el (l.set j x) q = el l q := by simp [el, List.getElem?_set_ne h]
theorem el_set_eq {α : Type} [Inhabited α] {l : List α} {j : Nat} {x : α} (h : j < l.length) : el (l.set j x) j = x := by simp [el, h]
theorem relA_assign {V i w : Nat} {l gs : List Gate} {rm : List Bool} {ls : List Int} (hw : w < V) (hi : i < l.length) (gl : gs.length = l.length) (rl : rm.length = l.length) (ll : ls.length = V) (rest : ∀ j, i ≤ j → j < l.length → el rm j = false ∧ el gs j = el l j)
    (last : ∀ v, v < V → v ≠ w → (el ls v = -1 ∧ ∀ j, j < i → el rm j = true ∨ (el gs j).o ≠ v) ∨ (∃ j : Nat, j < i ∧ el ls v = j ∧ el rm j = false ∧ (el gs j).o = v ∧ ∀ q, j < q → q < i → el rm q = true ∨ (el gs q).o ≠ v)) :
    RelA V (i + 1) l (gs.set i { el l i with o := w }) rm (ls.set w i) (keepR gs rm i ++ [{ el l i with o := w }]) := by
  have hgi : el (gs.set i { el l i with o := w }) i = { el l i with o := w } := el_set_eq (by omega)
  refine ⟨by simp [gl], rl, by simp [ll], by omega, fun j h1 h2 => ?_, ?_, fun v hv => ?_⟩
  · rw [el_set_ne (by omega)]
    exact rest j (by omega) h2
  · rw [keepR, if_neg (by rw [(rest i (Nat.le_refl _) hi).1]; simp), hgi, keepR_congr (gs' := gs.set i { el l i with o := w }) (rm' := rm) fun j hj => ⟨(el_set_ne (by omega)).symm, rfl⟩]
  · by_cases e : v = w
    · subst e
      refine .inr ⟨i, by omega, el_set_eq (by omega), (rest i (Nat.le_refl _) hi).1, by rw [hgi], fun q h1 h2 => by omega⟩
    · have hne : (w : Int) ≠ v := by omega
      rcases last v hv e with ⟨h1, h2⟩ | ⟨j, h1, h2, h3, h4, h5⟩
      · refine .inl ⟨by rw [el_set_ne (by omega)]; exact h1, fun j hj => ?_⟩
        by_cases e2 : j = i
        · subst e2; exact .inr (by rw [hgi]; exact hne)
        · rw [el_set_ne (by omega)]; exact h2 j (by omega)
      · refine .inr ⟨j, by omega, by rw [el_set_ne (by omega)]; exact h2, h3, by rw [el_set_ne (by omega)]; exact h4, fun q h6 h7 => ?_⟩
        by_cases e2 : q = i
        · subst e2; exact .inr (by rw [hgi]; exact hne)
        · rw [el_set_ne (by omega)]; exact h5 q h6 (by omega)
theorem RelA.step_free {V i f : Nat} {l gs : List Gate} {rm : List Bool} {ls : List Int} {out : List Gate} {sh : Int} (h : RelA V i l gs rm ls out) (hi : i < l.length) (hf : f < V) (hs : (scanS out (el l i).s V).1 = f) :
    RelA V (i + 1) l (gs.set i { el l i with o := f }) rm (ls.set f i) (stepS V (out, sh) (el l i)).1 ∧ (stepS V (out, sh) (el l i)).2 = sh := by
  have hn : ¬ ((f : Int) < 0) := by omega
  have e : stepS V (out, sh) (el l i) = (out ++ [{ el l i with o := f }], sh) := by simp [stepS, hs, hn]
  rw [e]
  refine ⟨?_, rfl⟩
  simp only
  rw [h.out_]
  exact relA_assign hf hi h.gl h.rl h.ll h.rest fun v hv _ => h.last v hv
theorem RelA.step_steal {V i w j : Nat} {l gs : List Gate} {rm : List Bool} {ls : List Int} {out : List Gate} {sh : Int} (h : RelA V i l gs rm ls out) (hi : i < l.length) (hs : (scanS out (el l i).s V).1 = -1) (hw : (scanS out (el l i).s V).2 = w) (hwV : w < V) (hj : el ls w = j) :
    RelA V (i + 1) l ((gs.set j { el gs j with e := (el l i).s }).set i { el l i with o := w }) (rm.set j (decide ((el gs j).s = (el l i).s))) (ls.set w i) (stepS V (out, sh) (el l i)).1 ∧ (stepS V (out, sh) (el l i)).2 = sh + 1 := by
  rcases h.at_ hwV with ⟨a1, a2⟩ | ⟨j', a1, a2, a3, a4, a5, a6⟩
  · rw [hj] at a1; omega
  obtain rfl : j' = j := by rw [hj] at a2; omega
  have hjl : j' < gs.length := by have := h.gl; omega
  have hjr : j' < rm.length := by have := h.rl; omega
  have hp : ((keepR gs rm j').length : Int).toNat = (keepR gs rm j').length := by omega
  have hout1 : keepR (gs.set j' { el gs j' with e := (el l i).s }) (rm.set j' (decide ((el gs j').s = (el l i).s))) i = if (el gs j').s = (el l i).s then out.eraseIdx (keepR gs rm j').length else out.set (keepR gs rm j').length { el gs j' with e := (el l i).s } := by
    have k1 : keepR (gs.set j' { el gs j' with e := (el l i).s }) rm j' = keepR gs rm j' := keepR_congr fun q hq => ⟨el_set_ne (by omega), rfl⟩
    by_cases hsj : (el gs j').s = (el l i).s
    · rw [if_pos hsj, decide_eq_true hsj, keepR_erase hjr a3 a1, keepR_set hjl a3 a1, k1, List.eraseIdx_set_eq, h.out_]
    · rw [if_neg hsj, decide_eq_false hsj, keepR_congr (gs' := gs.set j' { el gs j' with e := (el l i).s }) (rm' := rm) fun q hq => ⟨rfl, ?_⟩, keepR_set hjl a3 a1, h.out_]
      by_cases e : j' = q
      · subst e; rw [el_set_eq hjr, a3]
      · rw [el_set_ne e]
  have e : stepS V (out, sh) (el l i) = ((if (el gs j').s = (el l i).s then out.eraseIdx (keepR gs rm j').length else out.set (keepR gs rm j').length { el gs j' with e := (el l i).s }) ++ [{ el l i with o := w }], sh + 1) := by
    simp [stepS, hs, hw, a5, a6]
  rw [e]
  refine ⟨?_, rfl⟩
  simp only
  rw [← hout1]
  refine relA_assign hwV hi (by simp [h.gl]) (by simp [h.rl]) h.ll (fun q h1 h2 => ?_) (fun v hv hvw => ?_)
  · rw [el_set_ne (by omega), el_set_ne (by omega)]
    exact h.rest q h1 h2
  · have ho : ∀ q, (el (gs.set j' { el gs j' with e := (el l i).s }) q).o = (el gs q).o := fun q => by
      by_cases e : j' = q
      · subst e; rw [el_set_eq hjl]
      · rw [el_set_ne e]
    have hr : ∀ q, (el rm q = true ∨ (el gs q).o ≠ v) → (el (rm.set j' (decide ((el gs j').s = (el l i).s))) q = true ∨ (el (gs.set j' { el gs j' with e := (el l i).s }) q).o ≠ v) := fun q hq => by
      rw [ho]
      by_cases e : j' = q
      · subst e; exact .inr (by rw [a4]; omega)
      · rw [el_set_ne e]; exact hq
    rcases h.last v hv with ⟨h1, h2⟩ | ⟨q, h1, h2, h3, h4, h5⟩
    · exact .inl ⟨h1, fun q hq => hr q (h2 q hq)⟩
    · have hqj : j' ≠ q := fun e => by subst e; rw [a4] at h4; omega
      exact .inr ⟨q, h1, h2, by rw [el_set_ne hqj]; exact h3, by rw [ho]; exact h4, fun q' h6 h7 => hr q' (h5 q' h6 h7)⟩
theorem relA_zero {V : Nat} {l : List Gate} : RelA V 0 l l (List.replicate l.length false) (List.replicate V (-1)) [] := by
  refine ⟨rfl, by simp, by simp, by omega, fun j _ hj => ⟨by simp [el, hj], rfl⟩, rfl, fun v hv => .inl ⟨by simp [el, hv], fun j hj => by omega⟩⟩
end Go.Proofs.Ytdcfofaojalilaa
