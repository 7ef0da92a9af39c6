/- Gates: voices are given, in plain words. No conditions. -/
import Derived.Test.YtdcfofaojalilaaG6
import Derived.Test.YtdcfofaojalilaaClGate
namespace Go.Proofs.Ytdcfofaojalilaa
open Go.RowKit
set_option linter.unusedVariables false
set_option linter.unusedSimpArgs false
set_option maxRecDepth 100000
attribute [local simp] List.getElem?_cons_zero
attribute [local irreducible] awCond awCall awLoop awDraw ow retQ retC resQ Keeps
/-- The index of the last gate of a voice, -1 if there is none. -/
def lastI (v : Int) : List Gate → Int
  | [] => -1
  | g :: l => if 0 ≤ lastI v l then lastI v l + 1 else if g.o = v then 0 else -1
theorem el_zero (g : Gate) (l : List Gate) : el (g :: l) 0 = g := rfl
theorem el_succ (g : Gate) (l : List Gate) (i : Nat) : el (g :: l) (i + 1) = el l i := rfl
theorem lastI_spec (v : Int) : ∀ l : List Gate, (lastI v l = -1 ∧ ∀ i, i < l.length → (el l i).o ≠ v) ∨ (∃ i : Nat, lastI v l = i ∧ i < l.length ∧ (el l i).o = v ∧ ∀ j, i < j → j < l.length → (el l j).o ≠ v)
  | [] => .inl ⟨rfl, fun i hi => by simp at hi⟩
  | g :: l => by
    rcases lastI_spec v l with ⟨h1, h2⟩ | ⟨i, h1, h2, h3, h4⟩
    · have e : lastI v (g :: l) = if g.o = v then 0 else -1 := by rw [lastI, h1]; rfl
      by_cases hg : g.o = v
      · refine .inr ⟨0, by rw [e, if_pos hg]; rfl, by simp, hg, fun j hj hl => ?_⟩
        obtain ⟨j, rfl⟩ : ∃ j', j = j' + 1 := ⟨j - 1, by omega⟩
        rw [el_succ]
        exact h2 j (by simpa using hl)
      · refine .inl ⟨by rw [e, if_neg hg], fun j hl => ?_⟩
        rcases j with _ | j
        · exact hg
        · rw [el_succ]; exact h2 j (by simpa using hl)
    · refine .inr ⟨i + 1, by rw [lastI, h1, if_pos (by omega)]; rfl, by simpa using h2, by rw [el_succ]; exact h3, fun j hj hl => ?_⟩
      obtain ⟨j, rfl⟩ : ∃ j', j = j' + 1 := ⟨j - 1, by omega⟩
      rw [el_succ]
      exact h4 j (by omega) (by simpa using hl)
theorem lastI_none {v : Int} {l : List Gate} (h : ∀ i, i < l.length → (el l i).o ≠ v) : lastI v l = -1 := by
  rcases lastI_spec v l with ⟨h1, _⟩ | ⟨i, _, h2, h3, _⟩
  · exact h1
  · exact absurd h3 (h i h2)
theorem lastI_some {v : Int} {l : List Gate} {i : Nat} (hi : i < l.length) (h : (el l i).o = v) (hj : ∀ j, i < j → j < l.length → (el l j).o ≠ v) : lastI v l = i := by
  rcases lastI_spec v l with ⟨_, h2⟩ | ⟨k, h1, h2, h3, h4⟩
  · exact absurd h (h2 i hi)
  · rcases Nat.lt_trichotomy k i with hlt | rfl | hgt
    · exact absurd h (h4 i hlt hi)
    · exact h1
    · exact absurd h3 (hj k hgt h2)
/-- The free voice with the least number (-1), and the voice whose last gate began first, of v voices. -/
def scanS (out : List Gate) (s : Int) : Nat → Int × Int
  | 0 => (-1, 0)
  | v + 1 =>
    let f := if (scanS out s v).1 < 0 ∧ (lastI v out < 0 ∨ (el out (lastI v out).toNat).e ≤ s) then (v : Int) else (scanS out s v).1
    (f, if 0 ≤ lastI v out ∧ f < 0 ∧ (el out (lastI v out).toNat).s < (el out (lastI (scanS out s v).2 out).toNat).s then (v : Int) else (scanS out s v).2)
theorem scanS_bd (out : List Gate) (s : Int) : ∀ v, (-1 ≤ (scanS out s v).1 ∧ (scanS out s v).1 < v) ∧ 0 ≤ (scanS out s v).2 ∧ ((scanS out s v).2 < v ∨ (scanS out s v).2 = 0) ∧ ((scanS out s v).1 < 0 → ∀ u : Nat, u < v → 0 ≤ lastI u out)
  | 0 => by simp [scanS]
  | v + 1 => by
    obtain ⟨h1, h2, h3, h4⟩ := scanS_bd out s v
    simp only [scanS]
    refine ⟨by split <;> omega, by split <;> omega, by split <;> omega, fun h u hu => ?_⟩
    split at h
    · omega
    · rename_i hc
      rcases Nat.lt_or_ge u v with h' | h'
      · exact h4 h u h'
      · obtain rfl : u = v := by omega
        by_cases hl : 0 ≤ lastI u out
        · exact hl
        · exact absurd ⟨h, .inl (by omega)⟩ hc
/-- One gate more is given to a voice. -/
def stepS (voices : Nat) (st : List Gate × Int) (g : Gate) : List Gate × Int :=
  if (scanS st.1 g.s voices).1 < 0 then
    ((if (el st.1 (lastI (scanS st.1 g.s voices).2 st.1).toNat).s = g.s then st.1.eraseIdx (lastI (scanS st.1 g.s voices).2 st.1).toNat
      else st.1.set (lastI (scanS st.1 g.s voices).2 st.1).toNat { el st.1 (lastI (scanS st.1 g.s voices).2 st.1).toNat with e := g.s }) ++ [{ g with o := (scanS st.1 g.s voices).2 }], st.2 + 1)
  else (st.1 ++ [{ g with o := (scanS st.1 g.s voices).1 }], st.2)
def allocP (voices : Nat) (l : List Gate) : List Gate × Int := l.foldl (stepS voices) ([], 0)
theorem allocP_snoc (voices : Nat) (l : List Gate) (g : Gate) : allocP voices (l ++ [g]) = stepS voices (allocP voices l) g := by simp [allocP]
theorem stepS_len (voices : Nat) (st : List Gate × Int) (g : Gate) : (stepS voices st g).1.length ≤ st.1.length + 1 ∧ st.2 ≤ (stepS voices st g).2 ∧ (stepS voices st g).2 ≤ st.2 + 1 := by
  unfold stepS
  split
  · refine ⟨?_, by simp only; omega, by simp only; omega⟩
    simp only [List.length_append, List.length_cons, List.length_nil]
    split
    · have := List.length_eraseIdx_le st.1 (lastI (scanS st.1 g.s voices).2 st.1).toNat
      omega
    · simp
  · simp
    omega
theorem allocP_len (voices : Nat) : ∀ (l : List Gate) (st : List Gate × Int), (l.foldl (stepS voices) st).1.length ≤ st.1.length + l.length ∧ st.2 ≤ (l.foldl (stepS voices) st).2 ∧ (l.foldl (stepS voices) st).2 ≤ st.2 + l.length
  | [], st => by simp
  | g :: l, st => by
    have h1 := stepS_len voices st g
    have h2 := allocP_len voices l (stepS voices st g)
    simp only [List.foldl_cons, List.length_cons]
    omega
theorem l21Last_a {M : Mem} {A : Option Addr} {n c : Nat} {l : List Gate} (v : Int) (h : Sl gateR M A n l) (hn : n ≤ 1048576) : Det Try.prog M.length 61 [.slice A n c, iv v] M (iv (lastI v l)) M := by
  have hl := h.1
  first | (refine det_fn Try.func61 rfl Try.ntmps61 Try.results61 rfl rfl rfl (by simp) ?_) | (refine det_fnC Try.func61 rfl Try.ntmps61 Try.results61 rfl rfl (by simp) ?_)
  simp (disch := omega) [wrap_in]
  refine awLoop_T (fun m T M' => M = M' ∧ m ≤ n ∧ (∀ j, m ≤ j → j < n → (el l j).o ≠ v) ∧ look T 5 = some (iv (m - 1)) ∧ look T 0 = some (.slice A n c) ∧ look T 1 = some (iv v)) n ⟨rfl, by omega, fun j h1 h2 => by omega, by simp, by simp, by simp⟩ ?_
  rintro m T M' ⟨rfl, hm, hj, h5, h0, h1⟩
  rcases m with _ | m
  · simp [h5, h0, h1]
    rw [lastI_none (by intro i hi; exact hj i (by omega) (by omega))]
    simp [Keeps.refl]
  · obtain ⟨id, off, rfl, he, hc⟩ := h.at_ (i := m) (by omega)
    obtain ⟨c0, c1, c2, c3, c4⟩ := gate_cells hc
    have e1 : ((m + 1 : Nat) : Int) - 1 = m := by omega
    rw [e1] at h5
    simp (disch := omega) [h5, h0, h1, he, c0, wrap_in]
    refine ⟨by omega, ?_⟩
    by_cases hv : (el l m).o = v
    · simp (disch := omega) [hv, h5]
      rw [lastI_some (by omega) hv (by intro j h1 h2; exact hj j (by omega) (by omega))]
      simp [Keeps.refl]
    · simp (disch := omega) [hv, h5, wrap_in]
      refine lpI m (by omega) ?_
      exact ⟨rfl, by omega, fun j h1 h2 => by
        by_cases e : j = m
        · subst e; exact hv
        · exact hj j (by omega) h2, by simp, by simp [h0], by simp [h1]⟩
theorem cells_set_e {l : List Gate} {j : Nat} {x : Int} (h : j < l.length) : (cellsL gateR l).set (j * 5 + 2) (iv x) = cellsL gateR (l.set j { el l j with e := x }) := by
  have e1 : l = l.take j ++ (el l j :: l.drop (j + 1)) := by
    conv => lhs; rw [← List.take_append_drop j l, drop_el h]
  have hl : (l.take j).length = j := by simp; omega
  have e2 : l.set j { el l j with e := x } = l.take j ++ ({ el l j with e := x } :: l.drop (j + 1)) := by
    conv => lhs; rw [e1]
    rw [List.set_append_right _ _ (by omega), hl, Nat.sub_self]
    simp [hl, el_append_right]
    rw [show el (el l j :: List.drop (j + 1) l) 0 = el l j from rfl]
    exact ⟨rfl, rfl, rfl, rfl⟩
  rw [e2]
  conv => lhs; rw [e1]
  have e3 : (cellsL gateR (l.take j)).length = j * 5 := by rw [cellsL_len, hl]
  rw [cellsL_append, cellsL_append, cellsL_cons, cellsL_cons, List.set_append_right _ _ (by omega), e3, show j * 5 + 2 - j * 5 = 2 by omega]
  rfl
theorem el_set_self {l : List Gate} {j : Nat} {g : Gate} (h : j < l.length) : el (l.set j g) j = g := by simp [el, h]
theorem append_new {P : Program} {α : Type} {k : Nat} {R : RecV α k} {e t tx : TypeId} {b by_ id : Nat} {S : St} {x : Value} {ls : List α} {K : Value → Mem → Prop} (hr : S.M[id]? = some (.live ⟨[], true, true, e, k⟩)) (hq : qSlice P t = some (e, k, by_))
    (hz : (P.info? e).any (fun i => i.zero.any fun z => z.cells.size == k) = true) (hs : srcOf P S.M k tx x = some (ls.length, cellsL R ls)) (h1 : (cellsL R ls).all (fun u => u.oneCell') = true) (hn : ls.length * by_ ≤ 140737488355328) (hm : ls.length ≤ maxLen)
    (hK0 : ls = [] → K (.slice (some ⟨id, 0, none⟩) 0 0) S.M) (hK1 : ls ≠ [] → K (.slice (some ⟨S.M.length, 0, none⟩) ls.length ls.length) (S.M ++ [.live ⟨cellsL R ls, true, false, e, k⟩])) : appendK P b S K t tx (.slice (some ⟨id, 0, none⟩) 0 0) x := by
  unfold appendK
  rw [hq]
  simp only [ow_some]
  rw [hs]
  simp only [ow_some]
  refine ⟨hz, h1, ?_⟩
  simp only [hr]
  refine ⟨⟨trivial, by simp, trivial, trivial⟩, by simpa using hn, by simpa using hm, fun h => ?_, fun h => ?_⟩
  · exact hK0 (List.eq_nil_of_length_eq_zero h)
  · rw [if_pos trivial]
    have := hK1 (fun e => h (by simp [e]))
    simpa using this
theorem Sl.take {α : Type} {k : Nat} {R : RecV α k} {M : Mem} {id off n m : Nat} {l : List α} (h : Sl R M (some ⟨id, off, none⟩) n l) (hm : m ≤ n) : Sl R M (some ⟨id, off, none⟩) m (l.take m) := by
  refine ⟨by rw [List.length_take, h.1]; omega, fun hp => ?_⟩
  obtain ⟨_, _, e, he, hc⟩ := h.2 (by omega)
  cases e
  refine ⟨id, off, rfl, he, fun j x hx => hc j x ?_⟩
  rw [cellsL_take] at hx
  rw [List.getElem?_take] at hx
  split at hx
  · exact hx
  · cases hx
theorem Sl.drop {α : Type} {k : Nat} {R : RecV α k} {M : Mem} {id off n m : Nat} {l : List α} (h : Sl R M (some ⟨id, off, none⟩) n l) (hm : m ≤ n) : Sl R M (some ⟨id, off + m * k, none⟩) (n - m) (l.drop m) := by
  refine ⟨by rw [List.length_drop, h.1], fun hp => ?_⟩
  obtain ⟨_, _, e, he, hc⟩ := h.2 (by omega)
  cases e
  refine ⟨id, off + m * k, rfl, he, fun j x hx => ?_⟩
  rw [cellsL_drop, List.getElem?_drop] at hx
  rw [Nat.add_assoc]
  exact hc _ x hx
end Go.Proofs.Ytdcfofaojalilaa
