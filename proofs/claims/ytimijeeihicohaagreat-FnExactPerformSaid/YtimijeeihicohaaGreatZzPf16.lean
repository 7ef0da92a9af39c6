/- Parts of the proof, together: Controls of a voice: plain, and their lists in memory. The program's controls of a voice, walked. The program's ControlsOf. The reference's controls of a voice. The reference's ControlsOf. No conditions. -/
import Derived.Test.YtimijeeihicohaaGreatZzPf15
import Derived.Test.YtimijeeihicohaaGreatZzPf12
namespace Go.Proofs.YtimijeeihicohaaGreat
open Go.RowKit
set_option linter.unusedVariables false
set_option linter.unusedSimpArgs false
set_option maxRecDepth 100000
attribute [local simp] List.getElem?_cons_zero
attribute [local irreducible] awCond awCall awLoop awDraw ow retQ retC resQ Keeps
def cidx (l : List Gate) (t : Int) : Nat := l.findIdx fun g => decide (t < g.s)
def gateL (l : List Gate) (t : Int) : Gate := el l (cidx l t - 1)
def ctl0 (x : Inst) (l : List Gate) (t : Nat) : Int := incr x.steps (gateL l t).k
def ctl1 (x : Inst) (l : List Gate) (t : Nat) : Int := (gateL l t).u
def ctl2 (x : Inst) (l : List Gate) (t : Nat) : Int := levelV x.env ((gateL l t).e - (gateL l t).s) (t - (gateL l t).s)
def Sorted (l : List Gate) : Prop := ∀ i j, i ≤ j → j < l.length → (el l i).s ≤ (el l j).s
theorem okG_sorted {l : List Gate} (h : okG l = true) : Sorted l := by
  unfold okG at h
  simp only [Bool.and_eq_true, decide_eq_true_eq] at h
  intro i j hij
  induction j with
  | zero =>
    intro hj
    obtain rfl : i = 0 := by omega
    exact Int.le_refl _
  | succ j ih =>
    intro hj
    by_cases e : i = j + 1
    · subst e; exact Int.le_refl _
    · have := ih (by omega) (by omega)
      have := (h.1 (j + 1) hj).2 (by omega)
      rw [Nat.add_sub_cancel] at this
      omega
theorem cidx_lt {l : List Gate} (hs : Sorted l) {t : Int} {k : Nat} (hk : k < l.length) : k < cidx l t ↔ (el l k).s ≤ t := by
  constructor
  · intro h
    have := List.not_of_lt_findIdx h
    rw [el_eq hk] at this
    simpa using this
  · intro h
    apply Classical.byContradiction
    intro hn
    have hlt : cidx l t < l.length := by omega
    have hw : decide (t < (l[cidx l t]'hlt).s) = true := List.findIdx_getElem (w := hlt)
    rw [el_eq hlt] at hw
    have h2 : t < (el l (cidx l t)).s := by simpa using hw
    have := hs (cidx l t) k (by omega) hk
    omega
theorem cidx_le (l : List Gate) (t : Int) : cidx l t ≤ l.length := List.findIdx_le_length
def mkC (n : Nat) (p : Nat → Bool) (f : Nat → Int) : List Int := (List.range n).map fun t => if p t = true then f t else 0
theorem mkC_len {n : Nat} {p : Nat → Bool} {f : Nat → Int} : (mkC n p f).length = n := by simp [mkC]
theorem mkC_congr {n : Nat} {p q : Nat → Bool} {f : Nat → Int} (h : ∀ t, t < n → p t = q t) : mkC n p f = mkC n q f := by
  unfold mkC
  apply List.map_congr_left
  intro t ht
  rw [h t (List.mem_range.1 ht)]
theorem mkC_set {n : Nat} {p q : Nat → Bool} {f : Nat → Int} {t : Nat} (h : ∀ u, u < n → q u = (p u || decide (u = t))) : (mkC n p f).set t (f t) = mkC n q f := by
  apply List.ext_getElem
  · simp [mkC]
  · intro i h1 h2
    have hi : i < n := by simpa [mkC] using h2
    rw [List.getElem_set]
    by_cases e : t = i
    · subst e
      simp [mkC, h t hi]
    · simp only [e, if_false, mkC, List.getElem_map, List.getElem_range, h i hi]
      have : ¬ i = t := fun h => e h.symm
      simp [this]
theorem mkC_none {n : Nat} {p : Nat → Bool} {f : Nat → Int} (h : ∀ t, t < n → p t = false) : mkC n p f = List.replicate n 0 := by
  apply List.ext_getElem
  · simp [mkC]
  · intro i h1 h2
    have hi : i < n := by simpa [mkC] using h1
    simp [mkC, h i hi]
/-- What is set when k gates are done and the next one is done up to position u. -/
def doneP (l : List Gate) (k : Nat) (u t : Nat) : Bool := decide (0 < cidx l t) && (decide (cidx l t ≤ k) || (decide (cidx l t = k + 1) && decide (t < u)))
def allP (l : List Gate) (t : Nat) : Bool := decide (0 < cidx l t)
theorem doneP_step {l : List Gate} {k u : Nat} (h : cidx l u = k + 1) (t : Nat) : doneP l k (u + 1) t = (doneP l k u t || decide (t = u)) := by
  unfold doneP
  by_cases e : t = u
  · subst e
    simp [h]
  · by_cases e1 : t < u
    · have : t < u + 1 := by omega
      simp [e, e1, this]
    · have : ¬ t < u + 1 := by omega
      simp [e, e1, this]
theorem cidx_at {l : List Gate} (hs : Sorted l) {k : Nat} (hk : k < l.length) {t : Int} (h1 : (el l k).s ≤ t) (h2 : k + 1 < l.length → t < (el l (k + 1)).s) : cidx l t = k + 1 := by
  have a := (cidx_lt hs hk).2 h1
  have := cidx_le l t
  by_cases hk' : k + 1 < l.length
  · have b : ¬ k + 1 < cidx l t := fun h => by
      have := (cidx_lt hs hk').1 h
      have := h2 hk'
      omega
    omega
  · omega
/-- Three lists in rows of one's own, and the row that holds them. -/
structure Row1 (M : Mem) (B : Nat) (v : Value) (id : Nat) (l : List Int) : Prop where
  low : B ≤ id
  row : ∃ t c, v = .slice (some ⟨id, 0, none⟩) l.length c ∧ M[id]? = some (.live ⟨cellsL intR l, true, t, 2, 1⟩)
theorem Row1.keep {M M' : Mem} {B : Nat} {v : Value} {id : Nat} {l : List Int} (h : Row1 M B v id l) (hk : ∀ s, M[id]? = some s → M'[id]? = some s) : Row1 M' B v id l := by
  obtain ⟨h1, t, c, h2, h3⟩ := h
  exact ⟨h1, t, c, h2, hk _ h3⟩
theorem Row1.put {M : Mem} {B b : Nat} {v : Value} {id : Nat} {l : List Int} (h : Row1 M B v id l) (hb : b ≤ B) {i : Nat} (hi : i < l.length) (y : Int) :
    ∃ M', putCells b M id i [iv y] = some M' ∧ Row1 M' B v id (l.set i y) ∧ M'.length = M.length ∧ ∀ (q : Nat) s, q ≠ id → M[q]? = some s → M'[q]? = some s := by
  obtain ⟨h1, t, c, h2, h3⟩ := h
  have hp := put_rec (R := intR) (b := b) (a := y) (off := i) h3 (by omega) hi (by omega) rfl
  refine ⟨_, hp, ⟨h1, t, c, by rw [h2, List.length_set], List.getElem?_set_self (List.getElem?_eq_some_iff.1 h3).1⟩, by simp, fun q s hq hs => by rw [List.getElem?_set_ne (Ne.symm hq)]; exact hs⟩
structure Ctl (M : Mem) (B oid i0 i1 i2 : Nat) (v0 v1 v2 : Value) (l0 l1 l2 : List Int) : Prop where
  low : B ≤ oid
  orow : ∃ e, M[oid]? = some (.live ⟨[v0, v1, v2], true, true, e, 1⟩)
  r0 : Row1 M B v0 i0 l0
  r1 : Row1 M B v1 i1 l1
  r2 : Row1 M B v2 i2 l2
  apart : i0 ≠ i1 ∧ i0 ≠ i2 ∧ i1 ≠ i2 ∧ i0 ≠ oid ∧ i1 ≠ oid ∧ i2 ≠ oid
theorem Ctl.keeps {M M' : Mem} {B oid i0 i1 i2 : Nat} {v0 v1 v2 : Value} {l0 l1 l2 : List Int} (h : Ctl M B oid i0 i1 i2 v0 v1 v2 l0 l1 l2) (hk : Keeps M M') : Ctl M' B oid i0 i1 i2 v0 v1 v2 l0 l1 l2 :=
  ⟨h.low, ⟨h.orow.choose, hk.get h.orow.choose_spec⟩, h.r0.keep fun s hs => hk.get hs, h.r1.keep fun s hs => hk.get hs, h.r2.keep fun s hs => hk.get hs, h.apart⟩
theorem Ctl.cells {M : Mem} {B oid i0 i1 i2 : Nat} {v0 v1 v2 : Value} {l0 l1 l2 : List Int} (h : Ctl M B oid i0 i1 i2 v0 v1 v2 l0 l1 l2) : cellAt M oid 0 = some v0 ∧ cellAt M oid 1 = some v1 ∧ cellAt M oid 2 = some v2 ∧ rowEsz M oid = some 1 := by
  obtain ⟨e, he⟩ := h.orow
  simp [cellAt, rowEsz, he]
theorem Ctl.put0 {M : Mem} {B b oid i0 i1 i2 : Nat} {v0 v1 v2 : Value} {l0 l1 l2 : List Int} (h : Ctl M B oid i0 i1 i2 v0 v1 v2 l0 l1 l2) (hb : b ≤ B) {i : Nat} (hi : i < l0.length) (y : Int) :
    ∃ M', putCells b M i0 i [iv y] = some M' ∧ Ctl M' B oid i0 i1 i2 v0 v1 v2 (l0.set i y) l1 l2 ∧ M'.length = M.length ∧ ∀ (q : Nat) s, q ≠ i0 → M[q]? = some s → M'[q]? = some s := by
  obtain ⟨M', p1, p2, p3, p4⟩ := h.r0.put hb hi y
  have ha := h.apart
  exact ⟨M', p1, ⟨h.low, ⟨h.orow.choose, p4 _ _ (Ne.symm ha.2.2.2.1) h.orow.choose_spec⟩, p2, h.r1.keep fun s hs => p4 _ _ (Ne.symm ha.1) hs, h.r2.keep fun s hs => p4 _ _ (Ne.symm ha.2.1) hs, ha⟩, p3, p4⟩
theorem Ctl.put1 {M : Mem} {B b oid i0 i1 i2 : Nat} {v0 v1 v2 : Value} {l0 l1 l2 : List Int} (h : Ctl M B oid i0 i1 i2 v0 v1 v2 l0 l1 l2) (hb : b ≤ B) {i : Nat} (hi : i < l1.length) (y : Int) :
    ∃ M', putCells b M i1 i [iv y] = some M' ∧ Ctl M' B oid i0 i1 i2 v0 v1 v2 l0 (l1.set i y) l2 ∧ M'.length = M.length ∧ ∀ (q : Nat) s, q ≠ i1 → M[q]? = some s → M'[q]? = some s := by
  obtain ⟨M', p1, p2, p3, p4⟩ := h.r1.put hb hi y
  have ha := h.apart
  exact ⟨M', p1, ⟨h.low, ⟨h.orow.choose, p4 _ _ (Ne.symm ha.2.2.2.2.1) h.orow.choose_spec⟩, h.r0.keep fun s hs => p4 _ _ ha.1 hs, p2, h.r2.keep fun s hs => p4 _ _ (Ne.symm ha.2.2.1) hs, ha⟩, p3, p4⟩
theorem Ctl.put2 {M : Mem} {B b oid i0 i1 i2 : Nat} {v0 v1 v2 : Value} {l0 l1 l2 : List Int} (h : Ctl M B oid i0 i1 i2 v0 v1 v2 l0 l1 l2) (hb : b ≤ B) {i : Nat} (hi : i < l2.length) (y : Int) :
    ∃ M', putCells b M i2 i [iv y] = some M' ∧ Ctl M' B oid i0 i1 i2 v0 v1 v2 l0 l1 (l2.set i y) ∧ M'.length = M.length ∧ ∀ (q : Nat) s, q ≠ i2 → M[q]? = some s → M'[q]? = some s := by
  obtain ⟨M', p1, p2, p3, p4⟩ := h.r2.put hb hi y
  have ha := h.apart
  exact ⟨M', p1, ⟨h.low, ⟨h.orow.choose, p4 _ _ (Ne.symm ha.2.2.2.2.2) h.orow.choose_spec⟩, h.r0.keep fun s hs => p4 _ _ ha.2.1 hs, h.r1.keep fun s hs => p4 _ _ ha.2.2.1 hs, p2, ha⟩, p3, p4⟩
end Go.Proofs.YtimijeeihicohaaGreat

namespace Go.Proofs.YtimijeeihicohaaGreat
open Go.RowKit
set_option linter.unusedVariables false
set_option linter.unusedSimpArgs false
set_option maxRecDepth 100000
attribute [local simp] List.getElem?_cons_zero
attribute [local irreducible] awCond awCall awLoop awDraw ow retQ retC resQ Keeps
theorem okG_len {l : List Gate} (h : okG l = true) : l.length ≤ 60 := by
  unfold okG at h
  simp only [Bool.and_eq_true, decide_eq_true_eq] at h
  exact h.2
theorem okG_bd {l : List Gate} (h : okG l = true) : ∀ i, i < l.length → 0 ≤ (el l i).s ∧ (el l i).s < (el l i).e ∧ (el l i).e ≤ 4000 ∧ (0 ≤ (el l i).k ∧ (el l i).k ≤ 127) ∧ (1 ≤ (el l i).u ∧ (el l i).u ≤ 127) := by
  intro i hi
  unfold okG at h
  simp only [Bool.and_eq_true, decide_eq_true_eq] at h
  have := (h.1 i hi).1
  unfold gateB at this
  simp only [Bool.and_eq_true, decide_eq_true_eq] at this
  obtain ⟨⟨⟨⟨⟨h1, h2⟩, h3⟩, h4⟩, h5⟩, h6⟩ := this
  exact ⟨h2, h3, h4, inB_iff.1 h5, inB_iff.1 h6⟩
theorem doneP_start {l : List Gate} (hs : Sorted l) {k u : Nat} (hk : k < l.length) (hu : (u : Int) = (el l k).s) (t : Nat) : doneP l k 0 t = doneP l k u t := by
  unfold doneP
  by_cases e : cidx l t = k + 1
  · have := (cidx_lt hs hk (t := t)).1 (by omega)
    have h2 : ¬ t < u := by omega
    simp [e, h2]
  · simp [e]
theorem doneP_end {l : List Gate} (hs : Sorted l) {k u n : Nat} (hu : n ≤ u ∨ (k + 1 < l.length ∧ (el l (k + 1)).s ≤ u)) {t : Nat} (ht : t < n) : doneP l k u t = doneP l (k + 1) 0 t := by
  unfold doneP
  by_cases e : cidx l t = k + 1
  · have h2 : t < u := by
      rcases hu with hu | ⟨hu, hu'⟩
      · omega
      · have : ¬ (el l (k + 1)).s ≤ (t : Int) := fun h => by have := (cidx_lt hs hu (t := t)).2 h; omega
        omega
    simp [e, h2]
  · by_cases e1 : cidx l t ≤ k
    · have : cidx l t ≤ k + 1 := by omega
      simp [e1, this]
    · have h1 : ¬ cidx l t ≤ k + 1 := by omega
      simp [e, e1, h1]
theorem doneP_all (l : List Gate) (t : Nat) : doneP l l.length 0 t = allP l t := by
  unfold doneP allP
  have := cidx_le l t
  simp [this]
theorem doneP_none (l : List Gate) (t : Nat) : doneP l 0 0 t = false := by
  unfold doneP
  by_cases h : 0 < cidx l t
  · have : ¬ cidx l t ≤ 0 := by omega
    simp [this]
  · simp [h]
set_option maxHeartbeats 2000000 in
theorem controls_i {M : Mem} {b lo hi : Nat} {us : List Value} {x : Inst} {A : Option Addr} {n c N : Nat} {l : List Gate} (h : instP.rd lo hi M x us) (hb : instB x = true) (hg : Sl gateR M A n l) (hok : okG l = true) (hN : N ≤ 4000) (hbM : b ≤ M.length) :
    Ctr Tryz.prog b 47 [.agg us.toArray, .slice A n c, iv N] M fun v M' => ∃ oid i0 i1 i2 v0 v1 v2, v = .slice (some ⟨oid, 0, none⟩) 3 3 ∧ Ctl M' M.length oid i0 i1 i2 v0 v1 v2 (mkC N (allP l) (ctl0 x l)) (mkC N (allP l) (ctl1 x l)) (mkC N (allP l) (ctl2 x l)) ∧ Same M.length M M' := by
  have hl := instP.len h
  have ht : us.take 8 = us := List.take_of_length_le (by omega)
  have hgl := hg.1
  first | (refine ctr_fn Tryz.func47 rfl Tryz.ntmps47 Tryz.results47 rfl rfl (by simp) ?_) | (refine ctr_fnC Tryz.func47 rfl Tryz.ntmps47 Tryz.results47 rfl (by simp) ?_)
  simp [hl, ht]
  refine awCall_det' (zeros_i N hN) (by simp <;> omega) ?_
  refine awCall_det' (zeros_i N hN) (by simp <;> omega) ?_
  refine awCall_det' (zeros_i N hN) (by simp <;> omega) ?_
  rw [show ∀ a b c : Addr, Instr.fill (fun i => some (i, 1)) (zrow [Value.slice none 0 0] 3).toArray [(0, Value.slice (some a) N N), (1, Value.slice (some b) N N), (2, Value.slice (some c) N N)] = some #[Value.slice (some a) N N, Value.slice (some b) N N, Value.slice (some c) N N] from fun _ _ _ => rfl, ow_some]
  simp
  have hs := okG_sorted hok
  have hgk := okG_bd hok
  have hz : ∀ f : Nat → Int, mkC N (doneP l 0 0) f = List.replicate N 0 := fun f => mkC_none fun t _ => doneP_none l t
  refine awLoop_T (fun m T M' => ∃ k : Nat, k + m = n ∧ Same M.length M M' ∧ M.length + 4 < M'.length ∧ M'[M.length]? = some (Slot.live ⟨us, true, true, 44, 8⟩) ∧ Ctl M' M.length (M.length + 4) (M.length + 1) (M.length + 2) (M.length + 3) (.slice (some ⟨M.length + 1, 0, none⟩) N N) (.slice (some ⟨M.length + 2, 0, none⟩) N N) (.slice (some ⟨M.length + 3, 0, none⟩) N N) (mkC N (doneP l k 0) (ctl0 x l)) (mkC N (doneP l k 0) (ctl1 x l)) (mkC N (doneP l k 0) (ctl2 x l)) ∧ look T 21 = some (iv k) ∧ look T 20 = some (iv n) ∧ look T 19 = some (.slice A n c) ∧ look T 7 = some (.slice (some ⟨M.length + 4, 0, none⟩) 3 3) ∧ look T 3 = some (.pointer (some ⟨M.length, 0, none⟩)) ∧ look T 1 = some (.slice A n c) ∧ look T 2 = some (iv N)) n ⟨0, by omega, ⟨by simp, fun i s _ hs => (keeps_app _).get hs⟩, by simp, by simp, ⟨by omega, ⟨24, by simp⟩, ⟨by omega, true, N, by simp [mkC_len], by simp [hz]⟩, ⟨by omega, true, N, by simp [mkC_len], by simp [hz]⟩, ⟨by omega, true, N, by simp [mkC_len], by simp [hz]⟩, by omega⟩, by simp, by simp, by simp, by simp, by simp, by simp, by simp⟩ ?_
  rintro m T M1 ⟨k, hm, hS, hM1, hbx, hC, t21, t20, t19, t7, t3, t1, t2⟩
  by_cases hlt : k < n
  · have hK := slt hS
    obtain ⟨id, off, rfl, he, hc⟩ := (hg.keeps hK).at_ hlt
    have hcl := gate_load hc
    have hn60 : n ≤ 60 := by have := okG_len hok; omega
    by_cases hk1 : k + 1 < n
    · obtain ⟨_, _, e0, _, hc1⟩ := (hg.keeps hK).at_ hk1
      cases e0
      obtain ⟨z0, z1, z2, z3, z4⟩ := gate_cells hc1
      have hk1' : (k : Int) + 1 < n := by omega
      have w1 := hgk (k + 1) (by omega)
      simp (disch := omega) [t21, t20, t19, t1, t2, hlt, hk1', wrap_in, he, hcl, z1, cellAt_app z1, rowEsz_keeps (keeps_app _) he]
      refine ⟨by omega, ?_⟩
      obtain ⟨U, hU, hUN, hUle, hUe⟩ : ∃ U : Nat, (U : Int) = (if (el l (k + 1)).s < (N : Int) then (el l (k + 1)).s else (N : Int)) ∧ U ≤ N ∧ (k + 1 < l.length → (U : Int) ≤ (el l (k + 1)).s) ∧ (N ≤ U ∨ (k + 1 < l.length ∧ (el l (k + 1)).s ≤ U)) := by
        by_cases hc : (el l (k + 1)).s < (N : Int)
        · exact ⟨(el l (k + 1)).s.toNat, by rw [if_pos hc]; omega, by omega, fun _ => by omega, .inr ⟨by omega, by omega⟩⟩
        · exact ⟨N, by rw [if_neg hc], by omega, fun _ => by omega, .inl (by omega)⟩
      rw [← hU]
      have w := hgk k (by omega)
      obtain ⟨s0, hs0⟩ : ∃ s0 : Nat, (s0 : Int) = (el l k).s := ⟨(el l k).s.toNat, by omega⟩
      have hstart : ∀ f : Nat → Int, mkC N (doneP l k 0) f = mkC N (doneP l k s0) f := fun f => mkC_congr fun t _ => doneP_start hs (by omega) hs0 t
      rw [hstart, hstart, hstart] at hC
      refine awLoop_T (fun m T M' => ∃ u : Nat, u + m = max s0 U ∧ s0 ≤ u ∧ Same M.length M M' ∧ M1.length < M'.length ∧ M'[M.length]? = some (Slot.live ⟨us, true, true, 44, 8⟩) ∧ M'[M1.length]? = some (Slot.live ⟨[iv (el l k).o, iv (el l k).s, iv (el l k).e, iv (el l k).k, iv (el l k).u], true, true, 90, 5⟩) ∧ Ctl M' M.length (M.length + 4) (M.length + 1) (M.length + 2) (M.length + 3) (.slice (some ⟨M.length + 1, 0, none⟩) N N) (.slice (some ⟨M.length + 2, 0, none⟩) N N) (.slice (some ⟨M.length + 3, 0, none⟩) N N) (mkC N (doneP l k u) (ctl0 x l)) (mkC N (doneP l k u) (ctl1 x l)) (mkC N (doneP l k u) (ctl2 x l)) ∧ look T 11 = some (iv u) ∧ look T 10 = some (iv U) ∧ look T 9 = some (.pointer (some ⟨M1.length, 0, none⟩)) ∧ look T 21 = some (iv k) ∧ look T 20 = some (iv n) ∧ look T 19 = some (.slice (some ⟨id, off, none⟩) n c) ∧ look T 7 = some (.slice (some ⟨M.length + 4, 0, none⟩) 3 3) ∧ look T 3 = some (.pointer (some ⟨M.length, 0, none⟩)) ∧ look T 1 = some (.slice (some ⟨id, off, none⟩) n c) ∧ look T 2 = some (iv N)) (max s0 U - s0) ⟨s0, by omega, Nat.le_refl _, ⟨by have := hS.1; simp; omega, fun i s h1 h2 => (keeps_app _).get (hS.2 i s h1 h2)⟩, by simp, (keeps_app _).get hbx, by simp, hC.keeps (keeps_app _), by simp [hs0], by simp, by simp, by simp [t21], by simp [t20], by simp [t19], by simp [t7], by simp [t3], by simp [t1], by simp [t2]⟩ ?_
      clear hC hS hbx t21 t20 t19 t7 t3 t1 t2 T
      rintro m' T M3 ⟨u, hm', hsu, hS, hM3, hbx, hgb, hC, t11, t10, t9, t21, t20, t19, t7, t3, t1, t2⟩
      by_cases hu : u < U
      · have hK3 := slt hS
        have h3 := instP.keeps h hK3
        obtain ⟨o0, o1, o2, oez⟩ := hC.cells
        have cI : cellsAt M3 M.length 0 8 = some us := by simp [cellsAt, hbx, hl, ht]
        have b3 : cellAt M3 M1.length 3 = some (iv (el l k).k) := by simp [cellAt, hgb]
        simp (disch := omega) [t11, t10, hu]
        refine awDraw_E 8 [[],[0],[1,0],[],[],[],[5],[4,6,5],[2,1,0,3,4,5,6,7],[8,2,1,0,3,4,5,6,7]] (by kernel_rfl) (by kernel_rfl) ?_
        simp (disch := omega) [t11, t10, t9, t7, t3, hu, wrap_in, o0, oez, cI, b3]
        have huN : u < N := by omega
        have hci : cidx l u = k + 1 := cidx_at hs (by omega) (by omega) (fun h => by have := hUle h; omega)
        have hgl0 : gateL l u = el l k := by simp [gateL, hci]
        have hset : ∀ f : Nat → Int, (mkC N (doneP l k u) f).set u (f u) = mkC N (doneP l k (u + 1)) f := fun f => mkC_set fun t _ => doneP_step hci t
        have hk127 : inB (el l k).k 0 127 = true := inB_iff.2 w.2.2.2.1
        have ez0 : rowEsz M3 (M.length + 1) = some 1 := by obtain ⟨_, _, _, hh⟩ := hC.r0; simp [rowEsz, hh]
        refine awCall_det' (d := true) (increment_i h3 hb hk127) (Nat.le_refl _) ⟨rfl, ?_⟩
        obtain ⟨M4, p1, hC4, l4, o4⟩ := hC.put0 hbM (i := u) (by rw [mkC_len]; exact huN) (incr x.steps (el l k).k)
        have hv0 : incr x.steps (el l k).k = ctl0 x l u := by unfold ctl0; rw [hgl0]
        rw [hv0, hset] at hC4
        have hbx4 := o4 _ _ (by omega) hbx
        have hgb4 := o4 _ _ (by omega) hgb
        simp (disch := omega) [ez0, huN, p1]
        obtain ⟨o0', o1', o2', oez'⟩ := hC4.cells
        have b4 : cellAt M4 M1.length 4 = some (iv (el l k).u) := by simp [cellAt, hgb4]
        have ez1 : rowEsz M4 (M.length + 2) = some 1 := by obtain ⟨_, _, _, hh⟩ := hC4.r1; simp [rowEsz, hh]
        obtain ⟨M5, p2, hC5, l5, o5⟩ := hC4.put1 hbM (i := u) (by rw [mkC_len]; exact huN) (el l k).u
        have hv1 : (el l k).u = ctl1 x l u := by unfold ctl1; rw [hgl0]
        rw [show (mkC N (doneP l k u) (ctl1 x l)).set u (el l k).u = mkC N (doneP l k (u + 1)) (ctl1 x l) by rw [hv1]; exact hset _] at hC5
        have hbx5 := o5 _ _ (by omega) hbx4
        have hgb5 := o5 _ _ (by omega) hgb4
        refine awDraw_E 6 [[],[0],[1,0],[],[],[4],[2,1,0,3,4,5],[6,2,1,0,3,4,5]] (by kernel_rfl) (by kernel_rfl) ?_
        simp (disch := omega) [t11, t9, t7, huN, wrap_in, o1', oez', b4, ez1, p2]
        have hS5 : Same M.length M M5 := ⟨by have := hS.1; omega, fun i s h1 h2 => o5 i s (by omega) (o4 i s (by omega) (hS.2 i s h1 h2))⟩
        have h5 := instP.keeps h (slt hS5)
        obtain ⟨ps, es, ww, hus, hp, he5, hw5⟩ := h5
        have hpl := patchP.len hp
        have hel := envP.len he5
        have cE : cellsAt M5 M.length 4 3 = some es := by
          simp only [cellsAt, hbx5]
          rw [if_pos (by simp only [hl]; omega), hus]
          simp [hpl, hel, List.drop_append_of_le_length, List.drop_of_length_le, List.take_of_length_le]
        obtain ⟨q0, q1, q2, qez⟩ := hC5.cells
        have c1 : cellAt M5 M1.length 1 = some (iv (el l k).s) := by simp [cellAt, hgb5]
        have c2 : cellAt M5 M1.length 2 = some (iv (el l k).e) := by simp [cellAt, hgb5]
        have ez2 : rowEsz M5 (M.length + 3) = some 1 := by obtain ⟨_, _, _, hh⟩ := hC5.r2; simp [rowEsz, hh]
        have hbe : envB x.env = true := by unfold instB at hb; simp only [Bool.and_eq_true] at hb; exact hb.2.2.2.1
        obtain ⟨M6, p3, hC6, l6, o6⟩ := hC5.put2 hbM (i := u) (by rw [mkC_len]; exact huN) (levelV x.env ((el l k).e - (el l k).s) (u - (el l k).s))
        have hv2 : levelV x.env ((el l k).e - (el l k).s) (u - (el l k).s) = ctl2 x l u := by unfold ctl2; rw [hgl0]
        rw [show (mkC N (doneP l k u) (ctl2 x l)).set u (levelV x.env ((el l k).e - (el l k).s) (u - (el l k).s)) = mkC N (doneP l k (u + 1)) (ctl2 x l) by rw [hv2]; exact hset _] at hC6
        refine awDraw_E 16 [[],[0],[1,0],[],[],[4],[],[6],[],[8],[7,6,9,8],[],[],[12],[11,13,12],[5,4,10,7,6,9,8,14,11,13,12],[2,1,0,3,4,5,6,7,8,9,10,11,12,13,14,15],[16,2,1,0,3,4,5,6,7,8,9,10,11,12,13,14,15]] (by kernel_rfl) (by kernel_rfl) ?_
        simp (disch := omega) [t11, t9, t7, t3, huN, wrap_in, q2, qez, c1, c2, cE]
        refine awCall_det' (d := true) (levelAt_i ((el l k).e - (el l k).s) (u - (el l k).s) he5 hbe (by omega) (by omega) (by omega) (by omega)) (Nat.le_refl _) ⟨rfl, ?_⟩
        simp (disch := omega) [ez2, huN, p3, t11, wrap_in]
        refine lpI (m' - 1) (by omega) ⟨u + 1, by omega, by omega, ⟨by have := hS5.1; omega, fun i s h1 h2 => o6 i s (by omega) (hS5.2 i s h1 h2)⟩, by omega, o6 _ _ (by omega) hbx5, o6 _ _ (by omega) hgb5, hC6, by simp, by simp [t10], by simp [t9], by simp [t21], by simp [t20], by simp [t19], by simp [t7], by simp [t3], by simp [t1], by simp [t2]⟩
      · have hend : ∀ f : Nat → Int, mkC N (doneP l k u) f = mkC N (doneP l (k + 1) 0) f := fun f => mkC_congr fun t ht => doneP_end hs (by omega) ht
        rw [hend, hend, hend] at hC
        simp (disch := omega) [t11, t10, hu, t21, wrap_in]
        refine lpI (m - 1) (by omega) ⟨k + 1, by omega, hS, by omega, hbx, hC, by simp, by simp [t20], by simp [t19], by simp [t7], by simp [t3], by simp [t1], by simp [t2]⟩
    · have hk1' : ¬ (k : Int) + 1 < n := by omega
      simp (disch := omega) [t21, t20, t19, t1, t2, hlt, hk1', wrap_in, he, hcl]
      have hUN : N ≤ N := Nat.le_refl _
      have hUle : k + 1 < l.length → (N : Int) ≤ (el l (k + 1)).s := fun h => by omega
      have hUe : N ≤ N ∨ (k + 1 < l.length ∧ (el l (k + 1)).s ≤ (N : Int)) := .inl (Nat.le_refl _)
      have w := hgk k (by omega)
      obtain ⟨s0, hs0⟩ : ∃ s0 : Nat, (s0 : Int) = (el l k).s := ⟨(el l k).s.toNat, by omega⟩
      have hstart : ∀ f : Nat → Int, mkC N (doneP l k 0) f = mkC N (doneP l k s0) f := fun f => mkC_congr fun t _ => doneP_start hs (by omega) hs0 t
      rw [hstart, hstart, hstart] at hC
      refine awLoop_T (fun m T M' => ∃ u : Nat, u + m = max s0 N ∧ s0 ≤ u ∧ Same M.length M M' ∧ M1.length < M'.length ∧ M'[M.length]? = some (Slot.live ⟨us, true, true, 44, 8⟩) ∧ M'[M1.length]? = some (Slot.live ⟨[iv (el l k).o, iv (el l k).s, iv (el l k).e, iv (el l k).k, iv (el l k).u], true, true, 90, 5⟩) ∧ Ctl M' M.length (M.length + 4) (M.length + 1) (M.length + 2) (M.length + 3) (.slice (some ⟨M.length + 1, 0, none⟩) N N) (.slice (some ⟨M.length + 2, 0, none⟩) N N) (.slice (some ⟨M.length + 3, 0, none⟩) N N) (mkC N (doneP l k u) (ctl0 x l)) (mkC N (doneP l k u) (ctl1 x l)) (mkC N (doneP l k u) (ctl2 x l)) ∧ look T 11 = some (iv u) ∧ look T 10 = some (iv N) ∧ look T 9 = some (.pointer (some ⟨M1.length, 0, none⟩)) ∧ look T 21 = some (iv k) ∧ look T 20 = some (iv n) ∧ look T 19 = some (.slice (some ⟨id, off, none⟩) n c) ∧ look T 7 = some (.slice (some ⟨M.length + 4, 0, none⟩) 3 3) ∧ look T 3 = some (.pointer (some ⟨M.length, 0, none⟩)) ∧ look T 1 = some (.slice (some ⟨id, off, none⟩) n c) ∧ look T 2 = some (iv N)) (max s0 N - s0) ⟨s0, by omega, Nat.le_refl _, ⟨by have := hS.1; simp; omega, fun i s h1 h2 => (keeps_app _).get (hS.2 i s h1 h2)⟩, by simp, (keeps_app _).get hbx, by simp, hC.keeps (keeps_app _), by simp [hs0], by simp, by simp, by simp [t21], by simp [t20], by simp [t19], by simp [t7], by simp [t3], by simp [t1], by simp [t2]⟩ ?_
      clear hC hS hbx t21 t20 t19 t7 t3 t1 t2 T
      rintro m' T M3 ⟨u, hm', hsu, hS, hM3, hbx, hgb, hC, t11, t10, t9, t21, t20, t19, t7, t3, t1, t2⟩
      by_cases hu : u < N
      · have hK3 := slt hS
        have h3 := instP.keeps h hK3
        obtain ⟨o0, o1, o2, oez⟩ := hC.cells
        have cI : cellsAt M3 M.length 0 8 = some us := by simp [cellsAt, hbx, hl, ht]
        have b3 : cellAt M3 M1.length 3 = some (iv (el l k).k) := by simp [cellAt, hgb]
        simp (disch := omega) [t11, t10, hu]
        refine awDraw_E 8 [[],[0],[1,0],[],[],[],[5],[4,6,5],[2,1,0,3,4,5,6,7],[8,2,1,0,3,4,5,6,7]] (by kernel_rfl) (by kernel_rfl) ?_
        simp (disch := omega) [t11, t10, t9, t7, t3, hu, wrap_in, o0, oez, cI, b3]
        have huN : u < N := by omega
        have hci : cidx l u = k + 1 := cidx_at hs (by omega) (by omega) (fun h => by have := hUle h; omega)
        have hgl0 : gateL l u = el l k := by simp [gateL, hci]
        have hset : ∀ f : Nat → Int, (mkC N (doneP l k u) f).set u (f u) = mkC N (doneP l k (u + 1)) f := fun f => mkC_set fun t _ => doneP_step hci t
        have hk127 : inB (el l k).k 0 127 = true := inB_iff.2 w.2.2.2.1
        have ez0 : rowEsz M3 (M.length + 1) = some 1 := by obtain ⟨_, _, _, hh⟩ := hC.r0; simp [rowEsz, hh]
        refine awCall_det' (d := true) (increment_i h3 hb hk127) (Nat.le_refl _) ⟨rfl, ?_⟩
        obtain ⟨M4, p1, hC4, l4, o4⟩ := hC.put0 hbM (i := u) (by rw [mkC_len]; exact huN) (incr x.steps (el l k).k)
        have hv0 : incr x.steps (el l k).k = ctl0 x l u := by unfold ctl0; rw [hgl0]
        rw [hv0, hset] at hC4
        have hbx4 := o4 _ _ (by omega) hbx
        have hgb4 := o4 _ _ (by omega) hgb
        simp (disch := omega) [ez0, huN, p1]
        obtain ⟨o0', o1', o2', oez'⟩ := hC4.cells
        have b4 : cellAt M4 M1.length 4 = some (iv (el l k).u) := by simp [cellAt, hgb4]
        have ez1 : rowEsz M4 (M.length + 2) = some 1 := by obtain ⟨_, _, _, hh⟩ := hC4.r1; simp [rowEsz, hh]
        obtain ⟨M5, p2, hC5, l5, o5⟩ := hC4.put1 hbM (i := u) (by rw [mkC_len]; exact huN) (el l k).u
        have hv1 : (el l k).u = ctl1 x l u := by unfold ctl1; rw [hgl0]
        rw [show (mkC N (doneP l k u) (ctl1 x l)).set u (el l k).u = mkC N (doneP l k (u + 1)) (ctl1 x l) by rw [hv1]; exact hset _] at hC5
        have hbx5 := o5 _ _ (by omega) hbx4
        have hgb5 := o5 _ _ (by omega) hgb4
        refine awDraw_E 6 [[],[0],[1,0],[],[],[4],[2,1,0,3,4,5],[6,2,1,0,3,4,5]] (by kernel_rfl) (by kernel_rfl) ?_
        simp (disch := omega) [t11, t9, t7, huN, wrap_in, o1', oez', b4, ez1, p2]
        have hS5 : Same M.length M M5 := ⟨by have := hS.1; omega, fun i s h1 h2 => o5 i s (by omega) (o4 i s (by omega) (hS.2 i s h1 h2))⟩
        have h5 := instP.keeps h (slt hS5)
        obtain ⟨ps, es, ww, hus, hp, he5, hw5⟩ := h5
        have hpl := patchP.len hp
        have hel := envP.len he5
        have cE : cellsAt M5 M.length 4 3 = some es := by
          simp only [cellsAt, hbx5]
          rw [if_pos (by simp only [hl]; omega), hus]
          simp [hpl, hel, List.drop_append_of_le_length, List.drop_of_length_le, List.take_of_length_le]
        obtain ⟨q0, q1, q2, qez⟩ := hC5.cells
        have c1 : cellAt M5 M1.length 1 = some (iv (el l k).s) := by simp [cellAt, hgb5]
        have c2 : cellAt M5 M1.length 2 = some (iv (el l k).e) := by simp [cellAt, hgb5]
        have ez2 : rowEsz M5 (M.length + 3) = some 1 := by obtain ⟨_, _, _, hh⟩ := hC5.r2; simp [rowEsz, hh]
        have hbe : envB x.env = true := by unfold instB at hb; simp only [Bool.and_eq_true] at hb; exact hb.2.2.2.1
        obtain ⟨M6, p3, hC6, l6, o6⟩ := hC5.put2 hbM (i := u) (by rw [mkC_len]; exact huN) (levelV x.env ((el l k).e - (el l k).s) (u - (el l k).s))
        have hv2 : levelV x.env ((el l k).e - (el l k).s) (u - (el l k).s) = ctl2 x l u := by unfold ctl2; rw [hgl0]
        rw [show (mkC N (doneP l k u) (ctl2 x l)).set u (levelV x.env ((el l k).e - (el l k).s) (u - (el l k).s)) = mkC N (doneP l k (u + 1)) (ctl2 x l) by rw [hv2]; exact hset _] at hC6
        refine awDraw_E 16 [[],[0],[1,0],[],[],[4],[],[6],[],[8],[7,6,9,8],[],[],[12],[11,13,12],[5,4,10,7,6,9,8,14,11,13,12],[2,1,0,3,4,5,6,7,8,9,10,11,12,13,14,15],[16,2,1,0,3,4,5,6,7,8,9,10,11,12,13,14,15]] (by kernel_rfl) (by kernel_rfl) ?_
        simp (disch := omega) [t11, t9, t7, t3, huN, wrap_in, q2, qez, c1, c2, cE]
        refine awCall_det' (d := true) (levelAt_i ((el l k).e - (el l k).s) (u - (el l k).s) he5 hbe (by omega) (by omega) (by omega) (by omega)) (Nat.le_refl _) ⟨rfl, ?_⟩
        simp (disch := omega) [ez2, huN, p3, t11, wrap_in]
        refine lpI (m' - 1) (by omega) ⟨u + 1, by omega, by omega, ⟨by have := hS5.1; omega, fun i s h1 h2 => o6 i s (by omega) (hS5.2 i s h1 h2)⟩, by omega, o6 _ _ (by omega) hbx5, o6 _ _ (by omega) hgb5, hC6, by simp, by simp [t10], by simp [t9], by simp [t21], by simp [t20], by simp [t19], by simp [t7], by simp [t3], by simp [t1], by simp [t2]⟩
      · have hend : ∀ f : Nat → Int, mkC N (doneP l k u) f = mkC N (doneP l (k + 1) 0) f := fun f => mkC_congr fun t ht => doneP_end hs (by omega) ht
        rw [hend, hend, hend] at hC
        simp (disch := omega) [t11, t10, hu, t21, wrap_in]
        refine lpI (m - 1) (by omega) ⟨k + 1, by omega, hS, by omega, hbx, hC, by simp, by simp [t20], by simp [t19], by simp [t7], by simp [t3], by simp [t1], by simp [t2]⟩
  · obtain rfl : k = n := by omega
    have hall : ∀ f : Nat → Int, mkC N (doneP l k 0) f = mkC N (allP l) f := fun f => mkC_congr fun t _ => by rw [← hgl]; exact doneP_all l t
    rw [hall, hall, hall] at hC
    simp [t21, t20, t19, t7]
    exact ⟨⟨_, _, _, _, _, _, hC⟩, hS⟩
end Go.Proofs.YtimijeeihicohaaGreat

namespace Go.Proofs.YtimijeeihicohaaGreat
open Go.RowKit
set_option linter.unusedVariables false
set_option linter.unusedSimpArgs false
set_option maxRecDepth 100000
attribute [local simp] List.getElem?_cons_zero
attribute [local irreducible] awCond awCall awLoop awDraw ow retQ retC resQ Keeps
/-- What ControlsOf hands back. -/
def CtR (x : Inst) (l : List Gate) (N : Int) (M : Mem) (r : Value) (M' : Mem) : Prop :=
  Same M.length M M' ∧ ((codeV x l N true = 0 ∧ ∃ oid i0 i1 i2 v0 v1 v2, r = .tuple #[.slice (some ⟨oid, 0, none⟩) 3 3, iv 0] ∧ Ctl M' M.length oid i0 i1 i2 v0 v1 v2 (mkC N.toNat (allP l) (ctl0 x l)) (mkC N.toNat (allP l) (ctl1 x l)) (mkC N.toNat (allP l) (ctl2 x l))) ∨
    (codeV x l N true ≠ 0 ∧ r = .tuple #[.slice none 0 0, iv (codeV x l N true)]))
end Go.Proofs.YtimijeeihicohaaGreat

namespace Go.Proofs.YtimijeeihicohaaGreat
open Go.RowKit
set_option linter.unusedVariables false
set_option linter.unusedSimpArgs false
set_option maxRecDepth 100000
attribute [local simp] List.getElem?_cons_zero
attribute [local irreducible] awCond awCall awLoop awDraw ow retQ retC resQ Keeps
theorem l03Zeros_r {M : Mem} {b : Nat} (n : Nat) (hn : n ≤ 4000) (hb : b ≤ M.length) : Ctr Tryz.prog b 84 [iv n] M fun v M' => ∃ id, id < M'.length ∧ Row1 M' M.length v id (List.replicate n 0) ∧ Same M.length M M' := by
  by_cases h0 : n = 0
  · subst h0
    first | (refine ctr_fn Tryz.func84 rfl Tryz.ntmps84 Tryz.results84 rfl rfl (by simp) ?_) | (refine ctr_fnC Tryz.func84 rfl Tryz.ntmps84 Tryz.results84 rfl (by simp) ?_)
    simp
    refine awLoop_T (fun m T M' => M' = M ++ [Slot.live ⟨[], true, true, 2, 1⟩] ∧ look T 0 = some (iv 0) ∧ look T 3 = some (.slice (some ⟨M.length, 0, none⟩) 0 0)) 0 ⟨rfl, by simp, by simp⟩ ?_
    rintro m T M1 ⟨rfl, t0, t3⟩
    simp [t0, t3]
    exact ⟨M.length, by omega, ⟨Nat.le_refl _, true, 0, rfl, by simp [cellsL]⟩, by simp, fun i s _ hs => (keeps_app _).get hs⟩
  · refine (l03Zeros_s n hn hb).mono ?_
    rintro v M' ⟨⟨A, q, c, rfl, hl, hA⟩, hS⟩
    rw [List.length_replicate] at hl
    subst hl
    rcases hA with ⟨_, h, _⟩ | ⟨id, t, rfl, hid, hr⟩
    · exact absurd h h0
    · exact ⟨id, (List.getElem?_eq_some_iff.1 hr).1, ⟨hid, t, c, by rw [List.length_replicate], hr⟩, hS⟩
theorem cidx_eq {l : List Gate} (hs : Sorted l) {t : Int} {q : Nat} (hq : q ≤ l.length) (h1 : ∀ i, i < q → (el l i).s ≤ t) (h2 : q < l.length → t < (el l q).s) : cidx l t = q := by
  have := cidx_le l t
  rcases Nat.lt_trichotomy (cidx l t) q with h | h | h
  · have := (cidx_lt hs (t := t) (show cidx l t < l.length by omega)).2 (h1 _ h)
    omega
  · exact h
  · have a := (cidx_lt hs (t := t) (show q < l.length by omega)).1 h
    have := h2 (by omega)
    omega
set_option maxHeartbeats 4000000 in
theorem l22Controls_s {M : Mem} {b lo hi id0 off0 : Nat} {us : List Value} {x : Inst} {A : Option Addr} {n c N : Nat} {l : List Gate} (h : instP.rd lo hi M x us) (hc0 : Cl M id0 off0 us) (hb : instB x = true) (hg : Sl gateR M A n l) (hok : okG l = true) (hN : N ≤ 4000) (hbM : b ≤ M.length) :
    Ctr Tryz.prog b 41 [.pointer (some ⟨id0, off0, none⟩), .slice A n c, iv N] M fun v M' => ∃ oid i0 i1 i2 v0 v1 v2, v = .slice (some ⟨oid, 0, none⟩) 3 3 ∧ Ctl M' M.length oid i0 i1 i2 v0 v1 v2 (mkC N (allP l) (ctl0 x l)) (mkC N (allP l) (ctl1 x l)) (mkC N (allP l) (ctl2 x l)) ∧ Same M.length M M' := by
  have hgl := hg.1
  have hs := okG_sorted hok
  have hgk := okG_bd hok
  first | (refine ctr_fn Tryz.func41 rfl Tryz.ntmps41 Tryz.results41 rfl rfl (by simp) ?_) | (refine ctr_fnC Tryz.func41 rfl Tryz.ntmps41 Tryz.results41 rfl (by simp) ?_)
  simp
  refine awCall_ctr (l03Zeros_r N hN hbM) ?_
  rintro v0 M1 ⟨i0, b0, r0, s0⟩
  refine awCall_ctr (l03Zeros_r N hN (by have := s0.1; omega)) ?_
  rintro v1 M2 ⟨i1, b1, r1, s1⟩
  refine awCall_ctr (l03Zeros_r N hN (by have := s0.1; have := s1.1; omega)) ?_
  rintro v2 M3 ⟨i2, b2, r2, s2⟩
  have hf : Instr.fill (fun i => some (i, 1)) (zrow [Value.slice none 0 0] 3).toArray [(0, v0), (1, v1), (2, v2)] = some #[v0, v1, v2] := by
    obtain ⟨_, _, e0, _⟩ := r0.row
    obtain ⟨_, _, e1, _⟩ := r1.row
    obtain ⟨_, _, e2, _⟩ := r2.row
    rw [e0, e1, e2]
    rfl
  rw [hf, ow_some]
  simp
  have hz : ∀ f : Nat → Int, mkC N (fun u => allP l u && decide (u < 0)) f = List.replicate N 0 := fun f => mkC_none fun t _ => by simp
  have n0 := s0.1
  have n1 := s1.1
  have n2 := s2.1
  have lo0 := r0.low
  have lo1 := r1.low
  have lo2 := r2.low
  have hC : Ctl (M3 ++ [Slot.live ⟨[v0, v1, v2], true, true, 24, 1⟩]) M.length M3.length i0 i1 i2 v0 v1 v2 (mkC N (fun u => allP l u && decide (u < 0)) (ctl0 x l)) (mkC N (fun u => allP l u && decide (u < 0)) (ctl1 x l)) (mkC N (fun u => allP l u && decide (u < 0)) (ctl2 x l)) := by
    rw [hz, hz, hz]
    refine ⟨by omega, ⟨24, by simp⟩, ?_, ?_, ?_, by omega⟩
    · exact ⟨lo0, (r0.keep fun s hh => (keeps_app _).get (s2.2 _ _ (by omega) (s1.2 _ _ b0 hh))).row⟩
    · exact ⟨by omega, (r1.keep fun s hh => (keeps_app _).get (s2.2 _ _ b1 hh)).row⟩
    · exact ⟨by omega, (r2.keep fun s hh => (keeps_app _).get hh).row⟩
  have hS : Same M.length M (M3 ++ [Slot.live ⟨[v0, v1, v2], true, true, 24, 1⟩]) :=
    ⟨by simp; omega, fun i s h1 h2 => (keeps_app _).get (s2.2 _ _ (by omega) (s1.2 _ _ (by omega) (s0.2 _ _ h1 h2)))⟩
  generalize M3 ++ [Slot.live ⟨[v0, v1, v2], true, true, 24, 1⟩] = M4 at *
  generalize M3.length = oid at *
  clear r0 r1 r2 s0 s1 s2 hf b0 b1 b2 n0 n1 n2 lo0 lo1 lo2
  refine awLoop_T (fun m T M' => ∃ t q : Nat, t + m = N ∧ q ≤ l.length ∧ (∀ i, i < q → (el l i).s ≤ (t : Int)) ∧ Same M.length M M' ∧ Ctl M' M.length oid i0 i1 i2 v0 v1 v2 (mkC N (fun u => allP l u && decide (u < t)) (ctl0 x l)) (mkC N (fun u => allP l u && decide (u < t)) (ctl1 x l)) (mkC N (fun u => allP l u && decide (u < t)) (ctl2 x l)) ∧ look T 9 = some (iv t) ∧ look T 8 = some (iv ((q : Int) - 1)) ∧ look T 7 = some (.slice (some ⟨oid, 0, none⟩) 3 3) ∧ look T 0 = some (.pointer (some ⟨id0, off0, none⟩)) ∧ look T 1 = some (.slice A n c) ∧ look T 2 = some (iv N)) N ⟨0, 0, by omega, by omega, fun i hi => by omega, hS, hC, by simp, by simp, by simp, by simp, by simp, by simp⟩ ?_
  clear hS hC
  rintro m T M1 ⟨t, q, hm, hq, hqs, hS, hC, t9, t8, t7, t0, t1, t2⟩
  by_cases hlt : t < N
  · simp (disch := omega) [t9, t2, hlt]
    have hK := slt hS
    have hn60 : n ≤ 60 := by have := okG_len hok; omega
    refine awLoop_T (fun m' T M' => ∃ q : Nat, q + m' = l.length ∧ (∀ i, i < q → (el l i).s ≤ (t : Int)) ∧ M' = M1 ∧ look T 9 = some (iv t) ∧ look T 8 = some (iv ((q : Int) - 1)) ∧ look T 7 = some (.slice (some ⟨oid, 0, none⟩) 3 3) ∧ look T 0 = some (.pointer (some ⟨id0, off0, none⟩)) ∧ look T 1 = some (.slice A n c) ∧ look T 2 = some (iv N)) (l.length - q) ⟨q, by omega, hqs, rfl, by simp [t9], by simp [t8], by simp [t7], by simp [t0], by simp [t1], by simp [t2]⟩ ?_
    clear hq hqs t9 t8 t7 t0 t1 t2 T q
    rintro m' T M2 ⟨q, hq, hqs, rfl, t9, t8, t7, t0, t1, t2⟩
    by_cases hq1 : q < n
    · obtain ⟨id, off, rfl, he, hc⟩ := (hg.keeps hK).at_ hq1
      obtain ⟨y0, y1, y2, y3, y4⟩ := gate_cells hc
      simp (disch := omega) [t9, t8, t1, hq1, wrap_in, he, y1]
      by_cases hst : (el l q).s ≤ (t : Int)
      · simp (disch := omega) [hst, t8, wrap_in]
        refine lpI (m' - 1) (by omega) ⟨q + 1, by omega, fun i hi => ?_, rfl, by simp [t9], by simp, by simp [t7], by simp [t0], by simp [t1], by simp [t2]⟩
        by_cases hiq : i < q
        · exact hqs i hiq
        · obtain rfl : i = q := by omega
          exact hst
      · simp (disch := omega) [hst, t8, wrap_in]
        have hci : cidx l t = q := cidx_eq hs (by omega) hqs (fun h => by omega)
        by_cases q0 : q = 0
        · subst q0
          have hp : ∀ f : Nat → Int, mkC N (fun u => allP l u && decide (u < t)) f = mkC N (fun u => allP l u && decide (u < t + 1)) f := fun f => mkC_congr fun u _ => by
            by_cases e : u = t
            · subst e; simp [allP, hci]
            · have : (u < t) = (u < t + 1) := by apply propext; omega
              simp only [this]
          rw [hp, hp, hp] at hC
          simp (disch := omega) [t9, wrap_in]
          refine lpI (m - 1) (by omega) ⟨t + 1, 0, by omega, by omega, fun i hi => by omega, hS, hC, by simp, by simp [t8], by simp [t7], by simp [t0], by simp [t1], by simp [t2]⟩
        · obtain ⟨k, rfl⟩ : ∃ k, q = k + 1 := ⟨q - 1, by omega⟩
          obtain ⟨_, _, e0, heg, hcg⟩ := (hg.keeps hK).at_ (show k < n by omega)
          cases e0
          obtain ⟨x0, x1, x2, x3, x4⟩ := gate_cells hcg
          have w := hgk k (by omega)
          have wt := hqs k (by omega)
          have hgl0 : gateL l t = el l k := by simp [gateL, hci]
          have hk127 : inB (el l k).k 0 127 = true := inB_iff.2 w.2.2.2.1
          have h2 := instP.keeps h hK
          have hc2 : Cl M2 id0 off0 us := hc0.keeps hK
          obtain ⟨o0, o1, o2, oez⟩ := hC.cells
          have ez0 : rowEsz M2 i0 = some 1 := by obtain ⟨_, _, _, hh⟩ := hC.r0; simp [rowEsz, hh]
          obtain ⟨_, c0, hv0, -⟩ := hC.r0.row
          rw [mkC_len] at hv0
          have hkn : k < n := by omega
          have hk0 : ¬ (k : Int) < 0 := by omega
          simp (disch := omega) [hk0, t8, t1, hkn, heg, wrap_in]
          refine awDraw_E 10 [[],[0],[1,0],[],[],[],[5],[6,5],[7,6,5],[4,8,7,6,5],[2,1,0,3,4,5,6,7,8,9],[10,2,1,0,3,4,5,6,7,8,9]] (by kernel_rfl) (by kernel_rfl) ?_
          simp (disch := omega) [t9, t8, t7, t0, hlt, wrap_in, o0, oez, x3, hv0]
          have hset : ∀ f : Nat → Int, (mkC N (fun u => allP l u && decide (u < t)) f).set t (f t) = mkC N (fun u => allP l u && decide (u < t + 1)) f := fun f => mkC_set fun u _ => by
            by_cases e : u = t
            · subst e; simp [allP, hci]
            · have : (u < t + 1) = (u < t) := by apply propext; omega
              simp [this, e]
          refine awCall_det' (d := true) (l22Increment_s h2 hc2 hb hk127) (Nat.le_refl _) ⟨rfl, ?_⟩
          obtain ⟨M4, p1, hC4, l4, o4⟩ := hC.put0 hbM (i := t) (by rw [mkC_len]; exact hlt) (incr x.steps (el l k).k)
          have hv0' : incr x.steps (el l k).k = ctl0 x l t := by unfold ctl0; rw [hgl0]
          rw [hv0', hset] at hC4
          simp (disch := omega) [ez0, hlt, p1]
          have hS4 : Same M.length M M4 := ⟨by have := hS.1; omega, fun i s g1 g2 => o4 i s (by have := hC.r0.low; omega) (hS.2 i s g1 g2)⟩
          obtain ⟨_, _, e4, heg4, hcg4⟩ := (hg.keeps (slt hS4)).at_ (show k < n by omega)
          cases e4
          obtain ⟨y0, y1, y2, y3, y4⟩ := gate_cells hcg4
          obtain ⟨q0, q1, q2, qez⟩ := hC4.cells
          have ez1 : rowEsz M4 i1 = some 1 := by obtain ⟨_, _, _, hh⟩ := hC4.r1; simp [rowEsz, hh]
          obtain ⟨_, c1, hv1, -⟩ := hC4.r1.row
          rw [mkC_len] at hv1
          obtain ⟨M5, p2, hC5, l5, o5⟩ := hC4.put1 hbM (i := t) (by rw [mkC_len]; exact hlt) (el l k).u
          rw [show (mkC N (fun u => allP l u && decide (u < t)) (ctl1 x l)).set t (el l k).u = mkC N (fun u => allP l u && decide (u < t + 1)) (ctl1 x l) by rw [← hset]; unfold ctl1; rw [hgl0]] at hC5
          refine awDraw_E 8 [[],[0],[1,0],[],[],[4],[5,4],[6,5,4],[2,1,0,3,4,5,6,7],[8,2,1,0,3,4,5,6,7]] (by kernel_rfl) (by kernel_rfl) ?_
          simp (disch := omega) [t9, t7, hlt, wrap_in, q1, qez, y4, hv1, ez1, p2]
          have hS5 : Same M.length M M5 := ⟨by have := hS4.1; omega, fun i s g1 g2 => o5 i s (by have := hC4.r1.low; omega) (hS4.2 i s g1 g2)⟩
          obtain ⟨_, _, e5, heg5, hcg5⟩ := (hg.keeps (slt hS5)).at_ (show k < n by omega)
          cases e5
          obtain ⟨z0, z1, z2, z3, z4⟩ := gate_cells hcg5
          obtain ⟨r0, r1, r2, rez⟩ := hC5.cells
          have ez2 : rowEsz M5 i2 = some 1 := by obtain ⟨_, _, _, hh⟩ := hC5.r2; simp [rowEsz, hh]
          obtain ⟨_, c2, hv2, -⟩ := hC5.r2.row
          rw [mkC_len] at hv2
          have h5 := instP.keeps h (slt hS5)
          have hc5 : Cl M5 id0 off0 us := hc0.keeps (slt hS5)
          obtain ⟨ps, es, ww, rfl, hp, he5, hw5⟩ := h5
          have hpl := patchP.len hp
          have cE : Cl M5 id0 (off0 + 4) es := by
            have := (cl_app.1 ((cl_app.1 hc5).1)).2
            rwa [hpl] at this
          have hbe : envB x.env = true := by unfold instB at hb; simp only [Bool.and_eq_true] at hb; exact hb.2.2.2.1
          obtain ⟨M6, p3, hC6, l6, o6⟩ := hC5.put2 hbM (i := t) (by rw [mkC_len]; exact hlt) (levelV x.env ((el l k).e - (el l k).s) (t - (el l k).s))
          rw [show (mkC N (fun u => allP l u && decide (u < t)) (ctl2 x l)).set t (levelV x.env ((el l k).e - (el l k).s) (t - (el l k).s)) = mkC N (fun u => allP l u && decide (u < t + 1)) (ctl2 x l) by rw [← hset]; unfold ctl2; rw [hgl0]] at hC6
          refine awDraw_E 23 [[],[0],[1,0],[],[],[4],[5,4],[],[7],[8,7],[9,8,7],[],[11],[12,11],[13,12,11],[10,9,8,7,14,13,12,11],[],[],[17],[18,17],[19,18,17],[16,20,19,18,17],[6,5,4,15,10,9,8,7,14,13,12,11,21,16,20,19,18,17],[2,1,0,3,4,5,6,7,8,9,10,11,12,13,14,15,16,17,18,19,20,21,22],[23,2,1,0,3,4,5,6,7,8,9,10,11,12,13,14,15,16,17,18,19,20,21,22]] (by kernel_rfl) (by kernel_rfl) ?_
          simp (disch := omega) [t9, t7, t0, hlt, wrap_in, r2, rez, z1, z2, hv2]
          refine awCall_det' (d := true) (l14At_s ((el l k).e - (el l k).s) (t - (el l k).s) he5 cE hbe (by omega) (by omega) (by omega) (by omega)) (Nat.le_refl _) ⟨rfl, ?_⟩
          simp (disch := omega) [ez2, hlt, p3, t9, wrap_in]
          refine lpI (m - 1) (by omega) ⟨t + 1, k + 1, by omega, by omega, fun i hi => by have := hqs i hi; omega, ⟨by have := hS5.1; omega, fun i s g1 g2 => o6 i s (by have := hC5.r2.low; omega) (hS5.2 i s g1 g2)⟩, hC6, by simp, by simp [t8], by simp [t7], by simp [t0], by simp [t1], by simp [t2]⟩
    · have e1 : q = n := by omega
      simp (disch := omega) [t9, t8, t1, hq1, wrap_in]
      have hci : cidx l t = q := cidx_eq hs (by omega) hqs (fun h => by omega)
      by_cases q0 : q = 0
      · subst q0
        have hp : ∀ f : Nat → Int, mkC N (fun u => allP l u && decide (u < t)) f = mkC N (fun u => allP l u && decide (u < t + 1)) f := fun f => mkC_congr fun u _ => by
          by_cases e : u = t
          · subst e; simp [allP, hci]
          · have : (u < t) = (u < t + 1) := by apply propext; omega
            simp only [this]
        rw [hp, hp, hp] at hC
        simp (disch := omega) [t9, wrap_in]
        refine lpI (m - 1) (by omega) ⟨t + 1, 0, by omega, by omega, fun i hi => by omega, hS, hC, by simp, by simp [t8], by simp [t7], by simp [t0], by simp [t1], by simp [t2]⟩
      · obtain ⟨k, rfl⟩ : ∃ k, q = k + 1 := ⟨q - 1, by omega⟩
        obtain ⟨id, off, rfl, heg, hcg⟩ := (hg.keeps hK).at_ (show k < n by omega)
        obtain ⟨x0, x1, x2, x3, x4⟩ := gate_cells hcg
        have w := hgk k (by omega)
        have wt := hqs k (by omega)
        have hgl0 : gateL l t = el l k := by simp [gateL, hci]
        have hk127 : inB (el l k).k 0 127 = true := inB_iff.2 w.2.2.2.1
        have h2 := instP.keeps h hK
        have hc2 : Cl M2 id0 off0 us := hc0.keeps hK
        obtain ⟨o0, o1, o2, oez⟩ := hC.cells
        have ez0 : rowEsz M2 i0 = some 1 := by obtain ⟨_, _, _, hh⟩ := hC.r0; simp [rowEsz, hh]
        obtain ⟨_, c0, hv0, -⟩ := hC.r0.row
        rw [mkC_len] at hv0
        have hkn : k < n := by omega
        have hk0 : ¬ (k : Int) < 0 := by omega
        simp (disch := omega) [hk0, t8, t1, hkn, heg, wrap_in]
        refine awDraw_E 10 [[],[0],[1,0],[],[],[],[5],[6,5],[7,6,5],[4,8,7,6,5],[2,1,0,3,4,5,6,7,8,9],[10,2,1,0,3,4,5,6,7,8,9]] (by kernel_rfl) (by kernel_rfl) ?_
        simp (disch := omega) [t9, t8, t7, t0, hlt, wrap_in, o0, oez, x3, hv0]
        have hset : ∀ f : Nat → Int, (mkC N (fun u => allP l u && decide (u < t)) f).set t (f t) = mkC N (fun u => allP l u && decide (u < t + 1)) f := fun f => mkC_set fun u _ => by
          by_cases e : u = t
          · subst e; simp [allP, hci]
          · have : (u < t + 1) = (u < t) := by apply propext; omega
            simp [this, e]
        refine awCall_det' (d := true) (l22Increment_s h2 hc2 hb hk127) (Nat.le_refl _) ⟨rfl, ?_⟩
        obtain ⟨M4, p1, hC4, l4, o4⟩ := hC.put0 hbM (i := t) (by rw [mkC_len]; exact hlt) (incr x.steps (el l k).k)
        have hv0' : incr x.steps (el l k).k = ctl0 x l t := by unfold ctl0; rw [hgl0]
        rw [hv0', hset] at hC4
        simp (disch := omega) [ez0, hlt, p1]
        have hS4 : Same M.length M M4 := ⟨by have := hS.1; omega, fun i s g1 g2 => o4 i s (by have := hC.r0.low; omega) (hS.2 i s g1 g2)⟩
        obtain ⟨_, _, e4, heg4, hcg4⟩ := (hg.keeps (slt hS4)).at_ (show k < n by omega)
        cases e4
        obtain ⟨y0, y1, y2, y3, y4⟩ := gate_cells hcg4
        obtain ⟨q0, q1, q2, qez⟩ := hC4.cells
        have ez1 : rowEsz M4 i1 = some 1 := by obtain ⟨_, _, _, hh⟩ := hC4.r1; simp [rowEsz, hh]
        obtain ⟨_, c1, hv1, -⟩ := hC4.r1.row
        rw [mkC_len] at hv1
        obtain ⟨M5, p2, hC5, l5, o5⟩ := hC4.put1 hbM (i := t) (by rw [mkC_len]; exact hlt) (el l k).u
        rw [show (mkC N (fun u => allP l u && decide (u < t)) (ctl1 x l)).set t (el l k).u = mkC N (fun u => allP l u && decide (u < t + 1)) (ctl1 x l) by rw [← hset]; unfold ctl1; rw [hgl0]] at hC5
        refine awDraw_E 8 [[],[0],[1,0],[],[],[4],[5,4],[6,5,4],[2,1,0,3,4,5,6,7],[8,2,1,0,3,4,5,6,7]] (by kernel_rfl) (by kernel_rfl) ?_
        simp (disch := omega) [t9, t7, hlt, wrap_in, q1, qez, y4, hv1, ez1, p2]
        have hS5 : Same M.length M M5 := ⟨by have := hS4.1; omega, fun i s g1 g2 => o5 i s (by have := hC4.r1.low; omega) (hS4.2 i s g1 g2)⟩
        obtain ⟨_, _, e5, heg5, hcg5⟩ := (hg.keeps (slt hS5)).at_ (show k < n by omega)
        cases e5
        obtain ⟨z0, z1, z2, z3, z4⟩ := gate_cells hcg5
        obtain ⟨r0, r1, r2, rez⟩ := hC5.cells
        have ez2 : rowEsz M5 i2 = some 1 := by obtain ⟨_, _, _, hh⟩ := hC5.r2; simp [rowEsz, hh]
        obtain ⟨_, c2, hv2, -⟩ := hC5.r2.row
        rw [mkC_len] at hv2
        have h5 := instP.keeps h (slt hS5)
        have hc5 : Cl M5 id0 off0 us := hc0.keeps (slt hS5)
        obtain ⟨ps, es, ww, rfl, hp, he5, hw5⟩ := h5
        have hpl := patchP.len hp
        have cE : Cl M5 id0 (off0 + 4) es := by
          have := (cl_app.1 ((cl_app.1 hc5).1)).2
          rwa [hpl] at this
        have hbe : envB x.env = true := by unfold instB at hb; simp only [Bool.and_eq_true] at hb; exact hb.2.2.2.1
        obtain ⟨M6, p3, hC6, l6, o6⟩ := hC5.put2 hbM (i := t) (by rw [mkC_len]; exact hlt) (levelV x.env ((el l k).e - (el l k).s) (t - (el l k).s))
        rw [show (mkC N (fun u => allP l u && decide (u < t)) (ctl2 x l)).set t (levelV x.env ((el l k).e - (el l k).s) (t - (el l k).s)) = mkC N (fun u => allP l u && decide (u < t + 1)) (ctl2 x l) by rw [← hset]; unfold ctl2; rw [hgl0]] at hC6
        refine awDraw_E 23 [[],[0],[1,0],[],[],[4],[5,4],[],[7],[8,7],[9,8,7],[],[11],[12,11],[13,12,11],[10,9,8,7,14,13,12,11],[],[],[17],[18,17],[19,18,17],[16,20,19,18,17],[6,5,4,15,10,9,8,7,14,13,12,11,21,16,20,19,18,17],[2,1,0,3,4,5,6,7,8,9,10,11,12,13,14,15,16,17,18,19,20,21,22],[23,2,1,0,3,4,5,6,7,8,9,10,11,12,13,14,15,16,17,18,19,20,21,22]] (by kernel_rfl) (by kernel_rfl) ?_
        simp (disch := omega) [t9, t7, t0, hlt, wrap_in, r2, rez, z1, z2, hv2]
        refine awCall_det' (d := true) (l14At_s ((el l k).e - (el l k).s) (t - (el l k).s) he5 cE hbe (by omega) (by omega) (by omega) (by omega)) (Nat.le_refl _) ⟨rfl, ?_⟩
        simp (disch := omega) [ez2, hlt, p3, t9, wrap_in]
        refine lpI (m - 1) (by omega) ⟨t + 1, k + 1, by omega, by omega, fun i hi => by have := hqs i hi; omega, ⟨by have := hS5.1; omega, fun i s g1 g2 => o6 i s (by have := hC5.r2.low; omega) (hS5.2 i s g1 g2)⟩, hC6, by simp, by simp [t8], by simp [t7], by simp [t0], by simp [t1], by simp [t2]⟩
  · obtain rfl : t = N := by omega
    have hall : ∀ f : Nat → Int, mkC t (fun u => allP l u && decide (u < t)) f = mkC t (allP l) f := fun f => mkC_congr fun u hu => by simp [hu]
    rw [hall, hall, hall] at hC
    simp [t9, t2, t7]
    exact ⟨⟨_, _, _, _, _, _, hC⟩, hS⟩
end Go.Proofs.YtimijeeihicohaaGreat

namespace Go.Proofs.YtimijeeihicohaaGreat
open Go.RowKit
set_option linter.unusedVariables false
set_option linter.unusedSimpArgs false
set_option maxRecDepth 100000
attribute [local simp] List.getElem?_cons_zero
attribute [local irreducible] awCond awCall awLoop awDraw ow retQ retC resQ Keeps
end Go.Proofs.YtimijeeihicohaaGreat
