/- Marks on lists of numbers, and on lists of them. No conditions. -/
import Derived.Test.YtffbocbjmhkikaaN5
namespace Go.Proofs.Ytffbocbjmhkikaa
open Go.RowKit
set_option linter.unusedVariables false
set_option linter.unusedSimpArgs false
set_option maxRecDepth 100000
attribute [local simp] List.getElem?_cons_zero
attribute [local irreducible] awCond awCall awLoop awDraw ow retQ retC resQ Keeps
def markIL (z : Int) (n : Nat) : List Int := (List.range n).map fun i : Nat => z + (i : Int)
theorem markIL_succ (z : Int) (n : Nat) : markIL z (n + 1) = markIL z n ++ [z + (n : Int)] := by simp [markIL, List.range_succ]
theorem markInt64S_r {M : Mem} {b id off n c : Nat} {cs : List Value} {t : Bool} {e : TypeId} (z : Int) (hr : M[id]? = some (.live ⟨cs, true, t, e, 1⟩)) (hb : b ≤ id) (hlen : off + n ≤ cs.length) (hn : n ≤ 1099511627776) (hz0 : 0 ≤ z) (hz : z ≤ 1152921504606846976) :
    Ctr Try.prog b 30 [.slice (some ⟨id, off, none⟩) n c, iv z] M fun v M' => v = iv (z + n) ∧ M' = M.set id (.live ⟨cs.take off ++ cellsL intR (markIL z n) ++ cs.drop (off + n * 1), true, t, e, 1⟩) := by
  have hid := (List.getElem?_eq_some_iff.1 hr).1
  have hM : M = M.set id (.live ⟨cs.take off ++ cellsL intR (markIL z 0) ++ cs.drop (off + 0 * 1), true, t, e, 1⟩) := by
    rw [set_self]
    simp [markIL, cellsL_nil, hr]
  first | (refine ctr_fn Try.func30 rfl Try.ntmps30 Try.results30 rfl rfl (by simp) ?_) | (refine ctr_fnC Try.func30 rfl Try.ntmps30 Try.results30 rfl (by simp) ?_)
  simp
  refine awLoop_T (fun m T M' => ∃ j : Nat, j + m = n ∧ M' = M.set id (.live ⟨cs.take off ++ cellsL intR (markIL z j) ++ cs.drop (off + j * 1), true, t, e, 1⟩) ∧ look T 5 = some (iv j) ∧ look T 1 = some (iv (z + j)) ∧ look T 0 = some (.slice (some ⟨id, off, none⟩) n c)) n ⟨0, by omega, hM, by simp, by simp, by simp⟩ ?_
  rintro m T M' ⟨j, hm, rfl, h5, h1, h0⟩
  have hlm : (markIL z j).length = j := by simp [markIL]
  by_cases hlt : j < n
  · have hsp := splice_mid intR (cs := cs) (off := off) (a := z + (j : Int)) hlm (by omega)
    have hlc : (cs.take off ++ cellsL intR (markIL z j) ++ cs.drop (off + j * 1)).length = cs.length := by
      simp only [List.length_append, List.length_take, List.length_drop, cellsL_len, hlm]; omega
    generalize cs.take off ++ cellsL intR (markIL z j) ++ cs.drop (off + j * 1) = Cs at hsp hlc ⊢
    simp (disch := first | omega | (simp <;> omega)) [h5, h1, h0, hlt, wrap_in, rowEsz_set hid, put_set hid hb]

    refine lpI (m - 1) (by omega) ?_
    refine ⟨j + 1, by omega, ?_, by simp, by simp; omega, by simp [h0]⟩
    have hs1 : splice Cs (off + j * 1) (intR.row (z + (j : Int))) = Cs.set (off + j) (iv (z + (j : Int))) := by
      rw [Nat.mul_one]
      rfl
    rw [markIL_succ, ← hsp, hs1]
  · obtain rfl : j = n := by omega
    simp [h5, h1, h0]
theorem markInt64S_0 {M : Mem} {b : Nat} {A : Option Addr} {c : Nat} (z : Int) : Ctr Try.prog b 30 [.slice A 0 c, iv z] M fun v M' => v = iv z ∧ M' = M := by
  first | (refine ctr_fn Try.func30 rfl Try.ntmps30 Try.results30 rfl rfl (by simp) ?_) | (refine ctr_fnC Try.func30 rfl Try.ntmps30 Try.results30 rfl (by simp) ?_)
  simp
  refine awLoop_T (fun m T M' => M' = M ∧ look T 1 = some (iv z) ∧ look T 5 = some (iv 0) ∧ look T 0 = some (.slice A 0 c)) 0 ⟨rfl, by simp, by simp, by simp⟩ ?_
  rintro m T M' ⟨rfl, h1, h3, h0⟩
  simp [h1, h3, h0]
theorem heldInt64S_a {M : Mem} {A : Option Addr} {n c : Nat} (z : Int) (hx : Sl intR M A n (markIL z n)) (hn : n ≤ 1099511627776) (hz0 : 0 ≤ z) (hz : z ≤ 1152921504606846976) :
    Det Try.prog M.length 31 [.slice A n c, iv z] M (iv (z + n)) M := by
  first | (refine det_fn Try.func31 rfl Try.ntmps31 Try.results31 rfl rfl rfl (by simp) ?_) | (refine det_fnC Try.func31 rfl Try.ntmps31 Try.results31 rfl rfl (by simp) ?_)
  simp
  refine awLoop_T (fun m T M' => ∃ j : Nat, j + m = n ∧ M' = M ∧ look T 5 = some (iv j) ∧ look T 1 = some (iv (z + j)) ∧ look T 0 = some (.slice A n c)) n ⟨0, by omega, rfl, by simp, by simp, by simp⟩ ?_
  rintro m T M' ⟨j, hm, rfl, h5, h1, h0⟩
  by_cases hlt : j < n
  · obtain ⟨id, off, rfl, he, hc⟩ := hx.at_ hlt
    rw [show el (markIL z n) j = z + (j : Int) by simp [markIL, el, hlt]] at hc
    have c0 := int_cell hc
    simp only [Nat.mul_one] at c0
    simp (disch := omega) [h5, h1, h0, hlt, wrap_in, c0, he]
    refine lpI (m - 1) (by omega) ?_
    exact ⟨j + 1, by omega, rfl, by simp, by simp; omega, by simp [h0]⟩
  · obtain rfl : j = n := by omega
    simp [h5, h1, h0, Keeps.refl]
/-- A list of lists in rows of one's own. -/
def SSo (lo hi : Nat) (M : Mem) (u : Value) (l : List (List Int)) : Prop :=
  ∃ id n cells e, u = .slice (some ⟨id, 0, none⟩) n n ∧ l.length = n ∧ n ≤ 1048576 ∧ lo ≤ id ∧ id < hi ∧ M[id]? = some (.live ⟨cells, true, true, e, 1⟩) ∧ cells.length = n ∧
    ∀ i, i < n → ∃ jd, cells[i]? = some (.slice (some ⟨jd, 0, none⟩) (el l i).length (el l i).length) ∧ id < jd ∧ jd < hi ∧ M[jd]? = some (.live ⟨cellsL intR (el l i), true, true, 2, 1⟩)
theorem SSo.agree {lo hi : Nat} {M M' : Mem} {u : Value} {l : List (List Int)} (h : SSo lo hi M u l) (hg : Agree lo hi M M') : SSo lo hi M' u l := by
  obtain ⟨id, n, cells, e, h1, h2, h3, h4, h5, h6, h7, h8⟩ := h
  refine ⟨id, n, cells, e, h1, h2, h3, h4, h5, hg _ _ h4 h5 h6, h7, fun i hi' => ?_⟩
  obtain ⟨jd, g1, g2, g3, g4⟩ := h8 i hi'
  exact ⟨jd, g1, g2, g3, hg _ _ (by omega) g3 g4⟩
theorem SSo.keeps {lo hi : Nat} {M M' : Mem} {u : Value} {l : List (List Int)} (h : SSo lo hi M u l) (hk : Keeps M M') : SSo lo hi M' u l := h.agree hk.agree
theorem SSo.slv {lo hi : Nat} {M : Mem} {u : Value} {l : List (List Int)} (h : SSo lo hi M u l) (hb : ∀ x, x ∈ l → x.length ≤ 1048576) : SlV tabP lo hi M u l := by
  obtain ⟨id, n, cells, e, h1, h2, h3, h4, h5, h6, h7, h8⟩ := h
  refine ⟨_, n, n, h1, by omega, (fun h => by cases h), h2, fun _ => ⟨id, 0, rfl, h4, h5, by simp [rowEsz, h6], fun i hi' => ?_⟩⟩
  obtain ⟨jd, g1, g2, g3, g4⟩ := h8 i hi'
  have hxb := hb _ (el_mem (l := l) (i := i) (by omega))
  refine ⟨[.slice (some ⟨jd, 0, none⟩) (el l i).length (el l i).length], ⟨_, rfl, _, _, (el l i).length, rfl, by omega, (fun h => by cases h), SlP.of_sl ⟨rfl, fun _ => ⟨jd, 0, rfl, by simp [rowEsz, g4], fun j x hx => by simp [cellAt, g4, hx]⟩⟩ fun a e _ => ?_⟩, cl_cons.2 ⟨?_, cl_nil⟩⟩
  · injection e with e
    subst e
    exact ⟨by show lo ≤ jd; omega, g3⟩
  · simp [cellAt, h6, g1]
theorem markInt64SS_a {M : Mem} {b lo hi : Nat} {u : Value} {l : List (List Int)} (z : Int) (h : SSo lo hi M u l) (hb : b ≤ lo) (hz0 : 0 ≤ z) (hz : z + sumW wtInt64S l l.length ≤ 1048577) :
    Ctr Try.prog b 28 [u, iv z] M fun v M' => v = iv (z + sumW wtInt64S l l.length) ∧ Turn lo hi M M' := by
  obtain ⟨id, n, cells, e, rfl, hl, h3, h4, h5, h6, h7, h8⟩ := h
  first | (refine ctr_fn Try.func28 rfl Try.ntmps28 Try.results28 rfl rfl (by simp) ?_) | (refine ctr_fnC Try.func28 rfl Try.ntmps28 Try.results28 rfl (by simp) ?_)
  simp
  refine awLoop_T (fun m T M' => ∃ j : Nat, j + m = n ∧ M'.length = M.length ∧ Turn lo hi M M' ∧ M'[id]? = some (.live ⟨cells, true, true, e, 1⟩) ∧ (∀ i, i < n → ∃ jd cs, cells[i]? = some (.slice (some ⟨jd, 0, none⟩) (el l i).length (el l i).length) ∧ id < jd ∧ jd < hi ∧ cs.length = (el l i).length ∧ M'[jd]? = some (.live ⟨cs, true, true, 2, 1⟩)) ∧ look T 5 = some (iv j) ∧ look T 1 = some (iv (z + sumW wtInt64S l j)) ∧ look T 0 = some (.slice (some ⟨id, 0, none⟩) n n)) n ⟨0, by omega, rfl, ⟨Nat.le_refl _, fun i s hs _ => hs⟩, h6, fun i hi' => ?_, by simp, by simp [sumW_zero], by simp⟩ ?_
  · obtain ⟨jd, g1, g2, g3, g4⟩ := h8 i hi'
    exact ⟨jd, _, g1, g2, g3, by simp [cellsL_len], g4⟩
  rintro m T M1 ⟨j, hm, e1, ht, hr, hin, t5, t1, t0⟩
  by_cases hlt : j < n
  · obtain ⟨jd, cs, g1, g2, g3, g4, g5⟩ := hin j hlt
    have c1 : cellAt M1 id j = some (.slice (some ⟨jd, 0, none⟩) (el l j).length (el l j).length) := by simp [cellAt, hr, g1]
    have hez : rowEsz M1 id = some 1 := by simp [rowEsz, hr]
    have hss := sumW_succ wtInt64S (l := l) (k := j) (by omega)
    have hle := sumW_le wtInt64S l (j + 1)
    have hw : wtInt64S (el l j) = (el l j).length := rfl
    simp (disch := omega) [t5, t1, t0, hlt, c1, hez, wrap_in]
    refine awCall_ctr (markInt64S_r (off := 0) _ g5 (by omega) (by omega) (by omega) (by omega) (by omega)) ?_
    rintro _ M2 ⟨rfl, hM2⟩
    simp (disch := omega) [t5, wrap_in]
    refine lpI (m - 1) (by omega) ⟨j + 1, by omega, by rw [hM2]; simp [e1], ⟨by rw [hM2]; simp [e1], fun i s hs hd => ?_⟩, ?_, fun i hi' => ?_, by simp, by rw [hss, hw]; simp; omega, by simp [t0]⟩
    · rw [hM2, List.getElem?_set_ne (by omega)]
      exact ht.2 i s hs hd
    · rw [hM2, List.getElem?_set_ne (by omega)]
      exact hr
    · obtain ⟨jd', cs', f1, f2, f3, f4, f5⟩ := hin i hi'
      by_cases ej : jd' = jd
      · subst ej
        rw [f5] at g5
        injection g5 with g5
        injection g5 with g5
        injection g5 with g5
        subst g5
        refine ⟨jd', _, f1, f2, f3, ?_, by rw [hM2]; exact List.getElem?_set_self (List.getElem?_eq_some_iff.1 f5).1⟩
        have hlm : (markIL (z + sumW wtInt64S l j) (el l j).length).length = (el l j).length := by simp [markIL]
        simp only [List.length_append, List.length_take, List.length_drop, cellsL_len, hlm]
        omega
      · exact ⟨jd', cs', f1, f2, f3, f4, by rw [hM2, List.getElem?_set_ne (fun h => ej h.symm)]; exact f5⟩
  · obtain rfl : j = n := by omega
    simp [t5, t1, t0]
    rw [hl]
    exact ⟨rfl, ht⟩
end Go.Proofs.Ytffbocbjmhkikaa
