/- Notes and scores: valid ones, in both packages. No conditions. -/
import Derived.Test.YtgaiejaegimilaaQ4
import Derived.Test.YtgaiejaegimilaaHScore
namespace Go.Proofs.Ytgaiejaegimilaa
open Go.RowKit
set_option linter.unusedVariables false
set_option linter.unusedSimpArgs false
set_option maxRecDepth 100000
attribute [local simp] List.getElem?_cons_zero
attribute [local irreducible] awCond awCall awLoop awDraw ow retQ retC resQ Keeps
def Note.at_ (n : Note) : Frac := ⟨n.an, n.ad⟩
def Note.len (n : Note) : Frac := ⟨n.ln, n.ld⟩
def noteB (n : Note) : Bool := beatB n.at_ && beatB n.len && decide (n.ln ≠ 0) && decide ((addF n.at_ n.len).2 = 0) && inB n.k 0 127 && inB n.u 1 127 && inB n.o 0 15
def ordN (a b : Note) : Int := if cmpF a.at_ b.at_ ≠ 0 then cmpF a.at_ b.at_ else if a.o ≠ b.o then a.o - b.o else a.k - b.k
theorem noteB_iff {n : Note} : noteB n = true ↔ beatB n.at_ = true ∧ beatB n.len = true ∧ n.ln ≠ 0 ∧ (addF n.at_ n.len).2 = 0 ∧ (0 ≤ n.k ∧ n.k ≤ 127) ∧ (1 ≤ n.u ∧ n.u ≤ 127) ∧ (0 ≤ n.o ∧ n.o ≤ 15) := by
  simp only [noteB, Bool.and_eq_true, decide_eq_true_eq, inB_iff, and_assoc]
theorem beatB_iff {f : Frac} : beatB f = true ↔ fracB f = true ∧ 0 ≤ f.n ∧ f.n ≤ 1000 * f.d := by
  simp only [beatB, Bool.and_eq_true, decide_eq_true_eq, and_assoc]
theorem cmpF_bd (a b : Frac) : -1 ≤ cmpF a b ∧ cmpF a b ≤ 1 := by
  unfold cmpF
  split
  · omega
  · split <;> omega
set_option maxHeartbeats 1000000 in
theorem isNote_i {M : Mem} (n : Note) : Det Try.prog M.length 125 [n.v] M (.bool (noteB n)) M := by
  first | (refine det_fn Try.func125 rfl Try.ntmps125 Try.results125 rfl rfl rfl (by simp) ?_) | (refine det_fnC Try.func125 rfl Try.ntmps125 Try.results125 rfl rfl (by simp) ?_)
  simp
  refine awCall_det' (isBeat_i n.at_) (by simp) ?_
  by_cases h1 : beatB n.at_ = true
  · simp [h1]
    refine awCall_det' (isBeat_i n.len) (by simp) ?_
    by_cases h2 : beatB n.len = true
    · simp [h2]
      by_cases h3 : n.ln = 0
      · have e : noteB n = false := by simp [noteB, h3]
        simp [h3, e, keeps_app]
      · simp [h3]
        refine awCall_det' (AddFrac_i n.at_ n.len) (by simp) ?_
        simp
        by_cases h4 : (addF n.at_ n.len).2 = 0
        · simp [h4]
          refine awCall_det' (isKey_a _) (by simp) ?_
          by_cases h5 : inB n.k 0 127 = true
          · simp [h5]
            refine awCall_det' (within_a _ _ _) (by simp) ?_
            by_cases h6 : inB n.u 1 127 = true
            · simp [h6]
              refine awCall_det' (within_a _ _ _) (by simp) ?_
              simp [noteB, h1, h2, h3, h4, h5, h6, keeps_app]
            · have e : noteB n = false := by simp [noteB, h6]
              simp [h6, e, keeps_app]
          · have e : noteB n = false := by simp [noteB, h5]
            simp [h5, e, keeps_app]
        · have e : noteB n = false := by simp [noteB, h4]
          simp [h4, e, keeps_app]
    · have e : noteB n = false := by simp [noteB, h2]
      simp [h2, e, keeps_app]
  · have e : noteB n = false := by simp [noteB, h1]
    simp [h1, e, keeps_app]
theorem l18Sum_a {M : Mem} (a b : Frac) : Det Try.prog M.length 119 [a.v, b.v] M (.tuple #[(addF a b).1.v, .bool (decide ((addF a b).2 = 0))]) M := by
  first | (refine det_fn Try.func119 rfl Try.ntmps119 Try.results119 rfl rfl rfl (by simp) ?_) | (refine det_fnC Try.func119 rfl Try.ntmps119 Try.results119 rfl rfl (by simp) ?_)
  simp
  refine awCall_det' (AddFrac_s a b) (by simp) ?_
  simp [keeps_app]
theorem note_cellsN {M : Mem} {id off : Nat} {n : Note} (h : Cl M id off n.row) : cellsAt M id off 2 = some [iv n.an, iv n.ad] ∧ cellsAt M id (off + 2) 2 = some [iv n.ln, iv n.ld] := by
  refine ⟨cellsAt_of (fun j x hx => ?_) rfl (by omega), cellsAt_of (fun j x hx => ?_) rfl (by omega)⟩
  · refine h j x ?_
    rcases j with _ | _ | j
    · exact hx
    · exact hx
    · simp at hx
  · have := h (2 + j) x (by
      rcases j with _ | _ | j
      · exact hx
      · exact hx
      · simp at hx)
    rwa [← Nat.add_assoc] at this
set_option maxHeartbeats 1000000 in
theorem l18Note_a {M : Mem} {id off : Nat} {n : Note} (hc : Cl M id off n.row) : Det Try.prog M.length 75 [.pointer (some ⟨id, off, none⟩)] M (.bool (noteB n)) M := by
  obtain ⟨c0, c1, c2, c3, c4, c5, c6⟩ := note_cells hc
  obtain ⟨d0, d2⟩ := note_cellsN hc
  first | (refine det_fn Try.func75 rfl Try.ntmps75 Try.results75 rfl rfl rfl (by simp) ?_) | (refine det_fnC Try.func75 rfl Try.ntmps75 Try.results75 rfl rfl (by simp) ?_)
  simp [c0, c1, c2, c3, c4, c5, c6, d0, d2]
  refine awCall_det' (l02Ok_a n.at_) (by simp) ?_
  by_cases f1 : fracB n.at_ = true
  · simp [f1, c0, c1, c2, c3, c4, c5, c6, d0, d2]
    refine awCall_det' (l17Beat_a n.at_ f1) (by simp) ?_
    by_cases h1 : beatB n.at_ = true
    · simp [h1, c0, c1, c2, c3, c4, c5, c6, d0, d2]
      refine awCall_det' (l02Ok_a n.len) (by simp) ?_
      by_cases f2 : fracB n.len = true
      · simp [f2, c0, c1, c2, c3, c4, c5, c6, d0, d2]
        refine awCall_det' (l17Beat_a n.len f2) (by simp) ?_
        by_cases h2 : beatB n.len = true
        · simp [h2, c0, c1, c2, c3, c4, c5, c6, d0, d2]
          by_cases h3 : n.ln = 0
          · have e : noteB n = false := by simp [noteB, h3]
            simp [h3, e, Keeps.refl]
          · simp [h3]
            refine awDraw_M 13 [[],[0],[1,0],[2,1,0],[],[4],[5,4],[6,5,4],[3,2,1,0,7,6,5,4],[8,3,2,1,0,7,6,5,4],[9,8,3,2,1,0,7,6,5,4],[9,8,3,2,1,0,7,6,5,4],[],[12,10,9,8,3,2,1,0,7,6,5,4],[11,9,8,3,2,1,0,7,6,5,4,13,12,10]] [11] (by kernel_rfl) (by decide +kernel) (by decide +kernel) ?_
            simp [c0, c1, c2, c3, c4, c5, c6, d0, d2]
            refine awCall_det' (l18Sum_a n.at_ n.len) (by simp) ?_
            simp
            have c4' := fun L => cellAt_app c4 L
            have c5' := fun L => cellAt_app c5 L
            have c6' := fun L => cellAt_app c6 L
            by_cases h4 : (addF n.at_ n.len).2 = 0
            · simp [h4, c4', c5', c6']
              refine awCall_det' (l00In_a _ _ _) (by simp) ?_
              by_cases h5 : inB n.k 0 127 = true
              · simp [h5, c4', c5', c6']
                refine awCall_det' (l00In_a _ _ _) (by simp) ?_
                by_cases h6 : inB n.u 1 127 = true
                · simp [h6, c4', c5', c6']
                  refine awCall_det' (l00In_a _ _ _) (by simp) ?_
                  simp [noteB, h1, h2, h3, h4, h5, h6, keeps_app]
                · have e : noteB n = false := by simp [noteB, h6]
                  simp [h6, e, keeps_app]
              · have e : noteB n = false := by simp [noteB, h5]
                simp [h5, e, keeps_app]
            · have e : noteB n = false := by simp [noteB, h4]
              simp [h4, e, keeps_app]
        · have e : noteB n = false := by simp [noteB, h2]
          simp [h2, e, Keeps.refl]
      · have e : noteB n = false := by simp [noteB, beatB, f2]
        simp [f2, e, Keeps.refl]
    · have e : noteB n = false := by simp [noteB, h1]
      simp [h1, e, Keeps.refl]
  · have e : noteB n = false := by simp [noteB, beatB, f1]
    simp [f1, e, Keeps.refl]
theorem compareNotes_i {M : Mem} (a b : Note) (ha : noteB a = true) (hb : noteB b = true) : Det Try.prog M.length 94 [a.v, b.v] M (iv (ordN a b)) M := by
  obtain ⟨a1, -, -, -, a5, a6, a7⟩ := noteB_iff.1 ha
  obtain ⟨b1, -, -, -, b5, b6, b7⟩ := noteB_iff.1 hb
  have f1 := (beatB_iff.1 a1).1
  have f2 := (beatB_iff.1 b1).1
  first | (refine det_fn Try.func94 rfl Try.ntmps94 Try.results94 rfl rfl rfl (by simp) ?_) | (refine det_fnC Try.func94 rfl Try.ntmps94 Try.results94 rfl rfl (by simp) ?_)
  simp
  refine awCall_det' (compare_i a.at_ b.at_ f1 f2) (by simp) ?_
  unfold ordN
  by_cases h1 : cmpF a.at_ b.at_ = 0
  · by_cases h2 : a.o = b.o
    · simp (disch := omega) [h1, h2, wrap_in, keeps_app]
    · simp (disch := omega) [h1, h2, wrap_in, keeps_app]
  · have := cmpF_bd a.at_ b.at_
    simp (disch := omega) [h1, wrap_in, keeps_app]
theorem l18Order_a {M : Mem} {id off id' off' : Nat} {a b : Note} (hca : Cl M id off a.row) (hcb : Cl M id' off' b.row) (ha : noteB a = true) (hb : noteB b = true) :
    Det Try.prog M.length 91 [.pointer (some ⟨id, off, none⟩), .pointer (some ⟨id', off', none⟩)] M (iv (ordN a b)) M := by
  obtain ⟨a1, -, -, -, a5, a6, a7⟩ := noteB_iff.1 ha
  obtain ⟨b1, -, -, -, b5, b6, b7⟩ := noteB_iff.1 hb
  have f1 := (beatB_iff.1 a1).1
  have f2 := (beatB_iff.1 b1).1
  obtain ⟨c0, c1, c2, c3, c4, c5, c6⟩ := note_cells hca
  obtain ⟨d0, d1, d2, d3, d4, d5, d6⟩ := note_cells hcb
  obtain ⟨e0, e2⟩ := note_cellsN hca
  obtain ⟨g0, g2⟩ := note_cellsN hcb
  first | (refine det_fn Try.func91 rfl Try.ntmps91 Try.results91 rfl rfl rfl (by simp) ?_) | (refine det_fnC Try.func91 rfl Try.ntmps91 Try.results91 rfl rfl (by simp) ?_)
  simp
  refine awDraw_E 8 [[],[0],[1,0],[2,1,0],[],[4],[5,4],[6,5,4],[3,2,1,0,7,6,5,4],[8,3,2,1,0,7,6,5,4]] (by kernel_rfl) (by kernel_rfl) ?_
  simp [e0, g0]
  refine awCall_det' (compare_s a.at_ b.at_ f1 f2) (by simp) ?_
  unfold ordN
  by_cases h1 : cmpF a.at_ b.at_ = 0
  · simp [h1]
    refine awDraw_E 8 [[],[0],[1,0],[2,1,0],[],[4],[5,4],[6,5,4],[3,2,1,0,7,6,5,4],[8,3,2,1,0,7,6,5,4]] (by kernel_rfl) (by kernel_rfl) ?_
    simp [c6, d6]
    by_cases h2 : a.o = b.o
    · simp [h2]
      refine awDraw_E 8 [[],[0],[1,0],[2,1,0],[],[4],[5,4],[6,5,4],[3,2,1,0,7,6,5,4],[8,3,2,1,0,7,6,5,4]] (by kernel_rfl) (by kernel_rfl) ?_
      simp (disch := omega) [c4, d4, h1, h2, wrap_in, Keeps.refl]
    · simp [h2]
      refine awDraw_E 8 [[],[0],[1,0],[2,1,0],[],[4],[5,4],[6,5,4],[3,2,1,0,7,6,5,4],[8,3,2,1,0,7,6,5,4]] (by kernel_rfl) (by kernel_rfl) ?_
      simp (disch := omega) [c6, d6, h1, h2, wrap_in, Keeps.refl]
  · have := cmpF_bd a.at_ b.at_
    simp (disch := omega) [h1, wrap_in, Keeps.refl]
theorem areNotes_i {M : Mem} {A : Option Addr} {n c : Nat} {l : List Note} (h : Sl noteR M A n l) (hn : n ≤ 1099511627776) : Det Try.prog M.length 93 [.slice A n c] M (.bool (l.all noteB)) M := by
  have hl := h.1
  first | (refine det_fn Try.func93 rfl Try.ntmps93 Try.results93 rfl rfl rfl (by simp) ?_) | (refine det_fnC Try.func93 rfl Try.ntmps93 Try.results93 rfl rfl (by simp) ?_)
  simp
  refine awLoop_T (fun m T M' => ∃ k : Nat, k + m = n ∧ Keeps M M' ∧ (l.take k).all noteB = true ∧ look T 7 = some (iv k) ∧ look T 6 = some (iv n) ∧ look T 5 = some (.slice A n c)) n ⟨0, by omega, Keeps.refl _, by simp, by simp, by simp, by simp⟩ ?_
  rintro m T M' ⟨k, hm, hK, ha, h7, h6, h5⟩
  have hKl := hK.len
  by_cases hlt : k < n
  · obtain ⟨id, off, rfl, he, hc⟩ := (h.keeps hK).at_ hlt
    have hld := note_load hc
    simp (disch := omega) [h7, h6, h5, hlt, he, hld]
    refine awCall_det' (isNote_i (el l k)) (by simp; omega) ?_
    by_cases hb : noteB (el l k) = true
    · simp (disch := omega) [hb, h7, h6, h5, wrap_in]
      refine lpI (m - 1) (by omega) ⟨k + 1, by omega, hK.app _, by rw [take_el (by omega), List.all_append, ha]; simp [hb], by simp, by simp [h6], by simp [h5]⟩
    · have hno : l.all noteB = false := by
        rw [List.all_eq_false]
        exact ⟨el l k, el_mem (by omega), hb⟩
      simp [hb, hno, hK.app]
  · obtain rfl : k = n := by omega
    rw [List.take_of_length_le (by omega)] at ha
    simp [h7, h6, h5, ha, hK]
def scoreB (l : List Note) : Bool := decide (l.length ≤ 60) && l.all noteB && decide (∀ i, i < l.length → 0 < i → ordN (el l (i - 1)) (el l i) < 0)
theorem all_el {l : List Note} (h : l.all noteB = true) {i : Nat} (hi : i < l.length) : noteB (el l i) = true := List.all_eq_true.1 h _ (el_mem hi)
theorem isScore_i {M : Mem} {A : Option Addr} {n c : Nat} {l : List Note} (h : Sl noteR M A n l) (hn : n ≤ 1099511627776) : Det Try.prog M.length 50 [.agg #[.slice A n c]] M (.bool (scoreB l)) M := by
  have hl := h.1
  first | (refine det_fn Try.func50 rfl Try.ntmps50 Try.results50 rfl rfl rfl (by simp) ?_) | (refine det_fnC Try.func50 rfl Try.ntmps50 Try.results50 rfl rfl (by simp) ?_)
  simp
  by_cases h1 : 60 < n
  · have h1' : (60 : Int) < n := by omega
    have e : scoreB l = false := by
      have : ¬ l.length ≤ 60 := by omega
      simp [scoreB, this]
    simp [h1, h1', e, keeps_app]
  have h1' : ¬ (60 : Int) < n := by omega
  simp [h1, h1']
  refine awCall_det' (areNotes_i (h.app _) (by omega)) (by simp) ?_
  by_cases h2 : l.all noteB = true
  · rw [h2]
    simp
    refine awLoop_T (fun m T M' => ∃ k : Nat, 0 < k ∧ (k + m = n ∨ (n = 0 ∧ k = 1 ∧ m = 0)) ∧ M' = M ++ [.live ⟨[.slice A n c], true, true, 30, 1⟩] ∧ (∀ i, i < k → 0 < i → ordN (el l (i - 1)) (el l i) < 0) ∧ look T 3 = some (iv k) ∧ look T 1 = some (.pointer (some ⟨M.length, 0, none⟩))) (n - 1) ⟨1, by omega, by omega, rfl, fun i hi h0 => by omega, by simp, by simp⟩ ?_
    rintro m T M' ⟨k, hk0, hm, rfl, hs, h3, h1''⟩
    by_cases hlt : k < n
    · obtain ⟨id, off, e1, he, hc⟩ := (h.app [.live ⟨[.slice A n c], true, true, 30, 1⟩]).at_ hlt
      obtain ⟨_, _, e2, -, hc'⟩ := (h.app [.live ⟨[.slice A n c], true, true, 30, 1⟩]).at_ (show k - 1 < n by omega)
      rw [e1] at e2
      cases e2
      subst e1
      have ld1 := note_load hc
      have ld2 := note_load hc'
      have et : ((k : Int) - 1).toNat = k - 1 := by omega
      simp [h3, h1'', hlt]
      refine awDraw_E 11 [[],[0],[],[2],[1,0,3,2],[4,1,0,3,2],[],[6],[],[7,6,8],[9,7,6,8],[5,4,1,0,3,2,10,9,7,6,8],[11,5,4,1,0,3,2,10,9,7,6,8]] (by kernel_rfl) (by kernel_rfl) ?_
      simp (disch := omega) [h3, h1'', hlt, he, ld1, ld2, wrap_in, et]
      try refine ⟨by omega, ?_⟩
      refine awCall_det' (compareNotes_i (el l (k - 1)) (el l k) (all_el h2 (by omega)) (all_el h2 (by omega))) (by simp) ?_
      by_cases h4 : 0 ≤ ordN (el l (k - 1)) (el l k)
      · have e : scoreB l = false := by
          unfold scoreB
          rw [decide_eq_false (p := ∀ i, _) (fun hh => by have := hh k (by omega) hk0; omega)]
          simp
        simp [h4, e, keeps_app]
      · simp (disch := omega) [h4, h3, h1'', wrap_in]
        refine lpI (m - 1) (by omega) ⟨k + 1, by omega, by omega, rfl, fun i hi h0 => ?_, by simp, by simp [h1'']⟩
        rcases Nat.lt_or_ge i k with h | h
        · exact hs i h h0
        · obtain rfl : i = k := by omega
          omega
    · have e : scoreB l = true := by
        unfold scoreB
        rw [decide_eq_true (show l.length ≤ 60 by omega), h2, decide_eq_true (fun i hi h0 => hs i (by omega) h0)]
        rfl
      simp [h3, h1'', hlt, e, keeps_app]
  · have e : scoreB l = false := by simp only [Bool.not_eq_true] at h2; simp [scoreB, h2]
    simp only [Bool.not_eq_true] at h2
    rw [h2]
    simp [e, keeps_app]
theorem l18Ok_a {M : Mem} {A : Option Addr} {n c id0 off0 : Nat} {l : List Note} (h : Sl noteR M A n l) (hr : cellAt M id0 off0 = some (.slice A n c)) (hn : n ≤ 1099511627776) : Det Try.prog M.length 47 [.pointer (some ⟨id0, off0, none⟩)] M (.bool (scoreB l)) M := by
  have hl := h.1
  first | (refine det_fn Try.func47 rfl Try.ntmps47 Try.results47 rfl rfl rfl (by simp) ?_) | (refine det_fnC Try.func47 rfl Try.ntmps47 Try.results47 rfl rfl (by simp) ?_)
  simp [hr]
  by_cases h1 : 60 < n
  · have h1' : (60 : Int) < n := by omega
    have e : scoreB l = false := by
      have : ¬ l.length ≤ 60 := by omega
      simp [scoreB, this]
    simp [h1, h1', e, Keeps.refl]
  have h1' : ¬ (60 : Int) < n := by omega
  simp [h1, h1']
  refine awLoop_T (fun m T M' => ∃ k : Nat, k + m = n ∧ M' = M ∧ (l.take k).all noteB = true ∧ (∀ i, i < k → 0 < i → ordN (el l (i - 1)) (el l i) < 0) ∧ look T 3 = some (iv k) ∧ look T 0 = some (.pointer (some ⟨id0, off0, none⟩))) n ⟨0, by omega, rfl, by simp, fun i hi h0 => by omega, by simp, by simp⟩ ?_
  rintro m T M' ⟨k, hm, rfl, ha, hs, h3, h0⟩
  by_cases hlt : k < n
  · obtain ⟨id, off, e1, he, hc⟩ := h.at_ hlt
    subst e1
    simp [h3, h0, hr, hlt]
    refine awDraw_E 25 [[],[0],[1,0],[2,1,0],[],[3,2,1,0,4],[5,3,2,1,0,4],[6,5,3,2,1,0,4],[7,6,5,3,2,1,0,4],[8,7,6,5,3,2,1,0,4],[9,8,7,6,5,3,2,1,0,4],[10,9,8,7,6,5,3,2,1,0,4],[11,10,9,8,7,6,5,3,2,1,0,4],[12,11,10,9,8,7,6,5,3,2,1,0,4],[13,12,11,10,9,8,7,6,5,3,2,1,0,4],[14,13,12,11,10,9,8,7,6,5,3,2,1,0,4],[11,10,9,8,7,6,5,3,2,1,0,4],[16,11,10,9,8,7,6,5,3,2,1,0,4],[15,14,13,12,11,10,9,8,7,6,5,3,2,1,0,4,17,16],[11,10,9,8,7,6,5,3,2,1,0,4],[19,11,10,9,8,7,6,5,3,2,1,0,4],[20,19,11,10,9,8,7,6,5,3,2,1,0,4],[21,20,19,11,10,9,8,7,6,5,3,2,1,0,4],[11,10,9,8,7,6,5,3,2,1,0,4],[22,21,20,19,11,10,9,8,7,6,5,3,2,1,0,4,23],[18,15,14,13,12,11,10,9,8,7,6,5,3,2,1,0,4,17,16,24,22,21,20,19,23],[25,18,15,14,13,12,11,10,9,8,7,6,5,3,2,1,0,4,17,16,24,22,21,20,19,23],[11,10,9,8,7,6,5,3,2,1,0,4,26,25,18,15,14,13,12,17,16,24,22,21,20,19,23],[8,7,6,5,3,2,1,0,4,27,11,10,9,26,25,18,15,14,13,12,17,16,24,22,21,20,19,23]] (by kernel_rfl) (by kernel_rfl) ?_
    simp (disch := omega) [h3, h0, hr, hlt, he]
    refine awCall_det' (l18Note_a hc) (by simp) ?_
    by_cases h2 : noteB (el l k) = true
    · have hta : (l.take (k + 1)).all noteB = true := by rw [take_el (by omega), List.all_append, ha]; simp [h2]
      by_cases hk0 : 0 < k
      · obtain ⟨_, _, e2, -, hc'⟩ := h.at_ (show k - 1 < n by omega)
        cases e2
        have et : ((k : Int) - 1).toNat = k - 1 := by omega
        have hk0' : (0 : Int) < k := by omega
        have hpv : noteB (el l (k - 1)) = true := by
          have := List.all_eq_true.1 ha (el (l.take k) (k - 1)) (el_mem (by rw [List.length_take]; omega))
          have e : el (l.take k) (k - 1) = el l (k - 1) := by
            conv => rhs; rw [← List.take_append_drop k l]
            rw [el_append_left (by rw [List.length_take]; omega)]
          rwa [e] at this
        simp (disch := omega) [h2, hk0, hk0', h3, h0, hr, he, et, wrap_in]
        refine ⟨⟨by omega, by omega⟩, hlt, ?_⟩
        refine awCall_det' (l18Order_a hc' hc hpv h2) (by simp) ?_
        by_cases h4 : 0 ≤ ordN (el l (k - 1)) (el l k)
        · have e : scoreB l = false := by
            unfold scoreB
            rw [decide_eq_false (p := ∀ i, _) (fun hh => by have := hh k (by omega) hk0; omega)]
            simp
          simp [h4, e, Keeps.refl]
        · simp (disch := omega) [h4, h3, h0, wrap_in]
          refine lpI (m - 1) (by omega) ⟨k + 1, by omega, rfl, hta, fun i hi h0 => ?_, by simp, by simp [h0]⟩
          rcases Nat.lt_or_ge i k with h | h
          · exact hs i h h0
          · obtain rfl : i = k := by omega
            omega
      · obtain rfl : k = 0 := by omega
        simp (disch := omega) [h2, h3, h0, wrap_in]
        refine lpI (m - 1) (by omega) ⟨1, by omega, rfl, hta, fun i hi h0 => by omega, by simp, by simp [h0]⟩
    · have e : scoreB l = false := by
        have : l.all noteB = false := by rw [List.all_eq_false]; exact ⟨el l k, el_mem (by omega), h2⟩
        simp [scoreB, this]
      simp [h2, e, Keeps.refl]
  · have e : scoreB l = true := by
      obtain rfl : k = n := by omega
      rw [List.take_of_length_le (by omega)] at ha
      unfold scoreB
      rw [decide_eq_true (show l.length ≤ 60 by omega), ha, decide_eq_true (fun i hi h0 => hs i (by omega) h0)]
      rfl
    simp [h3, h0, hr, hlt, e, Keeps.refl]
end Go.Proofs.Ytgaiejaegimilaa
