/- Parts of the proof, together: Notes and scores: valid ones, in both packages. The division of a score, in both packages. Tempo: records in memory, and the laws' helpers on them. TempoMap: a struct that holds a slice of records. Tempo maps, in plain words: positions of beats. Tempo maps: how the program comes to a position, in plain words. Fractions as rational numbers; positions grow with beats. No conditions. -/
import Derived.Test.YtimijeeihicohaaGreatZzPf20
import Derived.Test.YtimijeeihicohaaGreatZzPf19
import Derived.Test.YtimijeeihicohaaGreatZzPf9
import Derived.Laws.StructEq
namespace Go.Proofs.YtimijeeihicohaaGreat
open Go.RowKit
set_option linter.unusedVariables false
set_option linter.unusedSimpArgs false
set_option maxRecDepth 100000
attribute [local simp] List.getElem?_cons_zero
attribute [local irreducible] awCond awCall awLoop awDraw ow retQ retC resQ Keeps
def Note.at_ (n : Note) : Frac := ⟨n.an, n.ad⟩
def Note.len (n : Note) : Frac := ⟨n.ln, n.ld⟩
def noteB (n : Note) : Bool := beatB n.at_ && beatB n.len && decide (n.ln ≠ 0) && decide ((addF n.at_ n.len).2 = 0) && inB n.k 0 127 && inB n.u 1 127 && inB n.o 0 15
def ordN (a b : Note) : Int := if cmpF a.at_ b.at_ ≠ 0 then cmpF a.at_ b.at_ else if a.o ≠ b.o then a.o - b.o else a.k - b.k
theorem noteB_iff {n : Note} : noteB n = true ↔ beatB n.at_ = true ∧ beatB n.len = true ∧ n.ln ≠ 0 ∧ (addF n.at_ n.len).2 = 0 ∧ (0 ≤ n.k ∧ n.k ≤ 127) ∧ (1 ≤ n.u ∧ n.u ≤ 127) ∧ (0 ≤ n.o ∧ n.o ≤ 15) := by
  simp only [noteB, Bool.and_eq_true, decide_eq_true_eq, inB_iff, and_assoc]
theorem beatB_iff {f : Frac} : beatB f = true ↔ fracB f = true ∧ 0 ≤ f.n ∧ f.n ≤ 1000 * f.d := by
  simp only [beatB, Bool.and_eq_true, decide_eq_true_eq, and_assoc]
theorem cmpF_bd (a b : Frac) : -1 ≤ cmpF a b ∧ cmpF a b ≤ 1 := by
  unfold cmpF
  split
  · omega
  · split <;> omega
set_option maxHeartbeats 1000000 in
theorem isNote_i {M : Mem} (n : Note) : Det Tryz.prog M.length 175 [n.v] M (.bool (noteB n)) M := by
  first | (refine det_fn Tryz.func175 rfl Tryz.ntmps175 Tryz.results175 rfl rfl rfl (by simp) ?_) | (refine det_fnC Tryz.func175 rfl Tryz.ntmps175 Tryz.results175 rfl rfl (by simp) ?_)
  simp
  refine awCall_det' (isBeat_i n.at_) (by simp) ?_
  by_cases h1 : beatB n.at_ = true
  · simp [h1]
    refine awCall_det' (isBeat_i n.len) (by simp) ?_
    by_cases h2 : beatB n.len = true
    · simp [h2]
      by_cases h3 : n.ln = 0
      · have e : noteB n = false := by simp [noteB, h3]
        simp [h3, e, keeps_app]
      · simp [h3]
        refine awCall_det' (AddFrac_i n.at_ n.len) (by simp) ?_
        simp
        by_cases h4 : (addF n.at_ n.len).2 = 0
        · simp [h4]
          refine awCall_det' (isKey_a _) (by simp) ?_
          by_cases h5 : inB n.k 0 127 = true
          · simp [h5]
            refine awCall_det' (within_a _ _ _) (by simp) ?_
            by_cases h6 : inB n.u 1 127 = true
            · simp [h6]
              refine awCall_det' (within_a _ _ _) (by simp) ?_
              simp [noteB, h1, h2, h3, h4, h5, h6, keeps_app]
            · have e : noteB n = false := by simp [noteB, h6]
              simp [h6, e, keeps_app]
          · have e : noteB n = false := by simp [noteB, h5]
            simp [h5, e, keeps_app]
        · have e : noteB n = false := by simp [noteB, h4]
          simp [h4, e, keeps_app]
    · have e : noteB n = false := by simp [noteB, h2]
      simp [h2, e, keeps_app]
  · have e : noteB n = false := by simp [noteB, h1]
    simp [h1, e, keeps_app]
theorem l18Sum_a {M : Mem} (a b : Frac) : Det Tryz.prog M.length 164 [a.v, b.v] M (.tuple #[(addF a b).1.v, .bool (decide ((addF a b).2 = 0))]) M := by
  first | (refine det_fn Tryz.func164 rfl Tryz.ntmps164 Tryz.results164 rfl rfl rfl (by simp) ?_) | (refine det_fnC Tryz.func164 rfl Tryz.ntmps164 Tryz.results164 rfl rfl (by simp) ?_)
  simp
  refine awCall_det' (AddFrac_s a b) (by simp) ?_
  simp [keeps_app]
theorem note_cellsN {M : Mem} {id off : Nat} {n : Note} (h : Cl M id off n.row) : cellsAt M id off 2 = some [iv n.an, iv n.ad] ∧ cellsAt M id (off + 2) 2 = some [iv n.ln, iv n.ld] := by
  refine ⟨cellsAt_of (fun j x hx => ?_) rfl (by omega), cellsAt_of (fun j x hx => ?_) rfl (by omega)⟩
  · refine h j x ?_
    rcases j with _ | _ | j
    · exact hx
    · exact hx
    · simp at hx
  · have := h (2 + j) x (by
      rcases j with _ | _ | j
      · exact hx
      · exact hx
      · simp at hx)
    rwa [← Nat.add_assoc] at this
set_option maxHeartbeats 1000000 in
theorem l18Note_a {M : Mem} {id off : Nat} {n : Note} (hc : Cl M id off n.row) : Det Tryz.prog M.length 109 [.pointer (some ⟨id, off, none⟩)] M (.bool (noteB n)) M := by
  obtain ⟨c0, c1, c2, c3, c4, c5, c6⟩ := note_cells hc
  obtain ⟨d0, d2⟩ := note_cellsN hc
  first | (refine det_fn Tryz.func109 rfl Tryz.ntmps109 Tryz.results109 rfl rfl rfl (by simp) ?_) | (refine det_fnC Tryz.func109 rfl Tryz.ntmps109 Tryz.results109 rfl rfl (by simp) ?_)
  simp [c0, c1, c2, c3, c4, c5, c6, d0, d2]
  refine awCall_det' (l02Ok_a n.at_) (by simp) ?_
  by_cases f1 : fracB n.at_ = true
  · simp [f1, c0, c1, c2, c3, c4, c5, c6, d0, d2]
    refine awCall_det' (l17Beat_a n.at_ f1) (by simp) ?_
    by_cases h1 : beatB n.at_ = true
    · simp [h1, c0, c1, c2, c3, c4, c5, c6, d0, d2]
      refine awCall_det' (l02Ok_a n.len) (by simp) ?_
      by_cases f2 : fracB n.len = true
      · simp [f2, c0, c1, c2, c3, c4, c5, c6, d0, d2]
        refine awCall_det' (l17Beat_a n.len f2) (by simp) ?_
        by_cases h2 : beatB n.len = true
        · simp [h2, c0, c1, c2, c3, c4, c5, c6, d0, d2]
          by_cases h3 : n.ln = 0
          · have e : noteB n = false := by simp [noteB, h3]
            simp [h3, e, Keeps.refl]
          · simp [h3]
            refine awDraw_M 13 [[],[0],[1,0],[2,1,0],[],[4],[5,4],[6,5,4],[3,2,1,0,7,6,5,4],[8,3,2,1,0,7,6,5,4],[9,8,3,2,1,0,7,6,5,4],[9,8,3,2,1,0,7,6,5,4],[],[12,10,9,8,3,2,1,0,7,6,5,4],[11,9,8,3,2,1,0,7,6,5,4,13,12,10]] [11] (by kernel_rfl) (by decide +kernel) (by decide +kernel) ?_
            simp [c0, c1, c2, c3, c4, c5, c6, d0, d2]
            refine awCall_det' (l18Sum_a n.at_ n.len) (by simp) ?_
            simp
            have c4' := fun L => cellAt_app c4 L
            have c5' := fun L => cellAt_app c5 L
            have c6' := fun L => cellAt_app c6 L
            by_cases h4 : (addF n.at_ n.len).2 = 0
            · simp [h4, c4', c5', c6']
              refine awCall_det' (l00In_a _ _ _) (by simp) ?_
              by_cases h5 : inB n.k 0 127 = true
              · simp [h5, c4', c5', c6']
                refine awCall_det' (l00In_a _ _ _) (by simp) ?_
                by_cases h6 : inB n.u 1 127 = true
                · simp [h6, c4', c5', c6']
                  refine awCall_det' (l00In_a _ _ _) (by simp) ?_
                  simp [noteB, h1, h2, h3, h4, h5, h6, keeps_app]
                · have e : noteB n = false := by simp [noteB, h6]
                  simp [h6, e, keeps_app]
              · have e : noteB n = false := by simp [noteB, h5]
                simp [h5, e, keeps_app]
            · have e : noteB n = false := by simp [noteB, h4]
              simp [h4, e, keeps_app]
        · have e : noteB n = false := by simp [noteB, h2]
          simp [h2, e, Keeps.refl]
      · have e : noteB n = false := by simp [noteB, beatB, f2]
        simp [f2, e, Keeps.refl]
    · have e : noteB n = false := by simp [noteB, h1]
      simp [h1, e, Keeps.refl]
  · have e : noteB n = false := by simp [noteB, beatB, f1]
    simp [f1, e, Keeps.refl]
theorem compareNotes_i {M : Mem} (a b : Note) (ha : noteB a = true) (hb : noteB b = true) : Det Tryz.prog M.length 121 [a.v, b.v] M (iv (ordN a b)) M := by
  obtain ⟨a1, -, -, -, a5, a6, a7⟩ := noteB_iff.1 ha
  obtain ⟨b1, -, -, -, b5, b6, b7⟩ := noteB_iff.1 hb
  have f1 := (beatB_iff.1 a1).1
  have f2 := (beatB_iff.1 b1).1
  first | (refine det_fn Tryz.func121 rfl Tryz.ntmps121 Tryz.results121 rfl rfl rfl (by simp) ?_) | (refine det_fnC Tryz.func121 rfl Tryz.ntmps121 Tryz.results121 rfl rfl (by simp) ?_)
  simp
  refine awCall_det' (compare_i a.at_ b.at_ f1 f2) (by simp) ?_
  unfold ordN
  by_cases h1 : cmpF a.at_ b.at_ = 0
  · by_cases h2 : a.o = b.o
    · simp (disch := omega) [h1, h2, wrap_in, keeps_app]
    · simp (disch := omega) [h1, h2, wrap_in, keeps_app]
  · have := cmpF_bd a.at_ b.at_
    simp (disch := omega) [h1, wrap_in, keeps_app]
theorem l18Order_a {M : Mem} {id off id' off' : Nat} {a b : Note} (hca : Cl M id off a.row) (hcb : Cl M id' off' b.row) (ha : noteB a = true) (hb : noteB b = true) :
    Det Tryz.prog M.length 110 [.pointer (some ⟨id, off, none⟩), .pointer (some ⟨id', off', none⟩)] M (iv (ordN a b)) M := by
  obtain ⟨a1, -, -, -, a5, a6, a7⟩ := noteB_iff.1 ha
  obtain ⟨b1, -, -, -, b5, b6, b7⟩ := noteB_iff.1 hb
  have f1 := (beatB_iff.1 a1).1
  have f2 := (beatB_iff.1 b1).1
  obtain ⟨c0, c1, c2, c3, c4, c5, c6⟩ := note_cells hca
  obtain ⟨d0, d1, d2, d3, d4, d5, d6⟩ := note_cells hcb
  obtain ⟨e0, e2⟩ := note_cellsN hca
  obtain ⟨g0, g2⟩ := note_cellsN hcb
  first | (refine det_fn Tryz.func110 rfl Tryz.ntmps110 Tryz.results110 rfl rfl rfl (by simp) ?_) | (refine det_fnC Tryz.func110 rfl Tryz.ntmps110 Tryz.results110 rfl rfl (by simp) ?_)
  simp
  refine awDraw_E 8 [[],[0],[1,0],[2,1,0],[],[4],[5,4],[6,5,4],[3,2,1,0,7,6,5,4],[8,3,2,1,0,7,6,5,4]] (by kernel_rfl) (by kernel_rfl) ?_
  simp [e0, g0]
  refine awCall_det' (compare_s a.at_ b.at_ f1 f2) (by simp) ?_
  unfold ordN
  by_cases h1 : cmpF a.at_ b.at_ = 0
  · simp [h1]
    refine awDraw_E 8 [[],[0],[1,0],[2,1,0],[],[4],[5,4],[6,5,4],[3,2,1,0,7,6,5,4],[8,3,2,1,0,7,6,5,4]] (by kernel_rfl) (by kernel_rfl) ?_
    simp [c6, d6]
    by_cases h2 : a.o = b.o
    · simp [h2]
      refine awDraw_E 8 [[],[0],[1,0],[2,1,0],[],[4],[5,4],[6,5,4],[3,2,1,0,7,6,5,4],[8,3,2,1,0,7,6,5,4]] (by kernel_rfl) (by kernel_rfl) ?_
      simp (disch := omega) [c4, d4, h1, h2, wrap_in, Keeps.refl]
    · simp [h2]
      refine awDraw_E 8 [[],[0],[1,0],[2,1,0],[],[4],[5,4],[6,5,4],[3,2,1,0,7,6,5,4],[8,3,2,1,0,7,6,5,4]] (by kernel_rfl) (by kernel_rfl) ?_
      simp (disch := omega) [c6, d6, h1, h2, wrap_in, Keeps.refl]
  · have := cmpF_bd a.at_ b.at_
    simp (disch := omega) [h1, wrap_in, Keeps.refl]
theorem areNotes_i {M : Mem} {A : Option Addr} {n c : Nat} {l : List Note} (h : Sl noteR M A n l) (hn : n ≤ 1099511627776) : Det Tryz.prog M.length 120 [.slice A n c] M (.bool (l.all noteB)) M := by
  have hl := h.1
  first | (refine det_fn Tryz.func120 rfl Tryz.ntmps120 Tryz.results120 rfl rfl rfl (by simp) ?_) | (refine det_fnC Tryz.func120 rfl Tryz.ntmps120 Tryz.results120 rfl rfl (by simp) ?_)
  simp
  refine awLoop_T (fun m T M' => ∃ k : Nat, k + m = n ∧ Keeps M M' ∧ (l.take k).all noteB = true ∧ look T 7 = some (iv k) ∧ look T 6 = some (iv n) ∧ look T 5 = some (.slice A n c)) n ⟨0, by omega, Keeps.refl _, by simp, by simp, by simp, by simp⟩ ?_
  rintro m T M' ⟨k, hm, hK, ha, h7, h6, h5⟩
  have hKl := hK.len
  by_cases hlt : k < n
  · obtain ⟨id, off, rfl, he, hc⟩ := (h.keeps hK).at_ hlt
    have hld := note_load hc
    simp (disch := omega) [h7, h6, h5, hlt, he, hld]
    refine awCall_det' (isNote_i (el l k)) (by simp; omega) ?_
    by_cases hb : noteB (el l k) = true
    · simp (disch := omega) [hb, h7, h6, h5, wrap_in]
      refine lpI (m - 1) (by omega) ⟨k + 1, by omega, hK.app _, by rw [take_el (by omega), List.all_append, ha]; simp [hb], by simp, by simp [h6], by simp [h5]⟩
    · have hno : l.all noteB = false := by
        rw [List.all_eq_false]
        exact ⟨el l k, el_mem (by omega), hb⟩
      simp [hb, hno, hK.app]
  · obtain rfl : k = n := by omega
    rw [List.take_of_length_le (by omega)] at ha
    simp [h7, h6, h5, ha, hK]
def scoreB (l : List Note) : Bool := decide (l.length ≤ 60) && l.all noteB && decide (∀ i, i < l.length → 0 < i → ordN (el l (i - 1)) (el l i) < 0)
theorem all_el {l : List Note} (h : l.all noteB = true) {i : Nat} (hi : i < l.length) : noteB (el l i) = true := List.all_eq_true.1 h _ (el_mem hi)
theorem isScore_i {M : Mem} {A : Option Addr} {n c : Nat} {l : List Note} (h : Sl noteR M A n l) (hn : n ≤ 1099511627776) : Det Tryz.prog M.length 68 [.agg #[.slice A n c]] M (.bool (scoreB l)) M := by
  have hl := h.1
  first | (refine det_fn Tryz.func68 rfl Tryz.ntmps68 Tryz.results68 rfl rfl rfl (by simp) ?_) | (refine det_fnC Tryz.func68 rfl Tryz.ntmps68 Tryz.results68 rfl rfl (by simp) ?_)
  simp
  by_cases h1 : 60 < n
  · have h1' : (60 : Int) < n := by omega
    have e : scoreB l = false := by
      have : ¬ l.length ≤ 60 := by omega
      simp [scoreB, this]
    simp [h1, h1', e, keeps_app]
  have h1' : ¬ (60 : Int) < n := by omega
  simp [h1, h1']
  refine awCall_det' (areNotes_i (h.app _) (by omega)) (by simp) ?_
  by_cases h2 : l.all noteB = true
  · rw [h2]
    simp
    refine awLoop_T (fun m T M' => ∃ k : Nat, 0 < k ∧ (k + m = n ∨ (n = 0 ∧ k = 1 ∧ m = 0)) ∧ M' = M ++ [.live ⟨[.slice A n c], true, true, 70, 1⟩] ∧ (∀ i, i < k → 0 < i → ordN (el l (i - 1)) (el l i) < 0) ∧ look T 3 = some (iv k) ∧ look T 1 = some (.pointer (some ⟨M.length, 0, none⟩))) (n - 1) ⟨1, by omega, by omega, rfl, fun i hi h0 => by omega, by simp, by simp⟩ ?_
    rintro m T M' ⟨k, hk0, hm, rfl, hs, h3, h1''⟩
    by_cases hlt : k < n
    · obtain ⟨id, off, e1, he, hc⟩ := (h.app [.live ⟨[.slice A n c], true, true, 70, 1⟩]).at_ hlt
      obtain ⟨_, _, e2, -, hc'⟩ := (h.app [.live ⟨[.slice A n c], true, true, 70, 1⟩]).at_ (show k - 1 < n by omega)
      rw [e1] at e2
      cases e2
      subst e1
      have ld1 := note_load hc
      have ld2 := note_load hc'
      have et : ((k : Int) - 1).toNat = k - 1 := by omega
      simp [h3, h1'', hlt]
      refine awDraw_E 11 [[],[0],[],[2],[1,0,3,2],[4,1,0,3,2],[],[6],[],[7,6,8],[9,7,6,8],[5,4,1,0,3,2,10,9,7,6,8],[11,5,4,1,0,3,2,10,9,7,6,8]] (by kernel_rfl) (by kernel_rfl) ?_
      simp (disch := omega) [h3, h1'', hlt, he, ld1, ld2, wrap_in, et]
      try refine ⟨by omega, ?_⟩
      refine awCall_det' (compareNotes_i (el l (k - 1)) (el l k) (all_el h2 (by omega)) (all_el h2 (by omega))) (by simp) ?_
      by_cases h4 : 0 ≤ ordN (el l (k - 1)) (el l k)
      · have e : scoreB l = false := by
          unfold scoreB
          rw [decide_eq_false (p := ∀ i, _) (fun hh => by have := hh k (by omega) hk0; omega)]
          simp
        simp [h4, e, keeps_app]
      · simp (disch := omega) [h4, h3, h1'', wrap_in]
        refine lpI (m - 1) (by omega) ⟨k + 1, by omega, by omega, rfl, fun i hi h0 => ?_, by simp, by simp [h1'']⟩
        rcases Nat.lt_or_ge i k with h | h
        · exact hs i h h0
        · obtain rfl : i = k := by omega
          omega
    · have e : scoreB l = true := by
        unfold scoreB
        rw [decide_eq_true (show l.length ≤ 60 by omega), h2, decide_eq_true (fun i hi h0 => hs i (by omega) h0)]
        rfl
      simp [h3, h1'', hlt, e, keeps_app]
  · have e : scoreB l = false := by simp only [Bool.not_eq_true] at h2; simp [scoreB, h2]
    simp only [Bool.not_eq_true] at h2
    rw [h2]
    simp [e, keeps_app]
theorem l18Ok_a {M : Mem} {A : Option Addr} {n c id0 off0 : Nat} {l : List Note} (h : Sl noteR M A n l) (hr : cellAt M id0 off0 = some (.slice A n c)) (hn : n ≤ 1099511627776) : Det Tryz.prog M.length 60 [.pointer (some ⟨id0, off0, none⟩)] M (.bool (scoreB l)) M := by
  have hl := h.1
  first | (refine det_fn Tryz.func60 rfl Tryz.ntmps60 Tryz.results60 rfl rfl rfl (by simp) ?_) | (refine det_fnC Tryz.func60 rfl Tryz.ntmps60 Tryz.results60 rfl rfl (by simp) ?_)
  simp [hr]
  by_cases h1 : 60 < n
  · have h1' : (60 : Int) < n := by omega
    have e : scoreB l = false := by
      have : ¬ l.length ≤ 60 := by omega
      simp [scoreB, this]
    simp [h1, h1', e, Keeps.refl]
  have h1' : ¬ (60 : Int) < n := by omega
  simp [h1, h1']
  refine awLoop_T (fun m T M' => ∃ k : Nat, k + m = n ∧ M' = M ∧ (l.take k).all noteB = true ∧ (∀ i, i < k → 0 < i → ordN (el l (i - 1)) (el l i) < 0) ∧ look T 3 = some (iv k) ∧ look T 0 = some (.pointer (some ⟨id0, off0, none⟩))) n ⟨0, by omega, rfl, by simp, fun i hi h0 => by omega, by simp, by simp⟩ ?_
  rintro m T M' ⟨k, hm, rfl, ha, hs, h3, h0⟩
  by_cases hlt : k < n
  · obtain ⟨id, off, e1, he, hc⟩ := h.at_ hlt
    subst e1
    simp [h3, h0, hr, hlt]
    refine awDraw_E 25 [[],[0],[1,0],[2,1,0],[],[3,2,1,0,4],[5,3,2,1,0,4],[6,5,3,2,1,0,4],[7,6,5,3,2,1,0,4],[8,7,6,5,3,2,1,0,4],[9,8,7,6,5,3,2,1,0,4],[10,9,8,7,6,5,3,2,1,0,4],[11,10,9,8,7,6,5,3,2,1,0,4],[12,11,10,9,8,7,6,5,3,2,1,0,4],[13,12,11,10,9,8,7,6,5,3,2,1,0,4],[14,13,12,11,10,9,8,7,6,5,3,2,1,0,4],[11,10,9,8,7,6,5,3,2,1,0,4],[16,11,10,9,8,7,6,5,3,2,1,0,4],[15,14,13,12,11,10,9,8,7,6,5,3,2,1,0,4,17,16],[11,10,9,8,7,6,5,3,2,1,0,4],[19,11,10,9,8,7,6,5,3,2,1,0,4],[20,19,11,10,9,8,7,6,5,3,2,1,0,4],[21,20,19,11,10,9,8,7,6,5,3,2,1,0,4],[11,10,9,8,7,6,5,3,2,1,0,4],[22,21,20,19,11,10,9,8,7,6,5,3,2,1,0,4,23],[18,15,14,13,12,11,10,9,8,7,6,5,3,2,1,0,4,17,16,24,22,21,20,19,23],[25,18,15,14,13,12,11,10,9,8,7,6,5,3,2,1,0,4,17,16,24,22,21,20,19,23],[11,10,9,8,7,6,5,3,2,1,0,4,26,25,18,15,14,13,12,17,16,24,22,21,20,19,23],[8,7,6,5,3,2,1,0,4,27,11,10,9,26,25,18,15,14,13,12,17,16,24,22,21,20,19,23]] (by kernel_rfl) (by kernel_rfl) ?_
    simp (disch := omega) [h3, h0, hr, hlt, he]
    refine awCall_det' (l18Note_a hc) (by simp) ?_
    by_cases h2 : noteB (el l k) = true
    · have hta : (l.take (k + 1)).all noteB = true := by rw [take_el (by omega), List.all_append, ha]; simp [h2]
      by_cases hk0 : 0 < k
      · obtain ⟨_, _, e2, -, hc'⟩ := h.at_ (show k - 1 < n by omega)
        cases e2
        have et : ((k : Int) - 1).toNat = k - 1 := by omega
        have hk0' : (0 : Int) < k := by omega
        have hpv : noteB (el l (k - 1)) = true := by
          have := List.all_eq_true.1 ha (el (l.take k) (k - 1)) (el_mem (by rw [List.length_take]; omega))
          have e : el (l.take k) (k - 1) = el l (k - 1) := by
            conv => rhs; rw [← List.take_append_drop k l]
            rw [el_append_left (by rw [List.length_take]; omega)]
          rwa [e] at this
        simp (disch := omega) [h2, hk0, hk0', h3, h0, hr, he, et, wrap_in]
        refine ⟨⟨by omega, by omega⟩, hlt, ?_⟩
        refine awCall_det' (l18Order_a hc' hc hpv h2) (by simp) ?_
        by_cases h4 : 0 ≤ ordN (el l (k - 1)) (el l k)
        · have e : scoreB l = false := by
            unfold scoreB
            rw [decide_eq_false (p := ∀ i, _) (fun hh => by have := hh k (by omega) hk0; omega)]
            simp
          simp [h4, e, Keeps.refl]
        · simp (disch := omega) [h4, h3, h0, wrap_in]
          refine lpI (m - 1) (by omega) ⟨k + 1, by omega, rfl, hta, fun i hi h0 => ?_, by simp, by simp [h0]⟩
          rcases Nat.lt_or_ge i k with h | h
          · exact hs i h h0
          · obtain rfl : i = k := by omega
            omega
      · obtain rfl : k = 0 := by omega
        simp (disch := omega) [h2, h3, h0, wrap_in]
        refine lpI (m - 1) (by omega) ⟨1, by omega, rfl, hta, fun i hi h0 => by omega, by simp, by simp [h0]⟩
    · have e : scoreB l = false := by
        have : l.all noteB = false := by rw [List.all_eq_false]; exact ⟨el l k, el_mem (by omega), h2⟩
        simp [scoreB, this]
      simp [h2, e, Keeps.refl]
  · have e : scoreB l = true := by
      obtain rfl : k = n := by omega
      rw [List.take_of_length_le (by omega)] at ha
      unfold scoreB
      rw [decide_eq_true (show l.length ≤ 60 by omega), ha, decide_eq_true (fun i hi h0 => hs i (by omega) h0)]
      rfl
    simp [h3, h0, hr, hlt, e, Keeps.refl]
end Go.Proofs.YtimijeeihicohaaGreat

namespace Go.Proofs.YtimijeeihicohaaGreat
open Go.RowKit
set_option linter.unusedVariables false
set_option linter.unusedSimpArgs false
set_option maxRecDepth 100000
attribute [local simp] List.getElem?_cons_zero
attribute [local irreducible] awCond awCall awLoop awDraw ow retQ retC resQ Keeps
theorem addF_ok {a b : Frac} (h : (addF a b).2 = 0) : fracB (addF a b).1 = true := by
  unfold addF at h ⊢
  split at h
  · rename_i hab
    rw [if_pos hab]
    exact mkF_ok h
  · cases h
def Note.fin (n : Note) : Frac := (addF n.at_ n.len).1
theorem end_i {M : Mem} (n : Note) : Det Tryz.prog M.length 127 [n.v] M n.fin.v M := by
  first | (refine det_fn Tryz.func127 rfl Tryz.ntmps127 Tryz.results127 rfl rfl rfl (by simp) ?_) | (refine det_fnC Tryz.func127 rfl Tryz.ntmps127 Tryz.results127 rfl rfl (by simp) ?_)
  simp
  refine awCall_det' (AddFrac_i n.at_ n.len) (by simp) ?_
  simp [keeps_app, Note.fin]
end Go.Proofs.YtimijeeihicohaaGreat

namespace Go.Proofs.YtimijeeihicohaaGreat
open Go.RowKit
set_option linter.unusedVariables false
set_option linter.unusedSimpArgs false
set_option maxRecDepth 100000
attribute [local simp] List.getElem?_cons_zero
attribute [local irreducible] awCond awCall awLoop awDraw ow retQ retC resQ Keeps
structure Tempo where
  (bn bd s : Int)
deriving Inhabited, DecidableEq
def Tempo.row (c : Tempo) : List Value := [iv c.bn, iv c.bd, iv c.s]
def tempoR : RecV Tempo 3 := ⟨Tempo.row, fun _ => rfl⟩
abbrev Tempo.v (c : Tempo) : Value := .agg #[iv c.bn, iv c.bd, iv c.s]
theorem tempo_cells {M : Mem} {id off : Nat} {g : Tempo} (h : Cl M id off g.row) : cellAt M id off = some (iv g.bn) ∧ cellAt M id (off + 1) = some (iv g.bd) ∧ cellAt M id (off + 2) = some (iv g.s) :=
  ⟨h 0 _ rfl, h 1 _ rfl, h 2 _ rfl⟩
theorem tempo_load {M : Mem} {id off : Nat} {g : Tempo} (h : Cl M id off g.row) : cellsAt M id off 3 = some [iv g.bn, iv g.bd, iv g.s] := cellsAt_of h rfl (by omega)
theorem tempo_eq {a b : Tempo} : a = b ↔ a.bn = b.bn ∧ a.bd = b.bd ∧ a.s = b.s := by
  cases a; cases b; simp
def tempoI : Ints tempoR := ⟨fun zs => ⟨gi zs 0, gi zs 1, gi zs 2⟩, fun zs h => by
  obtain ⟨x0, x1, x2, rfl⟩ : ∃ x0 x1 x2, zs = [x0, x1, x2] := by
    match zs, h with
    | [x0, x1, x2], _ => exact ⟨x0, x1, x2, rfl⟩
  rfl⟩

@[simp] theorem tempo_fill (x0 x1 x2 : Int) : Instr.fill (fun i => some (i * 3, 3)) (zrow [iv 0, iv 0, iv 0] 1).toArray [(0, .agg #[iv x0, iv x1, iv x2])] = some #[iv x0, iv x1, iv x2] := fill_agg (by omega) rfl rfl
theorem toTempo_a {M : Mem} (g : Tempo) : Det Tryz.prog M.length 116 [g.v] M g.v M := by
  first | (refine det_fn Tryz.func116 rfl Tryz.ntmps116 Tryz.results116 rfl rfl rfl (by simp) ?_) | (refine det_fnC Tryz.func116 rfl Tryz.ntmps116 Tryz.results116 rfl rfl (by simp) ?_)
  simp
  refine awCall_det' (toFrac_a ⟨g.bn, g.bd⟩) (by simp) ?_
  simp [keeps_app]
theorem eqTempo_a {M : Mem} (a b : Tempo) : Det Tryz.prog M.length 132 [a.v, b.v] M (.bool (decide (a = b))) M := by
  first | (refine det_fn Tryz.func132 rfl Tryz.ntmps132 Tryz.results132 rfl rfl rfl (by simp) ?_) | (refine det_fnC Tryz.func132 rfl Tryz.ntmps132 Tryz.results132 rfl rfl (by simp) ?_)
  simp
  refine awCall_det' (eqFrac_a ⟨a.bn, a.bd⟩ ⟨b.bn, b.bd⟩) (by simp) ?_
  by_cases e0 : (⟨a.bn, a.bd⟩ : Frac) = ⟨b.bn, b.bd⟩
  case' neg => simp [e0, keeps_app]; intro e; subst e; exact absurd rfl e0
  simp only [frac_eq] at e0
  simp [e0]
  repeat' (first | (refine awCond_split ?_ ?_ <;> intro _) | (simp [keeps_app]))
  all_goals (simp_all [tempo_eq])
theorem szTempoS_a {M : Mem} {A : Option Addr} {n c : Nat} (z : Int) (hz : 0 ≤ z) (hz1 : z ≤ 1048576) (hn : n ≤ maxLen) : Det Tryz.prog M.length 58 [.slice A n c, iv z] M (iv (if z - n < 0 then -1 else z - n)) M := by
  unfold maxLen at hn
  first | (refine det_fn Tryz.func58 rfl Tryz.ntmps58 Tryz.results58 rfl rfl rfl (by simp) ?_) | (refine det_fnC Tryz.func58 rfl Tryz.ntmps58 Tryz.results58 rfl rfl (by simp) ?_)
  simp (disch := omega) [wrap_in]
  refine awCond_split ?_ ?_ <;> intro h
  · simp at h
    simp [h, Keeps.refl]
    try omega
  · simp at h
    simp [h, Keeps.refl]
    try omega
theorem toTempoS_d {M : Mem} {A : Option Addr} {n c : Nat} {l : List Tempo} (h : Sl tempoR M A n l) (hn : n ≤ 1099511627776) : Det Tryz.prog M.length 66 [.slice A n c] M (.slice (some ⟨M.length, 0, none⟩) n n) (M ++ [.live ⟨cellsL tempoR l, true, true, 169, 3⟩]) := by
  have hl := h.1
  refine Ctr.det ?_
  first | (refine ctr_fn Tryz.func66 rfl Tryz.ntmps66 Tryz.results66 rfl rfl (by simp) ?_) | (refine ctr_fnC Tryz.func66 rfl Tryz.ntmps66 Tryz.results66 rfl (by simp) ?_)
  simp
  refine ⟨by omega, ?_⟩
  refine awLoop_T (fun m T M' => ∃ k : Nat, k + m = n ∧ M' = M ++ [.live ⟨cellsL tempoR (l.take k) ++ zrow [iv 0, iv 0, iv 0] m, true, true, 169, 3⟩] ∧ look T 4 = some (iv k) ∧ look T 0 = some (.slice A n c) ∧ look T 3 = some (.slice (some ⟨M.length, 0, none⟩) n n)) n ⟨0, by omega, by simp [cellsL_nil], by simp, by simp, by simp⟩ ?_
  rintro m T M' ⟨k, hm, rfl, h4, h0, h3⟩
  by_cases hlt : k < n
  · obtain ⟨id, off, rfl, he, hc⟩ := h.at_ hlt
    have hc' := hc.app [.live ⟨cellsL tempoR (l.take k) ++ zrow [iv 0, iv 0, iv 0] m, true, true, 169, 3⟩]
    simp (disch := omega) [h3, h4, h0, hlt, wrap_in, tempo_load hc']
    obtain ⟨m, rfl⟩ : ∃ m', m = m' + 1 := ⟨m - 1, by omega⟩
    refine awCall_det' ((toTempo_a (el l k))) (by simp) ⟨by simp, ow_iff.2 ⟨_, putCells_rec tempoR (a := el l k) (Nat.le_refl _) rfl (List.length_take_of_le (by omega)) rfl, ?_⟩⟩
    refine lpI m (by omega) ?_
    refine ⟨k + 1, by omega, by rw [take_el (by omega)], by simp, by simp [h0], by simp [h3]⟩
  · obtain rfl : k = n := by omega
    obtain rfl : m = 0 := by omega
    simp [h3, h4, h0, List.take_of_length_le (Nat.le_of_eq hl)]
theorem eqTempoS_a {M : Mem} {A B : Option Addr} {n c m d : Nat} {x y : List Tempo} (hx : Sl tempoR M A n x) (hy : Sl tempoR M B m y) (hn : n ≤ 1099511627776) : Det Tryz.prog M.length 75 [.slice A n c, .slice B m d] M (.bool (decide (x = y))) M := by
  have hlx := hx.1
  have hly := hy.1
  first | (refine det_fn Tryz.func75 rfl Tryz.ntmps75 Tryz.results75 rfl rfl rfl (by simp) ?_) | (refine det_fnC Tryz.func75 rfl Tryz.ntmps75 Tryz.results75 rfl rfl (by simp) ?_)
  simp
  refine awCond_split ?_ ?_ <;> intro hnm
  · simp at hnm
    simp
    exact ⟨fun e => by subst e; omega, Keeps.refl _⟩
  · simp at hnm
    obtain rfl : n = m := by omega
    simp
    refine awLoop_T (fun m T M' => ∃ k : Nat, k + m = n ∧ M' = M ∧ look T 5 = some (iv k) ∧ look T 0 = some (.slice A n c) ∧ look T 1 = some (.slice B n d) ∧ x.take k = y.take k) n ⟨0, by omega, rfl, by simp, by simp, by simp, by simp⟩ ?_
    rintro m T M' ⟨k, hm, rfl, h4, h0, h1, hk⟩
    by_cases hlt : k < n
    · obtain ⟨id, off, rfl, he, hc⟩ := hx.at_ hlt
      obtain ⟨id', off', rfl, he', hc'⟩ := hy.at_ hlt
      simp (disch := omega) [h4, h0, h1, hlt, wrap_in]
      refine awDraw_E 8 [[],[],[0,1],[2,0,1],[],[],[4,5],[6,4,5],[3,2,0,1,7,6,4,5],[8,3,2,0,1,7,6,4,5]] (by kernel_rfl) (by kernel_rfl) ?_
      simp (disch := omega) [h4, h0, h1, hlt, wrap_in, tempo_load hc, tempo_load hc']
      refine awCall_det' (eqTempo_a (el x k) (el y k)) (Nat.le_refl _) ?_
      simp
      refine awCond_split ?_ ?_ <;> intro he
      · simp at he
        simp
        exact ⟨fun e => he (by rw [e]), Keeps.refl _⟩
      · simp at he
        simp (disch := omega) [h4, h0, h1, wrap_in]
        refine lpI (m - 1) (by omega) ?_
        exact ⟨k + 1, by omega, rfl, by simp, by simp [h0], by simp [h1], by rw [take_el (by omega), take_el (by omega), hk, he]⟩
    · obtain rfl : k = n := by omega
      rw [List.take_of_length_le (by omega), List.take_of_length_le (by omega)] at hk
      simp [h4, h0, h1, hk, Keeps.refl]
def markTempo (z : Int) (i : Nat) : Tempo := ⟨z + i * 3, z + i * 3 + 1, z + i * 3 + 1 + 1⟩
def markTempoL (z : Int) (n : Nat) : List Tempo := (List.range n).map (markTempo z)
theorem markTempoL_succ (z : Int) (n : Nat) : markTempoL z (n + 1) = markTempoL z n ++ [markTempo z n] := by simp [markTempoL, List.range_succ]
theorem markTempoS_a {M : Mem} {b : Nat} {A : Option Addr} {n c : Nat} {x : List Tempo} (z : Int) (hx : Sl tempoR M A n x) (ho : Ownd M A n) (hb : ∀ a, A = some a → 0 < n → b ≤ a.block) (hn : n ≤ 1099511627776) (hz0 : 0 ≤ z) (hz : z ≤ 1152921504606846976) :
    Ctr Tryz.prog b 77 [.slice A n c, iv z] M fun v M' => v = iv (z + n * 3) ∧ Sl tempoR M' A n (markTempoL z n) ∧ Ownd M' A n ∧ Turned A n M M' := by
  have hlx := hx.1
  rcases Nat.eq_zero_or_pos n with rfl | hp
  · first | (refine ctr_fn Tryz.func77 rfl Tryz.ntmps77 Tryz.results77 rfl rfl (by simp) ?_) | (refine ctr_fnC Tryz.func77 rfl Tryz.ntmps77 Tryz.results77 rfl (by simp) ?_)
    simp
    refine awLoop_T (fun m T M' => M' = M ∧ look T 1 = some (iv z) ∧ look T 5 = some (iv 0) ∧ look T 0 = some (.slice A 0 c)) 0 ⟨rfl, by simp, by simp, by simp⟩ ?_
    rintro m T M' ⟨rfl, h1, h3, h0⟩
    simp [h1, h3, h0]
    obtain rfl := List.eq_nil_of_length_eq_zero hlx
    exact ⟨hx, ho, rfl, fun i s hs _ => hs⟩
  · obtain ⟨id, off, r, rfl, hr, ho⟩ := ho hp
    have hid := (List.getElem?_eq_some_iff.1 hr).1
    obtain ⟨hz5, hlen⟩ := hx.cells hr hp (by omega)
    have hb' : b ≤ id := hb _ rfl hp
    obtain ⟨cs, own, t, e, esz⟩ := r
    simp only at hz5 hlen ho
    subst hz5 ho
    have hM : M = M.set id (.live ⟨cs.take off ++ cellsL tempoR (markTempoL z 0) ++ cs.drop (off + 0 * 3), true, t, e, 3⟩) := by
      rw [set_self]
      simp [markTempoL, cellsL_nil, hr]
    first | (refine ctr_fn Tryz.func77 rfl Tryz.ntmps77 Tryz.results77 rfl rfl (by simp) ?_) | (refine ctr_fnC Tryz.func77 rfl Tryz.ntmps77 Tryz.results77 rfl (by simp) ?_)
    simp
    refine awLoop_T (fun m T M' => ∃ j : Nat, j + m = n ∧ M' = M.set id (.live ⟨cs.take off ++ cellsL tempoR (markTempoL z j) ++ cs.drop (off + j * 3), true, t, e, 3⟩) ∧ look T 5 = some (iv j) ∧ look T 1 = some (iv (z + j * 3)) ∧ look T 0 = some (.slice (some ⟨id, off, none⟩) n c)) n ⟨0, by omega, hM, by simp, by simp, by simp⟩ ?_
    rintro m T M' ⟨j, hm, rfl, h5, h1, h0⟩
    have hlm : (markTempoL z j).length = j := by simp [markTempoL]
    by_cases hlt : j < n
    · have hsp := splice_mid tempoR (cs := cs) (off := off) (a := markTempo z j) hlm (by omega)
      have hlc : (cs.take off ++ cellsL tempoR (markTempoL z j) ++ cs.drop (off + j * 3)).length = cs.length := by
        simp only [List.length_append, List.length_take, List.length_drop, cellsL_len, hlm]; omega
      generalize cs.take off ++ cellsL tempoR (markTempoL z j) ++ cs.drop (off + j * 3) = Cs at hsp hlc ⊢
      simp (disch := first | omega | (simp <;> omega)) [h5, h1, h0, hlt, wrap_in, rowEsz_set hid, put_set hid hb']
      refine lpI (m - 1) (by omega) ?_
      refine ⟨j + 1, by omega, ?_, by simp, by simp; omega, by simp [h0]⟩
      rw [markTempoL_succ, ← hsp]
      rfl
    · obtain rfl : j = n := by omega
      have hS := Sl.set (R := tempoR) (M := M) (pre := cs.take off) (post := cs.drop (off + j * 3)) (o := true) (t := t) (e := e) hid (List.length_take_of_le (by omega)) hlm
      have hO : Ownd (M.set id (.live ⟨cs.take off ++ cellsL tempoR (markTempoL z j) ++ cs.drop (off + j * 3), true, t, e, 3⟩)) (some ⟨id, off, none⟩) j := fun _ => ⟨_, _, _, rfl, List.getElem?_set_self hid, rfl⟩
      have hT : Turned (some ⟨id, off, none⟩) j M (M.set id (.live ⟨cs.take off ++ cellsL tempoR (markTempoL z j) ++ cs.drop (off + j * 3), true, t, e, 3⟩)) := set_turned hp
      generalize M.set id (.live ⟨cs.take off ++ cellsL tempoR (markTempoL z j) ++ cs.drop (off + j * 3), true, t, e, 3⟩) = M' at hS hO hT ⊢
      simp [h5, h1, h0]
      exact ⟨hS, hO, hT⟩
/-! The same, as the laws use them. -/
theorem sz_TempoS_over {M : Mem} {v : Value} {lo hi : Nat} {l : List Tempo} {z : Int} (h : RdL tempoR lo hi M v l) (hz : 0 ≤ z) (hz1 : z ≤ 1048576) (hl : z < l.length) : Det Tryz.prog M.length 58 [v, iv z] M (iv (-1)) M := by
  obtain ⟨A, n, c, rfl, hn, hS, _⟩ := h
  have := szTempoS_a (M := M) (A := A) (n := n) (c := c) z hz hz1 (by unfold maxLen; omega)
  rwa [if_pos (by have := hS.1; omega)] at this
theorem sz_TempoS {M : Mem} {v : Value} {lo hi : Nat} {l : List Tempo} {z : Int} (h : RdL tempoR lo hi M v l) (hz : 0 ≤ z) (hz1 : z ≤ 1048576) (hl : l.length ≤ z) : Det Tryz.prog M.length 58 [v, iv z] M (iv (z - l.length)) M := by
  obtain ⟨A, n, c, rfl, hn, hS, _⟩ := h
  have := szTempoS_a (M := M) (A := A) (n := n) (c := c) z hz hz1 (by unfold maxLen; omega)
  rw [if_neg (by have := hS.1; omega)] at this
  rwa [hS.1]
theorem eq_TempoS {M : Mem} {v w : Value} {lo hi lo' hi' : Nat} {x y : List Tempo} (hx : OwL tempoR lo hi M v x) (hy : RdL tempoR lo' hi' M w y) : Det Tryz.prog M.length 75 [v, w] M (.bool (decide (x = y))) M := by
  obtain ⟨A, n, c, rfl, hn, hS, _⟩ := hx
  obtain ⟨B, m, d, rfl, hm, hT, _⟩ := hy
  exact eqTempoS_a hS hT hn
theorem mark_TempoS {M : Mem} {b : Nat} {v : Value} {lo hi : Nat} {l : List Tempo} {z : Int} (h : OwL tempoR lo hi M v l) (hb : b ≤ lo) (hz : 0 ≤ z) (hz1 : z ≤ 1152921504606846976) :
    Ctr Tryz.prog b 77 [v, iv z] M fun r M' => r = iv (z + l.length * 3) ∧ OwL tempoR lo hi M' v (markTempoL z l.length) ∧ Turn lo hi M M' := by
  obtain ⟨A, n, c, rfl, hn, hS, hi', ho⟩ := h
  exact (markTempoS_a z hS ho (fun a e hp => by have := hi' a e hp; omega) hn hz hz1).mono fun r M' ⟨h1, h2, h3, h4⟩ => ⟨by rw [h1, hS.1], ⟨A, n, c, rfl, hn, by rw [hS.1]; exact h2, hi', h3⟩, Nat.le_of_eq h4.1.symm, fun i s hs hd => h4.2 i s hs fun a e hp => by have := hi' a e hp; omega⟩
end Go.Proofs.YtimijeeihicohaaGreat

namespace Go.Proofs.YtimijeeihicohaaGreat
open Go.RowKit
set_option linter.unusedVariables false
set_option linter.unusedSimpArgs false
set_option maxRecDepth 100000
attribute [local simp] List.getElem?_cons_zero
attribute [local irreducible] awCond awCall awLoop awDraw ow retQ retC resQ Keeps
theorem sz_TempoMap_over {M : Mem} {v : Value} {lo hi : Nat} {l : List Tempo} {z : Int} (h : RdL tempoR lo hi M v l) (hz : 0 ≤ z) (hz1 : z ≤ 1048576) (hl : z < l.length) : Det Tryz.prog M.length 28 [.agg #[v], iv z] M (iv (-1)) M := by
  first | (refine det_fn Tryz.func28 rfl Tryz.ntmps28 Tryz.results28 rfl rfl rfl (by simp) ?_) | (refine det_fnC Tryz.func28 rfl Tryz.ntmps28 Tryz.results28 rfl rfl (by simp) ?_)
  simp
  refine awCall_det' (sz_TempoS_over (h.keeps (keeps_app _)) hz hz1 hl) (by simp) ?_
  simp [keeps_app]
theorem sz_TempoMap {M : Mem} {v : Value} {lo hi : Nat} {l : List Tempo} {z : Int} (h : RdL tempoR lo hi M v l) (hz : 0 ≤ z) (hz1 : z ≤ 1048576) (hl : l.length ≤ z) : Det Tryz.prog M.length 28 [.agg #[v], iv z] M (iv (z - l.length)) M := by
  first | (refine det_fn Tryz.func28 rfl Tryz.ntmps28 Tryz.results28 rfl rfl rfl (by simp) ?_) | (refine det_fnC Tryz.func28 rfl Tryz.ntmps28 Tryz.results28 rfl rfl (by simp) ?_)
  simp
  refine awCall_det' (sz_TempoS (h.keeps (keeps_app _)) hz hz1 hl) (by simp) ?_
  have h0 : ¬ z - l.length < 0 := by omega
  simp [keeps_app, h0]
theorem to_TempoMap_d {M : Mem} {v : Value} {lo hi : Nat} {l : List Tempo} (h : RdL tempoR lo hi M v l) (hl : l.length ≤ 1048576) : ∃ u N, Det Tryz.prog M.length 31 [.agg #[v]] M (.agg #[u]) (M ++ N) ∧ OwL tempoR M.length (M ++ N).length (M ++ N) u l := by
  obtain ⟨A, n, c, rfl, hn, hS, _⟩ := h
  have hl' := hS.1
  refine ⟨.slice (some ⟨M.length + 3, 0, none⟩) n n, [.live ⟨[.slice A n c], true, true, 64, 1⟩, .live ⟨[.slice (some ⟨M.length + 3, 0, none⟩) n n], true, true, 74, 1⟩, .live ⟨[.slice (some ⟨M.length + 3, 0, none⟩) n n], true, true, 74, 1⟩, .live ⟨cellsL tempoR l, true, true, 169, 3⟩], ?_, ?_⟩
  · refine Ctr.det ?_
    first | (refine ctr_fn Tryz.func31 rfl Tryz.ntmps31 Tryz.results31 rfl rfl (by simp) ?_) | (refine ctr_fnC Tryz.func31 rfl Tryz.ntmps31 Tryz.results31 rfl (by simp) ?_)
    simp
    refine awCall_det' ((toTempoS_d (hS.keeps (keeps_app _)) (by omega))) (by simp) ?_
    simp
  · refine ⟨_, n, n, rfl, by omega, ⟨hl', fun _ => ⟨M.length + 3, 0, rfl, by simp [rowEsz], fun j x hx => by simp [cellAt, hx]⟩⟩, fun a e _ => by injection e with e; subst e; simp, fun _ => ⟨_, _, ⟨cellsL tempoR l, true, true, 169, 3⟩, rfl, by simp, rfl⟩⟩
theorem eq_TempoMap {M : Mem} {v w : Value} {lo hi lo' hi' : Nat} {x y : List Tempo} (hx : OwL tempoR lo hi M v x) (hy : RdL tempoR lo' hi' M w y) : Det Tryz.prog M.length 34 [.agg #[v], .agg #[w]] M (.bool (decide (x = y))) M := by
  first | (refine det_fn Tryz.func34 rfl Tryz.ntmps34 Tryz.results34 rfl rfl rfl (by simp) ?_) | (refine det_fnC Tryz.func34 rfl Tryz.ntmps34 Tryz.results34 rfl rfl (by simp) ?_)
  simp
  refine awCall_det' (eq_TempoS (hx.keeps (keeps_app _)) (hy.keeps (keeps_app _))) (by simp) ?_
  by_cases e : x = y
  · simp [keeps_app, e]
  · simp [keeps_app, e]
theorem mark_TempoMap {M : Mem} {b : Nat} {v : Value} {lo hi : Nat} {l : List Tempo} {z : Int} (h : OwL tempoR lo hi M v l) (hb : b ≤ lo) (hz : 0 ≤ z) (hz1 : z ≤ 1152921504606846976) :
    Ctr Tryz.prog b 36 [.agg #[v], iv z] M fun r M' => r = iv (z + l.length * 3) ∧ OwL tempoR lo hi M' v (markTempoL z l.length) ∧ Turn lo hi M M' := by
  first | (refine ctr_fn Tryz.func36 rfl Tryz.ntmps36 Tryz.results36 rfl rfl (by simp) ?_) | (refine ctr_fnC Tryz.func36 rfl Tryz.ntmps36 Tryz.results36 rfl (by simp) ?_)
  simp
  refine awCall_ctr (mark_TempoS (h.keeps (keeps_app _)) hb hz hz1) ?_
  rintro _ M' ⟨rfl, o, ht⟩
  simp
  exact ⟨o, ht.app⟩
end Go.Proofs.YtimijeeihicohaaGreat

namespace Go.Proofs.YtimijeeihicohaaGreat
open Go.RowKit
set_option linter.unusedVariables false
set_option linter.unusedSimpArgs false
set_option maxRecDepth 100000
attribute [local simp] List.getElem?_cons_zero
attribute [local irreducible] awCond awCall awLoop awDraw ow retQ retC resQ Keeps
def Tempo.beat (t : Tempo) : Frac := ⟨t.bn, t.bd⟩
/-- A position behind another one, by a difference of beats times some samples; and a code. -/
def onF (frm beat : Frac) (s : Int) (at_ : Frac) : Frac × Int :=
  if (subF beat frm).2 ≠ 0 then (at_, (subF beat frm).2) else
  if (mulF (subF beat frm).1 ⟨s, 1⟩).2 ≠ 0 then (at_, (mulF (subF beat frm).1 ⟨s, 1⟩).2) else addF at_ (mulF (subF beat frm).1 ⟨s, 1⟩).1
def onY (frm beat : Frac) (s : Int) (at_ : Frac) : Frac := (addF at_ (mulF (subF beat frm).1 ⟨s, 1⟩).1).1
def onOk (frm beat : Frac) (s : Int) (at_ : Frac) : Bool := decide ((subF beat frm).2 = 0) && decide ((mulF (subF beat frm).1 ⟨s, 1⟩).2 = 0) && decide ((addF at_ (mulF (subF beat frm).1 ⟨s, 1⟩).1).2 = 0)
theorem onOk_iff {frm beat at_ : Frac} {s : Int} : onOk frm beat s at_ = true ↔ (onF frm beat s at_).2 = 0 := by
  unfold onOk onF
  simp only [Bool.and_eq_true, decide_eq_true_eq]
  constructor
  · rintro ⟨⟨h1, h2⟩, h3⟩
    rw [if_neg (by omega), if_neg (by omega)]
    exact h3
  · intro h
    split at h
    · rename_i h1; exact absurd h h1
    · rename_i h1
      split at h
      · rename_i h2; exact absurd h h2
      · rename_i h2
        exact ⟨⟨by omega, by omega⟩, h⟩
theorem onY_eq {frm beat at_ : Frac} {s : Int} (h : (onF frm beat s at_).2 = 0) : onY frm beat s at_ = (onF frm beat s at_).1 := by
  unfold onY
  unfold onF at h ⊢
  split at h
  · rename_i h1; exact absurd h h1
  · rename_i h1
    rw [if_neg h1]
    split at h
    · rename_i h2; exact absurd h h2
    · rename_i h2
      rw [if_neg h2]
theorem mkF_code {n d : Int} (hd : d ≠ 0) : (mkF n d).2 = 0 ∨ (mkF n d).2 = 2 := by
  unfold mkF
  rw [if_neg hd]
  split
  · exact .inr rfl
  · exact .inl rfl
theorem addF_code {a b : Frac} (ha : fracB a = true) (hb : fracB b = true) : (addF a b).2 = 0 ∨ (addF a b).2 = 2 := by
  obtain ⟨-, -, h, -⟩ := frac_bd ha hb
  unfold addF
  rw [if_pos ⟨ha, hb⟩]
  exact mkF_code (by omega)
theorem subF_code {a b : Frac} (ha : fracB a = true) (hb : fracB b = true) : (subF a b).2 = 0 ∨ (subF a b).2 = 2 := by
  obtain ⟨-, -, h, -⟩ := frac_bd ha hb
  unfold subF
  rw [if_pos ⟨ha, hb⟩]
  exact mkF_code (by omega)
theorem mulF_code {a b : Frac} (ha : fracB a = true) (hb : fracB b = true) : (mulF a b).2 = 0 ∨ (mulF a b).2 = 2 := by
  obtain ⟨-, -, h, -⟩ := frac_bd ha hb
  unfold mulF
  rw [if_pos ⟨ha, hb⟩]
  exact mkF_code (by omega)
theorem subF_ok {a b : Frac} (h : (subF a b).2 = 0) : fracB (subF a b).1 = true := by
  unfold subF at h ⊢
  split at h
  · rename_i hab
    rw [if_pos hab]
    exact mkF_ok h
  · cases h
theorem mulF_ok {a b : Frac} (h : (mulF a b).2 = 0) : fracB (mulF a b).1 = true := by
  unfold mulF at h ⊢
  split at h
  · rename_i hab
    rw [if_pos hab]
    exact mkF_ok h
  · cases h
theorem onF_ok {frm beat at_ : Frac} {s : Int} (h : (onF frm beat s at_).2 = 0) : fracB (onF frm beat s at_).1 = true := by
  unfold onF at h ⊢
  split at h
  · rename_i h1; exact absurd h h1
  · rename_i h1
    rw [if_neg h1]
    split at h
    · rename_i h2; exact absurd h h2
    · rename_i h2
      rw [if_neg h2]
      exact addF_ok h
theorem onF_code {frm beat at_ : Frac} {s : Int} (h1 : fracB frm = true) (h2 : fracB beat = true) (h3 : fracB at_ = true) (hs : 1 ≤ s ∧ s ≤ 1000) : (onF frm beat s at_).2 = 0 ∨ (onF frm beat s at_).2 = 2 := by
  have hc := subF_code h2 h1
  unfold onF
  split
  · rename_i h; simp only; omega
  · rename_i h
    have hd := subF_ok (a := beat) (b := frm) (by omega)
    have hc2 := mulF_code hd (whole_ok (n := s) (by omega) (by omega))
    split
    · rename_i h'; simp only; omega
    · rename_i h'
      exact addF_code h3 (mulF_ok (by omega))
theorem mkF_zero {d : Int} (hd : 0 < d) : mkF 0 d = (⟨0, 1⟩, 0) := by
  unfold mkF
  rw [if_neg (by omega)]
  have e : (0 : Int).natAbs.gcd d.natAbs = d.natAbs := by simp
  rw [e]
  have e2 : d.natAbs / d.natAbs = 1 := Nat.div_self (by omega)
  have hd' : ¬ d < 0 := by omega
  simp [e2, hd']
theorem zero_ok : fracB ⟨0, 1⟩ = true := by decide
/-- At a beat of one's own nothing is added. -/
theorem onF_self {b at_ : Frac} {s : Int} (hb : fracB b = true) (ha : fracB at_ = true) (hs : 1 ≤ s ∧ s ≤ 1000) : onF b b s at_ = (at_, 0) := by
  obtain ⟨-, -, h3, -⟩ := frac_bd hb hb
  have e1 : subF b b = (⟨0, 1⟩, 0) := by
    unfold subF
    rw [if_pos ⟨hb, hb⟩, Int.sub_self]
    exact mkF_zero (by omega)
  have hw := whole_ok (n := s) (by omega) (by omega)
  have e2 : mulF ⟨0, 1⟩ ⟨s, 1⟩ = (⟨0, 1⟩, 0) := by
    unfold mulF
    rw [if_pos ⟨zero_ok, hw⟩]
    simp only [Int.zero_mul, Int.mul_one]
    exact mkF_zero (by omega)
  have e3 : addF at_ ⟨0, 1⟩ = (at_, 0) := by
    unfold addF
    rw [if_pos ⟨ha, zero_ok⟩]
    simp only [Int.zero_mul, Int.mul_one, Int.add_zero]
    exact mkF_self ha
  unfold onF
  rw [e1]
  simp only
  rw [if_neg (by omega), e2]
  simp only
  rw [if_neg (by omega)]
  exact e3
/-- The position of a tempo. -/
def posK (l : List Tempo) : Nat → Option Frac
  | 0 => some ⟨0, 1⟩
  | k + 1 => (posK l k).bind fun at_ => if (onF (el l k).beat (el l (k + 1)).beat (el l k).s at_).2 = 0 then some (onF (el l k).beat (el l (k + 1)).beat (el l k).s at_).1 else none
theorem posK_ok (l : List Tempo) : ∀ {k : Nat} {f : Frac}, posK l k = some f → fracB f = true
  | 0, f, h => by
    injection h with h
    subst h
    exact zero_ok
  | k + 1, f, h => by
    obtain ⟨a, ha, h⟩ := Option.bind_eq_some_iff.1 h
    split at h
    · injection h with h
      rename_i hc
      rw [← h]
      exact onF_ok hc
    · cases h
def tempoB (t : Tempo) : Bool := beatB t.beat && inB t.s 1 1000
/-- Tempos in order, of which the first is at 0. -/
def tempA (l : List Tempo) : Bool := inB l.length 1 8 && l.all tempoB && decide ((el l 0).bn = 0) && decide (∀ i, i < l.length → 0 < i → cmpF (el l (i - 1)).beat (el l i).beat < 0)
def tempB (l : List Tempo) : Bool := tempA l && decide (∀ k, k < l.length → (posK l k).isSome = true)
def posAll (l : List Tempo) : List Frac := (List.range l.length).map fun k => (posK l k).getD ⟨0, 1⟩
theorem tempoB_iff {t : Tempo} : tempoB t = true ↔ beatB t.beat = true ∧ 1 ≤ t.s ∧ t.s ≤ 1000 := by
  simp only [tempoB, Bool.and_eq_true, inB_iff]
theorem tempA_iff {l : List Tempo} : tempA l = true ↔ (1 ≤ l.length ∧ l.length ≤ 8) ∧ (∀ i, i < l.length → tempoB (el l i) = true) ∧ (el l 0).bn = 0 ∧ ∀ i, i < l.length → 0 < i → cmpF (el l (i - 1)).beat (el l i).beat < 0 := by
  simp only [tempA, Bool.and_eq_true, decide_eq_true_eq, inB_iff, and_assoc, List.all_eq_true]
  constructor
  · rintro ⟨h1, h2, h3, h4, h5⟩
    exact ⟨by omega, by omega, fun i hi => h3 _ (el_mem hi), h4, h5⟩
  · rintro ⟨h1, h2, h3, h4, h5⟩
    refine ⟨by omega, by omega, fun x hx => ?_, h4, h5⟩
    obtain ⟨i, hi, rfl⟩ := List.getElem_of_mem hx
    rw [el_eq hi]
    exact h3 i hi
/-- The tempo of a beat. -/
def idxT (l : List Tempo) (b : Frac) : Nat → Nat
  | 0 => 0
  | i + 1 => if cmpF (el l i).beat b ≤ 0 then i else idxT l b i
theorem cmpF_le {a b : Frac} : cmpF a b ≤ 0 ↔ a.n * b.d ≤ b.n * a.d := by
  unfold cmpF
  split
  · constructor <;> intro h <;> omega
  · split
    · constructor <;> intro h <;> omega
    · constructor <;> intro h <;> omega
theorem cmpF_lt {a b : Frac} : cmpF a b < 0 ↔ a.n * b.d < b.n * a.d := by
  unfold cmpF
  split
  · constructor <;> intro h <;> omega
  · split
    · constructor <;> intro h <;> omega
    · constructor <;> intro h <;> omega
/-- The order of fractions, over one in the middle. -/
theorem cmpF_trans {a b c : Frac} (ha : 1 ≤ a.d) (hb : 1 ≤ b.d) (hc : 1 ≤ c.d) (h1 : cmpF a b < 0) (h2 : cmpF b c ≤ 0) : cmpF a c < 0 := by
  rw [cmpF_lt] at h1 ⊢
  rw [cmpF_le] at h2
  have e1 : a.n * b.d * c.d < b.n * a.d * c.d := Int.mul_lt_mul_of_pos_right h1 (by omega)
  have e2 : b.n * c.d * a.d ≤ c.n * b.d * a.d := Int.mul_le_mul_of_nonneg_right h2 (by omega)
  have e3 : b.n * a.d * c.d = b.n * c.d * a.d := by rw [Int.mul_assoc, Int.mul_comm a.d, ← Int.mul_assoc]
  have e4 : (a.n * c.d) * b.d < (c.n * a.d) * b.d := by
    have x1 : a.n * c.d * b.d = a.n * b.d * c.d := by rw [Int.mul_assoc, Int.mul_comm c.d, ← Int.mul_assoc]
    have x2 : c.n * a.d * b.d = c.n * b.d * a.d := by rw [Int.mul_assoc, Int.mul_comm a.d, ← Int.mul_assoc]
    omega
  exact Int.lt_of_mul_lt_mul_right e4 (by omega)
/-- The first tempo that is the last one, or whose next one is behind the beat: it is the tempo of the beat. -/
theorem idx_last {l : List Tempo} {b : Frac} (hl : tempA l = true) (hb : 1 ≤ b.d) {k : Nat} (hk : k < l.length) (h1 : ∀ i, i ≤ k → 0 < i → cmpF (el l i).beat b ≤ 0) (h0 : cmpF (el l 0).beat b ≤ 0) (h2 : k + 1 = l.length ∨ ¬ cmpF (el l (k + 1)).beat b ≤ 0) : idxT l b l.length = k := by
  obtain ⟨⟨l1, l2⟩, ha, -, hs⟩ := tempA_iff.1 hl
  have pos : ∀ i, i < l.length → 1 ≤ (el l i).beat.d := fun i hi => (fracB_iff.1 (beatB_iff.1 (tempoB_iff.1 (ha i hi)).1).1).1.1
  have far : ∀ i, k < i → i < l.length → ¬ cmpF (el l i).beat b ≤ 0 := by
    intro i hi hil
    have : ∀ d, k + 1 + d < l.length → ¬ cmpF (el l (k + 1 + d)).beat b ≤ 0 := by
      intro d
      induction d with
      | zero =>
        intro hd
        rcases h2 with h2 | h2
        · omega
        · exact h2
      | succ d ih =>
        intro hd hc
        refine ih (by omega) ?_
        have := cmpF_trans (pos (k + 1 + d) (by omega)) (pos (k + 1 + (d + 1)) hd) hb (by have := hs (k + 1 + (d + 1)) hd (by omega); rwa [show k + 1 + (d + 1) - 1 = k + 1 + d by omega] at this) hc
        omega
    have := this (i - (k + 1)) (by omega)
    rwa [show k + 1 + (i - (k + 1)) = i by omega] at this
  have hkk : cmpF (el l k).beat b ≤ 0 := by
    rcases Nat.eq_zero_or_pos k with h | h
    · rw [h]; exact h0
    · exact h1 k (Nat.le_refl _) h
  have : ∀ d, k + 1 + d ≤ l.length → idxT l b (k + 1 + d) = k := by
    intro d
    induction d with
    | zero => intro _; show (if cmpF (el l k).beat b ≤ 0 then k else _) = k; rw [if_pos hkk]
    | succ d ih =>
      intro hd
      show (if cmpF (el l (k + 1 + d)).beat b ≤ 0 then k + 1 + d else idxT l b (k + 1 + d)) = k
      rw [if_neg (far _ (by omega) (by omega))]
      exact ih (by omega)
  have := this (l.length - (k + 1)) (by omega)
  rwa [show k + 1 + (l.length - (k + 1)) = l.length by omega] at this
theorem idx_le {l : List Tempo} {b : Frac} : ∀ n, 0 < n → idxT l b n < n
  | 0, h => by omega
  | n + 1, _ => by
    unfold idxT
    split
    · omega
    · rcases Nat.eq_zero_or_pos n with h | h
      · subst h; simp [idxT]
      · have := idx_le (l := l) (b := b) n h; omega
end Go.Proofs.YtimijeeihicohaaGreat

namespace Go.Proofs.YtimijeeihicohaaGreat
open Go.RowKit
set_option linter.unusedVariables false
set_option linter.unusedSimpArgs false
set_option maxRecDepth 100000
attribute [local simp] List.getElem?_cons_zero
attribute [local irreducible] awCond awCall awLoop awDraw ow retQ retC resQ Keeps
def lastB (l : List Tempo) (b : Frac) (i : Nat) : Bool := decide (i + 1 = l.length) || decide (0 < cmpF (el l (i + 1)).beat b)
def goF (l : List Tempo) (b : Frac) : Nat → Nat → Frac → Frac × Int
  | 0, _, a => (a, 0)
  | f + 1, i, a =>
    if lastB l b i = true then onF (el l i).beat b (el l i).s a else
    if (onF (el l i).beat (el l (i + 1)).beat (el l i).s a).2 ≠ 0 then onF (el l i).beat (el l (i + 1)).beat (el l i).s a else goF l b f (i + 1) (onF (el l i).beat (el l (i + 1)).beat (el l i).s a).1
theorem posK_succ {l : List Tempo} {i : Nat} {a : Frac} (h : posK l i = some a) : posK l (i + 1) = if (onF (el l i).beat (el l (i + 1)).beat (el l i).s a).2 = 0 then some (onF (el l i).beat (el l (i + 1)).beat (el l i).s a).1 else none := by
  rw [posK, h]
  rfl
theorem posK_none {l : List Tempo} {i : Nat} (h : posK l i = none) : ∀ d, posK l (i + d) = none
  | 0 => h
  | d + 1 => by rw [← Nat.add_assoc, posK, posK_none h d]; rfl
theorem go_some {l : List Tempo} {b x : Frac} {K : Nat} (hK : K < l.length) (hl : lastB l b K = true) (hn : ∀ i, i < K → lastB l b i = false) (hx : posK l K = some x) :
    ∀ (d i : Nat) (a : Frac), i + d = K → posK l i = some a → goF l b (l.length - i) i a = onF (el l K).beat b (el l K).s x
  | 0, i, a, hi, ha => by
    obtain rfl : i = K := by omega
    rw [ha] at hx
    injection hx with hx
    subst hx
    rw [show l.length - i = (l.length - i - 1) + 1 by omega, goF, if_pos hl]
  | d + 1, i, a, hi, ha => by
    have hs := posK_succ ha
    rw [show l.length - i = (l.length - (i + 1)) + 1 by omega, goF, if_neg (by rw [hn i (by omega)]; simp)]
    by_cases hc : (onF (el l i).beat (el l (i + 1)).beat (el l i).s a).2 = 0
    · rw [if_pos hc] at hs
      rw [if_neg (by omega)]
      exact go_some hK hl hn hx d (i + 1) _ (by omega) hs
    · rw [if_neg hc] at hs
      have := posK_none hs (K - (i + 1))
      rw [show i + 1 + (K - (i + 1)) = K by omega, hx] at this
      cases this
theorem go_none {l : List Tempo} {b : Frac} {K : Nat} (hK : K < l.length) (hl : lastB l b K = true) (hn : ∀ i, i < K → lastB l b i = false) (hx : posK l K = none) :
    ∀ (d i : Nat) (a : Frac), i + d = K → posK l i = some a → (goF l b (l.length - i) i a).2 ≠ 0
  | 0, i, a, hi, ha => by
    obtain rfl : i = K := by omega
    rw [ha] at hx
    cases hx
  | d + 1, i, a, hi, ha => by
    have hs := posK_succ ha
    rw [show l.length - i = (l.length - (i + 1)) + 1 by omega, goF, if_neg (by rw [hn i (by omega)]; simp)]
    by_cases hc : (onF (el l i).beat (el l (i + 1)).beat (el l i).s a).2 = 0
    · rw [if_pos hc] at hs
      rw [if_neg (by omega)]
      exact go_none hK hl hn hx d (i + 1) _ (by omega) hs
    · rw [if_pos hc]
      exact hc
theorem last_ex {l : List Tempo} {b : Frac} (h : 0 < l.length) : ∃ K, K < l.length ∧ lastB l b K = true ∧ ∀ i, i < K → lastB l b i = false := by
  obtain ⟨K, h1, h2, h3⟩ := least_false (p := fun i => !lastB l b i) l.length ⟨l.length - 1, by omega, by
    have : lastB l b (l.length - 1) = true := by unfold lastB; rw [decide_eq_true (by omega)]; rfl
    simp [this]⟩
  exact ⟨K, h1, by simpa using h2, fun i hi => by simpa using h3 i hi⟩
theorem last_not {l : List Tempo} {b : Frac} {i : Nat} (h : lastB l b i = false) : i + 1 ≠ l.length ∧ cmpF (el l (i + 1)).beat b ≤ 0 := by
  unfold lastB at h
  simp only [Bool.or_eq_false_iff, decide_eq_false_iff_not] at h
  omega
/-- At the beat of a tempo: a code of 0 where the tempo has a position. -/
theorem go_self {l : List Tempo} (hl : tempA l = true) {j : Nat} (hj : j < l.length) : (goF l (el l j).beat l.length 0 ⟨0, 1⟩).2 = 0 ↔ (posK l j).isSome = true := by
  obtain ⟨⟨l1, l2⟩, ha, h0, hs⟩ := tempA_iff.1 hl
  have pos : ∀ i, i < l.length → fracB (el l i).beat = true := fun i hi => (beatB_iff.1 (tempoB_iff.1 (ha i hi)).1).1
  have lt : ∀ d i, i + (d + 1) < l.length → cmpF (el l i).beat (el l (i + (d + 1))).beat < 0 := by
    intro d
    induction d with
    | zero => intro i hi; have := hs (i + 1) hi (by omega); simpa using this
    | succ d ih =>
      intro i hi
      have h1 := ih i (by omega)
      have h2 := hs (i + (d + 1 + 1)) hi (by omega)
      rw [show i + (d + 1 + 1) - 1 = i + (d + 1) by omega] at h2
      exact cmpF_trans (fracB_iff.1 (pos _ (by omega))).1.1 (fracB_iff.1 (pos (i + (d + 1)) (by omega))).1.1 (fracB_iff.1 (pos _ hi)).1.1 h1 (by omega)
  have hlast : lastB l (el l j).beat j = true := by
    unfold lastB
    by_cases h : j + 1 = l.length
    · rw [decide_eq_true h]; rfl
    · have h1 := lt 0 j (by omega)
      rw [cmpF_lt] at h1
      have : 0 < cmpF (el l (j + 1)).beat (el l j).beat := by
        have : ¬ cmpF (el l (j + 1)).beat (el l j).beat ≤ 0 := by
          rw [cmpF_le]
          simp only [Nat.zero_add] at h1
          omega
        omega
      rw [decide_eq_true this]
      simp
  have hnot : ∀ i, i < j → lastB l (el l j).beat i = false := by
    intro i hi
    unfold lastB
    rw [decide_eq_false (by omega), Bool.false_or, decide_eq_false]
    by_cases h : i + 1 = j
    · rw [h]
      have : cmpF (el l j).beat (el l j).beat ≤ 0 := by rw [cmpF_le]; omega
      omega
    · have := lt (j - (i + 1) - 1) (i + 1) (by omega)
      rw [show i + 1 + (j - (i + 1) - 1 + 1) = j by omega] at this
      omega
  have hs0 : (1 ≤ (el l j).s ∧ (el l j).s ≤ 1000) := (tempoB_iff.1 (ha j hj)).2
  cases hp : posK l j with
  | none =>
    have := go_none hj hlast hnot hp j 0 ⟨0, 1⟩ (by omega) rfl
    rw [Nat.sub_zero] at this
    simp [this]
  | some x =>
    have := go_some hj hlast hnot hp j 0 ⟨0, 1⟩ (by omega) rfl
    rw [Nat.sub_zero] at this
    rw [this, onF_self (pos j hj) (posK_ok l hp) hs0]
    simp
/-- At any beat of a valid map: from the position of its tempo. -/
theorem go_beat {l : List Tempo} {b : Frac} (hl : tempB l = true) (hb : beatB b = true) : ∃ k a, idxT l b l.length = k ∧ k < l.length ∧ posK l k = some a ∧ goF l b l.length 0 ⟨0, 1⟩ = onF (el l k).beat b (el l k).s a := by
  have hA : tempA l = true := by simp only [tempB, Bool.and_eq_true] at hl; exact hl.1
  have hP : ∀ k, k < l.length → (posK l k).isSome = true := by simp only [tempB, Bool.and_eq_true, decide_eq_true_eq] at hl; exact hl.2
  obtain ⟨⟨l1, l2⟩, ha, h0, hs⟩ := tempA_iff.1 hA
  obtain ⟨hbf, hb0, -⟩ := beatB_iff.1 hb
  have hbd := (fracB_iff.1 hbf).1.1
  obtain ⟨K, k1, k2, k3⟩ := last_ex (l := l) (b := b) (by omega)
  obtain ⟨a, hpa⟩ := Option.isSome_iff_exists.1 (hP K k1)
  have h00 : cmpF (el l 0).beat b ≤ 0 := by
    rw [cmpF_le]
    have hz : (el l 0).beat.n = 0 := h0
    have hd0 := (fracB_iff.1 (beatB_iff.1 (tempoB_iff.1 (ha 0 (by omega))).1).1).1.1
    rw [hz, Int.zero_mul]
    exact Int.mul_nonneg hb0 (by omega)
  refine ⟨K, a, idx_last hA hbd k1 (fun i hi hi0 => ?_) h00 ?_, k1, hpa, ?_⟩
  · have := (last_not (k3 (i - 1) (by omega))).2
    rwa [show i - 1 + 1 = i by omega] at this
  · unfold lastB at k2
    simp only [Bool.or_eq_true, decide_eq_true_eq] at k2
    omega
  · have := go_some k1 k2 k3 hpa K 0 ⟨0, 1⟩ (by omega) rfl
    rwa [Nat.sub_zero] at this
end Go.Proofs.YtimijeeihicohaaGreat

namespace Go.Proofs.YtimijeeihicohaaGreat
open Go.RowKit
set_option linter.unusedVariables false
set_option linter.unusedSimpArgs false
set_option maxRecDepth 100000
attribute [local simp] List.getElem?_cons_zero
attribute [local irreducible] awCond awCall awLoop awDraw ow retQ retC resQ Keeps
def Frac.q (f : Frac) : Rat := Rat.divInt f.n f.d
theorem divInt_le {a b c d : Int} (hb : 0 < b) (hd : 0 < d) : Rat.divInt a b ≤ Rat.divInt c d ↔ a * d ≤ c * b := by
  rw [Rat.le_iff_sub_nonneg, Rat.divInt_sub_divInt _ _ (by omega) (by omega), Rat.divInt_nonneg_iff_of_pos_right (Int.mul_pos hd hb)]
  constructor <;> intro h <;> omega
theorem cmpF_q {a b : Frac} (ha : 1 ≤ a.d) (hb : 1 ≤ b.d) : cmpF a b ≤ 0 ↔ a.q ≤ b.q := by
  rw [cmpF_le]
  exact (divInt_le (by omega) (by omega)).symm
theorem floor_q {f : Frac} (h : 0 < f.d) : f.q.floor = f.n / f.d := by
  have key : ∀ x : Int, x ≤ f.q.floor ↔ x ≤ f.n / f.d := by
    intro x
    have e : (x : Rat) = Rat.divInt x 1 := by rw [Rat.divInt_eq_div]; simp [Rat.div_def]; grind
    rw [Rat.le_floor_iff, e]
    unfold Frac.q
    rw [divInt_le (by omega) h, Int.le_ediv_iff_mul_le h, Int.mul_one]
  have h1 := (key _).1 (Int.le_refl _)
  have h2 := (key _).2 (Int.le_refl _)
  omega
theorem mkF_q {n d : Int} (hd : 0 < d) (h : (mkF n d).2 = 0) : (mkF n d).1.q = Rat.divInt n d := by
  unfold mkF at h ⊢
  rw [if_neg (by omega)] at h ⊢
  split at h
  · cases h
  · rename_i hx
    rw [if_neg hx]
    clear h hx
    have hg : 0 < n.natAbs.gcd d.natAbs := Nat.gcd_pos_of_pos_right _ (by omega)
    generalize hgg : n.natAbs.gcd d.natAbs = g at hg
    obtain ⟨a, ha⟩ : g ∣ n.natAbs := by rw [← hgg]; exact Nat.gcd_dvd_left _ _
    obtain ⟨b, hb⟩ : g ∣ d.natAbs := by rw [← hgg]; exact Nat.gcd_dvd_right _ _
    rw [ha, hb, Nat.mul_div_cancel_left _ hg, Nat.mul_div_cancel_left _ hg]
    have hg' : (g : Int) ≠ 0 := by omega
    have ed : d = (g : Int) * b := by rw [← Int.natCast_mul, ← hb]; omega
    have hdn : ¬ d < 0 := by omega
    by_cases hn : n < 0
    · have en : n = (g : Int) * -(a : Int) := by rw [Int.mul_neg, ← Int.natCast_mul, ← ha]; omega
      simp only [hn, hdn, decide_true, decide_false]
      show Rat.divInt (-(a : Int)) b = _
      rw [en, ed, Rat.divInt_mul_left hg']
    · have en : n = (g : Int) * (a : Int) := by rw [← Int.natCast_mul, ← ha]; omega
      simp only [hn, hdn, decide_false]
      show Rat.divInt (a : Int) b = _
      rw [en, ed, Rat.divInt_mul_left hg']
theorem addF_q {a b : Frac} (ha : fracB a = true) (hb : fracB b = true) (h : (addF a b).2 = 0) : (addF a b).1.q = a.q + b.q := by
  obtain ⟨a1, -⟩ := fracB_iff.1 ha
  obtain ⟨b1, -⟩ := fracB_iff.1 hb
  have hd : 0 < a.d * b.d := Int.mul_pos (by omega) (by omega)
  unfold addF at h ⊢
  rw [if_pos ⟨ha, hb⟩] at h ⊢
  rw [mkF_q hd h]
  exact (Rat.divInt_add_divInt a.n b.n (by omega) (by omega)).symm
theorem subF_q {a b : Frac} (ha : fracB a = true) (hb : fracB b = true) (h : (subF a b).2 = 0) : (subF a b).1.q = a.q - b.q := by
  obtain ⟨a1, -⟩ := fracB_iff.1 ha
  obtain ⟨b1, -⟩ := fracB_iff.1 hb
  have hd : 0 < a.d * b.d := Int.mul_pos (by omega) (by omega)
  unfold subF at h ⊢
  rw [if_pos ⟨ha, hb⟩] at h ⊢
  rw [mkF_q hd h]
  exact (Rat.divInt_sub_divInt a.n b.n (by omega) (by omega)).symm
theorem mulF_q {a b : Frac} (ha : fracB a = true) (hb : fracB b = true) (h : (mulF a b).2 = 0) : (mulF a b).1.q = a.q * b.q := by
  obtain ⟨a1, -⟩ := fracB_iff.1 ha
  obtain ⟨b1, -⟩ := fracB_iff.1 hb
  have hd : 0 < a.d * b.d := Int.mul_pos (by omega) (by omega)
  unfold mulF at h ⊢
  rw [if_pos ⟨ha, hb⟩] at h ⊢
  rw [mkF_q hd h]
  exact (Rat.divInt_mul_divInt a.n b.n).symm
theorem onF_q {frm beat at_ : Frac} {s : Int} (h1 : fracB frm = true) (h2 : fracB beat = true) (h3 : fracB at_ = true) (hs : 1 ≤ s ∧ s ≤ 1000) (h : (onF frm beat s at_).2 = 0) : (onF frm beat s at_).1.q = at_.q + (beat.q - frm.q) * s := by
  unfold onF at h ⊢
  split at h
  · rename_i h'; exact absurd h h'
  · rename_i h'
    rw [if_neg h']
    have e1 := subF_q h2 h1 (by omega)
    have f1 := subF_ok (a := beat) (b := frm) (by omega)
    have hw := whole_ok (n := s) (by omega) (by omega)
    split at h
    · rename_i h''; exact absurd h h''
    · rename_i h''
      rw [if_neg h'']
      rw [addF_q h3 (mulF_ok (by omega)) h, mulF_q f1 hw (by omega), e1]
      congr 2
      show Rat.divInt s 1 = s
      rw [Rat.divInt_eq_div]
      simp [Rat.div_def]
      grind
end Go.Proofs.YtimijeeihicohaaGreat
