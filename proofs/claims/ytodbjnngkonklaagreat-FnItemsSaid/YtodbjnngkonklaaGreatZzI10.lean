/- Parts of the proof, together: Notes and scores: valid ones, in both packages. The division of a score, in both packages. A region that draws its order: an invariant over what has been done and what each operation gave. Regions that draw their order and only make new values: each operation's value is told by what it is. Regions that draw their order, in which some operations, each of which waits for the one before, turn memory, No conditions. -/
import Derived.Test.YtodbjnngkonklaaGreatZzI9
import Derived.Test.YtodbjnngkonklaaGreatZzI6
import Derived.Test.YtodbjnngkonklaaGreatZzI7
import Derived.Test.YtodbjnngkonklaaGreatZzI8
import Derived.Laws.StructEq
namespace Go.Proofs.YtodbjnngkonklaaGreat
open Go.RowKit
set_option linter.unusedVariables false
set_option linter.unusedSimpArgs false
set_option maxRecDepth 100000
attribute [local simp] List.getElem?_cons_zero
attribute [local irreducible] awCond awCall awLoop awDraw ow retQ retC resQ Keeps
def Note.at_ (n : Note) : Frac := ⟨n.an, n.ad⟩
def Note.len (n : Note) : Frac := ⟨n.ln, n.ld⟩
def noteB (n : Note) : Bool := beatB n.at_ && beatB n.len && decide (n.ln ≠ 0) && decide ((addF n.at_ n.len).2 = 0) && inB n.k 0 127 && inB n.u 1 127 && inB n.o 0 15
def ordN (a b : Note) : Int := if cmpF a.at_ b.at_ ≠ 0 then cmpF a.at_ b.at_ else if a.o ≠ b.o then a.o - b.o else a.k - b.k
theorem noteB_iff {n : Note} : noteB n = true ↔ beatB n.at_ = true ∧ beatB n.len = true ∧ n.ln ≠ 0 ∧ (addF n.at_ n.len).2 = 0 ∧ (0 ≤ n.k ∧ n.k ≤ 127) ∧ (1 ≤ n.u ∧ n.u ≤ 127) ∧ (0 ≤ n.o ∧ n.o ≤ 15) := by
  simp only [noteB, Bool.and_eq_true, decide_eq_true_eq, inB_iff, and_assoc]
theorem beatB_iff {f : Frac} : beatB f = true ↔ fracB f = true ∧ 0 ≤ f.n ∧ f.n ≤ 1000 * f.d := by
  simp only [beatB, Bool.and_eq_true, decide_eq_true_eq, and_assoc]
theorem cmpF_bd (a b : Frac) : -1 ≤ cmpF a b ∧ cmpF a b ≤ 1 := by
  unfold cmpF
  split
  · omega
  · split <;> omega
set_option maxHeartbeats 1000000 in
theorem isNote_i {M : Mem} (n : Note) : Det Tryz.prog M.length 63 [n.v] M (.bool (noteB n)) M := by
  first | (refine det_fn Tryz.func63 rfl Tryz.ntmps63 Tryz.results63 rfl rfl rfl (by simp) ?_) | (refine det_fnC Tryz.func63 rfl Tryz.ntmps63 Tryz.results63 rfl rfl (by simp) ?_)
  simp
  refine awCall_det' (isBeat_i n.at_) (by simp) ?_
  by_cases h1 : beatB n.at_ = true
  · simp [h1]
    refine awCall_det' (isBeat_i n.len) (by simp) ?_
    by_cases h2 : beatB n.len = true
    · simp [h2]
      by_cases h3 : n.ln = 0
      · have e : noteB n = false := by simp [noteB, h3]
        simp [h3, e, keeps_app]
      · simp [h3]
        refine awCall_det' (AddFrac_i n.at_ n.len) (by simp) ?_
        simp
        by_cases h4 : (addF n.at_ n.len).2 = 0
        · simp [h4]
          refine awCall_det' (isKey_a _) (by simp) ?_
          by_cases h5 : inB n.k 0 127 = true
          · simp [h5]
            refine awCall_det' (within_a _ _ _) (by simp) ?_
            by_cases h6 : inB n.u 1 127 = true
            · simp [h6]
              refine awCall_det' (within_a _ _ _) (by simp) ?_
              simp [noteB, h1, h2, h3, h4, h5, h6, keeps_app]
            · have e : noteB n = false := by simp [noteB, h6]
              simp [h6, e, keeps_app]
          · have e : noteB n = false := by simp [noteB, h5]
            simp [h5, e, keeps_app]
        · have e : noteB n = false := by simp [noteB, h4]
          simp [h4, e, keeps_app]
    · have e : noteB n = false := by simp [noteB, h2]
      simp [h2, e, keeps_app]
  · have e : noteB n = false := by simp [noteB, h1]
    simp [h1, e, keeps_app]
theorem l18Sum_a {M : Mem} (a b : Frac) : Det Tryz.prog M.length 46 [a.v, b.v] M (.tuple #[(addF a b).1.v, .bool (decide ((addF a b).2 = 0))]) M := by
  first | (refine det_fn Tryz.func46 rfl Tryz.ntmps46 Tryz.results46 rfl rfl rfl (by simp) ?_) | (refine det_fnC Tryz.func46 rfl Tryz.ntmps46 Tryz.results46 rfl rfl (by simp) ?_)
  simp
  refine awCall_det' (AddFrac_s a b) (by simp) ?_
  simp [keeps_app]
theorem note_cellsN {M : Mem} {id off : Nat} {n : Note} (h : Cl M id off n.row) : cellsAt M id off 2 = some [iv n.an, iv n.ad] ∧ cellsAt M id (off + 2) 2 = some [iv n.ln, iv n.ld] := by
  refine ⟨cellsAt_of (fun j x hx => ?_) rfl (by omega), cellsAt_of (fun j x hx => ?_) rfl (by omega)⟩
  · refine h j x ?_
    rcases j with _ | _ | j
    · exact hx
    · exact hx
    · simp at hx
  · have := h (2 + j) x (by
      rcases j with _ | _ | j
      · exact hx
      · exact hx
      · simp at hx)
    rwa [← Nat.add_assoc] at this
set_option maxHeartbeats 1000000 in
theorem l18Note_a {M : Mem} {id off : Nat} {n : Note} (hc : Cl M id off n.row) : Det Tryz.prog M.length 45 [.pointer (some ⟨id, off, none⟩)] M (.bool (noteB n)) M := by
  obtain ⟨c0, c1, c2, c3, c4, c5, c6⟩ := note_cells hc
  obtain ⟨d0, d2⟩ := note_cellsN hc
  first | (refine det_fn Tryz.func45 rfl Tryz.ntmps45 Tryz.results45 rfl rfl rfl (by simp) ?_) | (refine det_fnC Tryz.func45 rfl Tryz.ntmps45 Tryz.results45 rfl rfl (by simp) ?_)
  simp [c0, c1, c2, c3, c4, c5, c6, d0, d2]
  refine awCall_det' (l02Ok_a n.at_) (by simp) ?_
  by_cases f1 : fracB n.at_ = true
  · simp [f1, c0, c1, c2, c3, c4, c5, c6, d0, d2]
    refine awCall_det' (l17Beat_a n.at_ f1) (by simp) ?_
    by_cases h1 : beatB n.at_ = true
    · simp [h1, c0, c1, c2, c3, c4, c5, c6, d0, d2]
      refine awCall_det' (l02Ok_a n.len) (by simp) ?_
      by_cases f2 : fracB n.len = true
      · simp [f2, c0, c1, c2, c3, c4, c5, c6, d0, d2]
        refine awCall_det' (l17Beat_a n.len f2) (by simp) ?_
        by_cases h2 : beatB n.len = true
        · simp [h2, c0, c1, c2, c3, c4, c5, c6, d0, d2]
          by_cases h3 : n.ln = 0
          · have e : noteB n = false := by simp [noteB, h3]
            simp [h3, e, Keeps.refl]
          · simp [h3]
            refine awDraw_M 13 [[],[0],[1,0],[2,1,0],[],[4],[5,4],[6,5,4],[3,2,1,0,7,6,5,4],[8,3,2,1,0,7,6,5,4],[9,8,3,2,1,0,7,6,5,4],[9,8,3,2,1,0,7,6,5,4],[],[12,10,9,8,3,2,1,0,7,6,5,4],[11,9,8,3,2,1,0,7,6,5,4,13,12,10]] [11] (by kernel_rfl) (by decide +kernel) (by decide +kernel) ?_
            simp [c0, c1, c2, c3, c4, c5, c6, d0, d2]
            refine awCall_det' (l18Sum_a n.at_ n.len) (by simp) ?_
            simp
            have c4' := fun L => cellAt_app c4 L
            have c5' := fun L => cellAt_app c5 L
            have c6' := fun L => cellAt_app c6 L
            by_cases h4 : (addF n.at_ n.len).2 = 0
            · simp [h4, c4', c5', c6']
              refine awCall_det' (l00In_a _ _ _) (by simp) ?_
              by_cases h5 : inB n.k 0 127 = true
              · simp [h5, c4', c5', c6']
                refine awCall_det' (l00In_a _ _ _) (by simp) ?_
                by_cases h6 : inB n.u 1 127 = true
                · simp [h6, c4', c5', c6']
                  refine awCall_det' (l00In_a _ _ _) (by simp) ?_
                  simp [noteB, h1, h2, h3, h4, h5, h6, keeps_app]
                · have e : noteB n = false := by simp [noteB, h6]
                  simp [h6, e, keeps_app]
              · have e : noteB n = false := by simp [noteB, h5]
                simp [h5, e, keeps_app]
            · have e : noteB n = false := by simp [noteB, h4]
              simp [h4, e, keeps_app]
        · have e : noteB n = false := by simp [noteB, h2]
          simp [h2, e, Keeps.refl]
      · have e : noteB n = false := by simp [noteB, beatB, f2]
        simp [f2, e, Keeps.refl]
    · have e : noteB n = false := by simp [noteB, h1]
      simp [h1, e, Keeps.refl]
  · have e : noteB n = false := by simp [noteB, beatB, f1]
    simp [f1, e, Keeps.refl]
theorem compareNotes_i {M : Mem} (a b : Note) (ha : noteB a = true) (hb : noteB b = true) : Det Tryz.prog M.length 50 [a.v, b.v] M (iv (ordN a b)) M := by
  obtain ⟨a1, -, -, -, a5, a6, a7⟩ := noteB_iff.1 ha
  obtain ⟨b1, -, -, -, b5, b6, b7⟩ := noteB_iff.1 hb
  have f1 := (beatB_iff.1 a1).1
  have f2 := (beatB_iff.1 b1).1
  first | (refine det_fn Tryz.func50 rfl Tryz.ntmps50 Tryz.results50 rfl rfl rfl (by simp) ?_) | (refine det_fnC Tryz.func50 rfl Tryz.ntmps50 Tryz.results50 rfl rfl (by simp) ?_)
  simp
  refine awCall_det' (compare_i a.at_ b.at_ f1 f2) (by simp) ?_
  unfold ordN
  by_cases h1 : cmpF a.at_ b.at_ = 0
  · by_cases h2 : a.o = b.o
    · simp (disch := omega) [h1, h2, wrap_in, keeps_app]
    · simp (disch := omega) [h1, h2, wrap_in, keeps_app]
  · have := cmpF_bd a.at_ b.at_
    simp (disch := omega) [h1, wrap_in, keeps_app]
theorem l18Order_a {M : Mem} {id off id' off' : Nat} {a b : Note} (hca : Cl M id off a.row) (hcb : Cl M id' off' b.row) (ha : noteB a = true) (hb : noteB b = true) :
    Det Tryz.prog M.length 72 [.pointer (some ⟨id, off, none⟩), .pointer (some ⟨id', off', none⟩)] M (iv (ordN a b)) M := by
  obtain ⟨a1, -, -, -, a5, a6, a7⟩ := noteB_iff.1 ha
  obtain ⟨b1, -, -, -, b5, b6, b7⟩ := noteB_iff.1 hb
  have f1 := (beatB_iff.1 a1).1
  have f2 := (beatB_iff.1 b1).1
  obtain ⟨c0, c1, c2, c3, c4, c5, c6⟩ := note_cells hca
  obtain ⟨d0, d1, d2, d3, d4, d5, d6⟩ := note_cells hcb
  obtain ⟨e0, e2⟩ := note_cellsN hca
  obtain ⟨g0, g2⟩ := note_cellsN hcb
  first | (refine det_fn Tryz.func72 rfl Tryz.ntmps72 Tryz.results72 rfl rfl rfl (by simp) ?_) | (refine det_fnC Tryz.func72 rfl Tryz.ntmps72 Tryz.results72 rfl rfl (by simp) ?_)
  simp
  refine awDraw_E 8 [[],[0],[1,0],[2,1,0],[],[4],[5,4],[6,5,4],[3,2,1,0,7,6,5,4],[8,3,2,1,0,7,6,5,4]] (by kernel_rfl) (by kernel_rfl) ?_
  simp [e0, g0]
  refine awCall_det' (compare_s a.at_ b.at_ f1 f2) (by simp) ?_
  unfold ordN
  by_cases h1 : cmpF a.at_ b.at_ = 0
  · simp [h1]
    refine awDraw_E 8 [[],[0],[1,0],[2,1,0],[],[4],[5,4],[6,5,4],[3,2,1,0,7,6,5,4],[8,3,2,1,0,7,6,5,4]] (by kernel_rfl) (by kernel_rfl) ?_
    simp [c6, d6]
    by_cases h2 : a.o = b.o
    · simp [h2]
      refine awDraw_E 8 [[],[0],[1,0],[2,1,0],[],[4],[5,4],[6,5,4],[3,2,1,0,7,6,5,4],[8,3,2,1,0,7,6,5,4]] (by kernel_rfl) (by kernel_rfl) ?_
      simp (disch := omega) [c4, d4, h1, h2, wrap_in, Keeps.refl]
    · simp [h2]
      refine awDraw_E 8 [[],[0],[1,0],[2,1,0],[],[4],[5,4],[6,5,4],[3,2,1,0,7,6,5,4],[8,3,2,1,0,7,6,5,4]] (by kernel_rfl) (by kernel_rfl) ?_
      simp (disch := omega) [c6, d6, h1, h2, wrap_in, Keeps.refl]
  · have := cmpF_bd a.at_ b.at_
    simp (disch := omega) [h1, wrap_in, Keeps.refl]
theorem areNotes_i {M : Mem} {A : Option Addr} {n c : Nat} {l : List Note} (h : Sl noteR M A n l) (hn : n ≤ 1099511627776) : Det Tryz.prog M.length 49 [.slice A n c] M (.bool (l.all noteB)) M := by
  have hl := h.1
  first | (refine det_fn Tryz.func49 rfl Tryz.ntmps49 Tryz.results49 rfl rfl rfl (by simp) ?_) | (refine det_fnC Tryz.func49 rfl Tryz.ntmps49 Tryz.results49 rfl rfl (by simp) ?_)
  simp
  refine awLoop_T (fun m T M' => ∃ k : Nat, k + m = n ∧ Keeps M M' ∧ (l.take k).all noteB = true ∧ look T 7 = some (iv k) ∧ look T 6 = some (iv n) ∧ look T 5 = some (.slice A n c)) n ⟨0, by omega, Keeps.refl _, by simp, by simp, by simp, by simp⟩ ?_
  rintro m T M' ⟨k, hm, hK, ha, h7, h6, h5⟩
  have hKl := hK.len
  by_cases hlt : k < n
  · obtain ⟨id, off, rfl, he, hc⟩ := (h.keeps hK).at_ hlt
    have hld := note_load hc
    simp (disch := omega) [h7, h6, h5, hlt, he, hld]
    refine awCall_det' (isNote_i (el l k)) (by simp; omega) ?_
    by_cases hb : noteB (el l k) = true
    · simp (disch := omega) [hb, h7, h6, h5, wrap_in]
      refine lpI (m - 1) (by omega) ⟨k + 1, by omega, hK.app _, by rw [take_el (by omega), List.all_append, ha]; simp [hb], by simp, by simp [h6], by simp [h5]⟩
    · have hno : l.all noteB = false := by
        rw [List.all_eq_false]
        exact ⟨el l k, el_mem (by omega), hb⟩
      simp [hb, hno, hK.app]
  · obtain rfl : k = n := by omega
    rw [List.take_of_length_le (by omega)] at ha
    simp [h7, h6, h5, ha, hK]
def scoreB (l : List Note) : Bool := decide (l.length ≤ 60) && l.all noteB && decide (∀ i, i < l.length → 0 < i → ordN (el l (i - 1)) (el l i) < 0)
theorem all_el {l : List Note} (h : l.all noteB = true) {i : Nat} (hi : i < l.length) : noteB (el l i) = true := List.all_eq_true.1 h _ (el_mem hi)
theorem isScore_i {M : Mem} {A : Option Addr} {n c : Nat} {l : List Note} (h : Sl noteR M A n l) (hn : n ≤ 1099511627776) : Det Tryz.prog M.length 20 [.agg #[.slice A n c]] M (.bool (scoreB l)) M := by
  have hl := h.1
  first | (refine det_fn Tryz.func20 rfl Tryz.ntmps20 Tryz.results20 rfl rfl rfl (by simp) ?_) | (refine det_fnC Tryz.func20 rfl Tryz.ntmps20 Tryz.results20 rfl rfl (by simp) ?_)
  simp
  by_cases h1 : 60 < n
  · have h1' : (60 : Int) < n := by omega
    have e : scoreB l = false := by
      have : ¬ l.length ≤ 60 := by omega
      simp [scoreB, this]
    simp [h1, h1', e, keeps_app]
  have h1' : ¬ (60 : Int) < n := by omega
  simp [h1, h1']
  refine awCall_det' (areNotes_i (h.app _) (by omega)) (by simp) ?_
  by_cases h2 : l.all noteB = true
  · rw [h2]
    simp
    refine awLoop_T (fun m T M' => ∃ k : Nat, 0 < k ∧ (k + m = n ∨ (n = 0 ∧ k = 1 ∧ m = 0)) ∧ M' = M ++ [.live ⟨[.slice A n c], true, true, 26, 1⟩] ∧ (∀ i, i < k → 0 < i → ordN (el l (i - 1)) (el l i) < 0) ∧ look T 3 = some (iv k) ∧ look T 1 = some (.pointer (some ⟨M.length, 0, none⟩))) (n - 1) ⟨1, by omega, by omega, rfl, fun i hi h0 => by omega, by simp, by simp⟩ ?_
    rintro m T M' ⟨k, hk0, hm, rfl, hs, h3, h1''⟩
    by_cases hlt : k < n
    · obtain ⟨id, off, e1, he, hc⟩ := (h.app [.live ⟨[.slice A n c], true, true, 26, 1⟩]).at_ hlt
      obtain ⟨_, _, e2, -, hc'⟩ := (h.app [.live ⟨[.slice A n c], true, true, 26, 1⟩]).at_ (show k - 1 < n by omega)
      rw [e1] at e2
      cases e2
      subst e1
      have ld1 := note_load hc
      have ld2 := note_load hc'
      have et : ((k : Int) - 1).toNat = k - 1 := by omega
      simp [h3, h1'', hlt]
      refine awDraw_E 11 [[],[0],[],[2],[1,0,3,2],[4,1,0,3,2],[],[6],[],[7,6,8],[9,7,6,8],[5,4,1,0,3,2,10,9,7,6,8],[11,5,4,1,0,3,2,10,9,7,6,8]] (by kernel_rfl) (by kernel_rfl) ?_
      simp (disch := omega) [h3, h1'', hlt, he, ld1, ld2, wrap_in, et]
      try refine ⟨by omega, ?_⟩
      refine awCall_det' (compareNotes_i (el l (k - 1)) (el l k) (all_el h2 (by omega)) (all_el h2 (by omega))) (by simp) ?_
      by_cases h4 : 0 ≤ ordN (el l (k - 1)) (el l k)
      · have e : scoreB l = false := by
          unfold scoreB
          rw [decide_eq_false (p := ∀ i, _) (fun hh => by have := hh k (by omega) hk0; omega)]
          simp
        simp [h4, e, keeps_app]
      · simp (disch := omega) [h4, h3, h1'', wrap_in]
        refine lpI (m - 1) (by omega) ⟨k + 1, by omega, by omega, rfl, fun i hi h0 => ?_, by simp, by simp [h1'']⟩
        rcases Nat.lt_or_ge i k with h | h
        · exact hs i h h0
        · obtain rfl : i = k := by omega
          omega
    · have e : scoreB l = true := by
        unfold scoreB
        rw [decide_eq_true (show l.length ≤ 60 by omega), h2, decide_eq_true (fun i hi h0 => hs i (by omega) h0)]
        rfl
      simp [h3, h1'', hlt, e, keeps_app]
  · have e : scoreB l = false := by simp only [Bool.not_eq_true] at h2; simp [scoreB, h2]
    simp only [Bool.not_eq_true] at h2
    rw [h2]
    simp [e, keeps_app]































































end Go.Proofs.YtodbjnngkonklaaGreat

namespace Go.Proofs.YtodbjnngkonklaaGreat
open Go.RowKit
set_option linter.unusedVariables false
set_option linter.unusedSimpArgs false
set_option maxRecDepth 100000
attribute [local simp] List.getElem?_cons_zero
attribute [local irreducible] awCond awCall awLoop awDraw ow retQ retC resQ Keeps
theorem addF_ok {a b : Frac} (h : (addF a b).2 = 0) : fracB (addF a b).1 = true := by
  unfold addF at h ⊢
  split at h
  · rename_i hab
    rw [if_pos hab]
    exact mkF_ok h
  · cases h
def Note.fin (n : Note) : Frac := (addF n.at_ n.len).1
theorem note_end {n : Note} (h : noteB n = true) : fracB n.at_ = true ∧ fracB n.fin = true := by
  obtain ⟨h1, -, -, h4, -⟩ := noteB_iff.1 h
  exact ⟨(beatB_iff.1 h1).1, addF_ok h4⟩
theorem end_i {M : Mem} (n : Note) : Det Tryz.prog M.length 27 [n.v] M n.fin.v M := by
  first | (refine det_fn Tryz.func27 rfl Tryz.ntmps27 Tryz.results27 rfl rfl rfl (by simp) ?_) | (refine det_fnC Tryz.func27 rfl Tryz.ntmps27 Tryz.results27 rfl rfl (by simp) ?_)
  simp
  refine awCall_det' (AddFrac_i n.at_ n.len) (by simp) ?_
  simp [keeps_app, Note.fin]
end Go.Proofs.YtodbjnngkonklaaGreat

namespace Go.Proofs.YtodbjnngkonklaaGreat
open Go.RowKit
set_option linter.unusedVariables false
def upG (γ : Nat → Value) (k : Nat) (v : Value) : Nat → Value := fun j => if j = k then v else γ j
@[simp] theorem upG_same (γ : Nat → Value) (k : Nat) (v : Value) : upG γ k v k = v := if_pos rfl
theorem upG_ne {γ : Nat → Value} {j k : Nat} {v : Value} (h : j ≠ k) : upG γ k v j = γ j := if_neg h
/-- No temporary is set twice. -/
def dstOnce (ops : Array Oper) : Bool := (List.range ops.size).all fun k => (List.range ops.size).all fun j => decide (j = k) || (dstOf ops j).isNone || dstOf ops j != dstOf ops k
theorem dstOnce_spec {ops : Array Oper} (h : dstOnce ops = true) {j k : Nat} {t : Nat} (hj : dstOf ops j = some t) (hk : dstOf ops k = some t) : j = k := by
  have lt : ∀ i, dstOf ops i = some t → i < ops.size := by
    intro i hi
    unfold dstOf at hi
    obtain ⟨o, ho, -⟩ := Option.bind_eq_some_iff.1 hi
    exact (Array.getElem?_eq_some_iff.1 ho).1
  have h1 := List.all_eq_true.1 h k (List.mem_range.2 (lt k hk))
  have h2 := List.all_eq_true.1 h1 j (List.mem_range.2 (lt j hj))
  rw [hj, hk] at h2
  simpa using h2
/-- What the temporaries hold: what has been done gave its value, the others are as they were. -/
structure TS (ops : Array Oper) (T0 : List (Nat × Value)) (X : Nat → Bool) (γ : Nat → Value) (T : List (Nat × Value)) : Prop where
  done : ∀ j d, X j = true → dstOf ops j = some d → look T d = some (γ j)
  frame : ∀ t, (∀ j, X j = true → dstOf ops j ≠ some t) → look T t = look T0 t
def noDst (ops : Array Oper) (t : Nat) : Bool := (List.range ops.size).all fun j => decide (dstOf ops j ≠ some t)
theorem TS.frame' {ops : Array Oper} {T0 T : List (Nat × Value)} {X : Nat → Bool} {γ : Nat → Value} (h : TS ops T0 X γ T) (t : Nat) (hn : noDst ops t = true) : look T t = look T0 t :=
  h.frame t fun j _ hj => by
    have hl : j < ops.size := by
      unfold dstOf at hj
      obtain ⟨o, ho, -⟩ := Option.bind_eq_some_iff.1 hj
      exact (Array.getElem?_eq_some_iff.1 ho).1
    have := List.all_eq_true.1 hn j (List.mem_range.2 hl)
    exact (of_decide_eq_true this) hj
/-- What has been done is closed under what must come ahead. -/
def Closed (ops : List Oper) (X : Nat → Bool) : Prop := ∀ k o, X k = true → ops[k]? = some o → ∀ e ∈ o.after.toList, Region.binds .any e = true → X e.on = true
def edge (ops : List Oper) (k j : Nat) : Bool := match ops[k]? with
  | some o => o.after.toList.any fun e => Region.binds .any e && decide (e.on = j)
  | none => false
theorem Closed.at_ {ops : List Oper} {X : Nat → Bool} (h : Closed ops X) {k : Nat} (j : Nat) (hk : X k = true) (he : edge ops k j = true) : X j = true := by
  unfold edge at he
  split at he
  · rename_i o ho
    obtain ⟨e, h1, h2⟩ := List.any_eq_true.1 he
    simp only [Bool.and_eq_true, decide_eq_true_eq] at h2
    have := h k o hk ho e h1 h2.1
    rwa [h2.2] at this
  · cases he
theorem edge_ahead {ops : List Oper} {X : Nat → Bool} {k : Nat} {o : Oper} (ho : ops[k]? = some o) (ha : ∀ e ∈ o.after.toList, Region.binds .any e = true → X e.on = true) (j : Nat) (he : edge ops k j = true) : X j = true := by
  unfold edge at he
  rw [ho] at he
  obtain ⟨e, h1, h2⟩ := List.any_eq_true.1 he
  simp only [Bool.and_eq_true, decide_eq_true_eq] at h2
  have := ha e h1 h2.1
  rwa [h2.2] at this
/-- The same, with guarded operations. -/
theorem awDraw_GG {P : Program} {b : Nat} {ops : List Oper} {Q : St → Prop} {S : St} (G : (Nat → Bool) → (Nat → Value) → Mem → Prop) (h1 : P.follows .mixedOrders = true) (h2 : drawBackG ⟨ops⟩ = true) (h3 : dstOnce ⟨ops⟩ = true)
    (h0 : ∀ γ, G (fun _ => false) γ S.M)
    (hstep : ∀ X γ T M k o (K : Value → Mem → Prop), Closed ops X → TS ⟨ops⟩ S.T X γ T → G X γ M → ops[k]? = some o → X k = false → (∀ e ∈ o.after.toList, Region.binds .any e = true → X e.on = true) → (∀ v M', G (upX X k) (upG γ k v) M' → K v M') → awG ⟨ops⟩ o ⟨S.n, T, M⟩ (sOp P false b o ⟨S.n, T, M⟩ K) (K undef M))
    (hend : ∀ X γ T M, (∀ k, k < ops.length → X k = true) → TS ⟨ops⟩ S.T X γ T → G X γ M → Q ⟨S.n, T, M⟩) : awDraw P b ⟨ops⟩ Q S := by
  refine awDraw_IG (fun X S' => S'.n = S.n ∧ Closed ops X ∧ ∃ γ, TS ⟨ops⟩ S.T X γ S'.T ∧ G X γ S'.M) h1 h2 ⟨rfl, fun k o h => (by cases h), fun _ => undef, ⟨(fun j d h => by cases h), fun t _ => rfl⟩, h0 _⟩ ?_ ?_
  · rintro X ⟨n, T, M⟩ k o ⟨hn, hC, γ, hT, hG⟩ ho hX ha
    simp only at hn hT hG
    subst hn
    have key : ∀ (v : Value) (M' : Mem), G (upX X k) (upG γ k v) M' → ((St.put ⟨S.n, T, M'⟩ o.dst v).n = S.n ∧ Closed ops (upX X k) ∧ ∃ γ, TS ⟨ops⟩ S.T (upX X k) γ (St.put ⟨S.n, T, M'⟩ o.dst v).T ∧ G (upX X k) γ (St.put ⟨S.n, T, M'⟩ o.dst v).M) := by
      intro v M' hG'
      refine ⟨by cases o.dst <;> rfl, fun i o' hi ho' e he hb => ?_, upG γ k v, ?_, by cases o.dst <;> exact hG'⟩
      · by_cases e1 : e.on = k
        · rw [e1]; simp
        · rw [upX_ne e1]
          by_cases e2 : i = k
          · subst e2
            rw [ho] at ho'
            injection ho' with ho'
            subst ho'
            exact ha e he hb
          · rw [upX_ne e2] at hi
            exact hC i o' hi ho' e he hb
      have hdk : dstOf ⟨ops⟩ k = o.dst := by simp [dstOf, ho]
      refine ⟨fun j d hj hd => ?_, fun t ht => ?_⟩
      · by_cases e : j = k
        · subst e
          rw [hdk] at hd
          rw [hd]
          simp [St.put]
        · rw [upX_ne e] at hj
          rw [upG_ne e]
          have := hT.done j d hj hd
          cases hod : o.dst with
          | none => exact this
          | some d' =>
            simp only [St.put, look]
            rw [if_neg (fun e' => e (dstOnce_spec h3 hd (by rw [hdk, hod, e'])))]
            exact this
      · have hf := hT.frame t fun j hj => ht j (by
          by_cases e : j = k
          · subst e; simp
          · rw [upX_ne e]; exact hj)
        cases hod : o.dst with
        | none => exact hf
        | some d' =>
          have := ht k (by simp)
          rw [hdk, hod] at this
          simp only [St.put, look]
          rw [if_neg (fun e' => this (by rw [e']))]
          exact hf
    exact hstep X γ T M k o _ hC hT hG ho hX ha key
  · rintro X ⟨n, T, M⟩ hX ⟨hn, hC, γ, hT, hG⟩
    simp only at hn hT hG
    subst hn
    exact hend X γ T M hX hT hG
theorem awDraw_G {P : Program} {b : Nat} {ops : List Oper} {Q : St → Prop} {S : St} (G : (Nat → Bool) → (Nat → Value) → Mem → Prop) (h1 : P.follows .mixedOrders = true) (h2 : drawBack ⟨ops⟩ = true) (h3 : dstOnce ⟨ops⟩ = true)
    (h0 : ∀ γ, G (fun _ => false) γ S.M)
    (hstep : ∀ X γ T M k o (K : Value → Mem → Prop), Closed ops X → TS ⟨ops⟩ S.T X γ T → G X γ M → ops[k]? = some o → X k = false → (∀ e ∈ o.after.toList, Region.binds .any e = true → X e.on = true) → (∀ v M', G (upX X k) (upG γ k v) M' → K v M') → sOp P false b o ⟨S.n, T, M⟩ K)
    (hend : ∀ X γ T M, (∀ k, k < ops.length → X k = true) → TS ⟨ops⟩ S.T X γ T → G X γ M → Q ⟨S.n, T, M⟩) : awDraw P b ⟨ops⟩ Q S := by
  refine awDraw_GG G h1 (drawBack_G h2) h3 h0 (fun X γ T M k o K hC hT hG ho hX ha hK => ?_) hend
  unfold awG
  rw [(drawBack_spec h2 k o (by simpa using ho)).1]
  exact hstep X γ T M k o K hC hT hG ho hX ha hK
end Go.Proofs.YtodbjnngkonklaaGreat

namespace Go.Proofs.YtodbjnngkonklaaGreat
open Go.RowKit
set_option linter.unusedVariables false
set_option linter.unusedSimpArgs false
end Go.Proofs.YtodbjnngkonklaaGreat

namespace Go.Proofs.YtodbjnngkonklaaGreat
open Go.RowKit
set_option linter.unusedVariables false
set_option linter.unusedSimpArgs false
/-- m waits for k, through others too. -/
def reachE (ops : List Oper) : Nat → Nat → Nat → Bool
  | 0, m, k => edge ops m k
  | n + 1, m, k => edge ops m k || (List.range ops.length).any fun j => edge ops m j && reachE ops n j k
theorem reachE_at {ops : List Oper} {X : Nat → Bool} (hC : Closed ops X) : ∀ {n m k : Nat}, reachE ops n m k = true → X m = true → X k = true
  | 0, m, k, h, hm => hC.at_ k hm h
  | n + 1, m, k, h, hm => by
    simp only [reachE, Bool.or_eq_true, List.any_eq_true, Bool.and_eq_true] at h
    rcases h with h | ⟨j, _, h1, h2⟩
    · exact hC.at_ k hm h
    · exact reachE_at hC h2 (hC.at_ j hm h1)
def chainOk (ops : List Oper) (ms : List Nat) : Bool := decide ms.Nodup && ms.all (fun m => decide (m < ops.length)) && (List.range ms.length).all fun i => match ms[i + 1]?, ms[i]? with
  | some a, some b => reachE ops 4 a b
  | _, _ => true
/-- What is known of an operation that is waited for. -/
def Dep (ms : List Nat) (Φ : Nat → Value → Prop) (vs : List Value) (j : Nat) (v : Value) : Prop := (ms.contains j = false → Φ j v) ∧ ∀ i : Nat, ms[i]? = some j → vs[i]? = some v
theorem chain_at {ops : List Oper} {ms : List Nat} (h : chainOk ops ms = true) {i a b : Nat} (ha : ms[i + 1]? = some a) (hb : ms[i]? = some b) : reachE ops 4 a b = true := by
  unfold chainOk at h
  simp only [Bool.and_eq_true, List.all_eq_true] at h
  have := h.2 i (List.mem_range.2 (List.getElem?_eq_some_iff.1 hb).1)
  rw [ha, hb] at this
  exact this
theorem chain_inj {ops : List Oper} {ms : List Nat} (h : chainOk ops ms = true) {i j a : Nat} (hi : ms[i]? = some a) (hj : ms[j]? = some a) : i = j := by
  unfold chainOk at h
  simp only [Bool.and_eq_true, decide_eq_true_eq] at h
  have hn := h.1.1
  obtain ⟨h1, e1⟩ := List.getElem?_eq_some_iff.1 hi
  obtain ⟨h2, e2⟩ := List.getElem?_eq_some_iff.1 hj
  exact (List.getElem_inj hn).1 (e1.trans e2.symm)
theorem chain_lt {ops : List Oper} {ms : List Nat} (h : chainOk ops ms = true) {i a : Nat} (hi : ms[i]? = some a) : a < ops.length := by
  unfold chainOk at h
  simp only [Bool.and_eq_true, List.all_eq_true] at h
  have := h.1.2 a (List.mem_of_getElem? hi)
  simpa using this
theorem not_ms {ms : List Nat} {k : Nat} (h : ms.contains k = false) {i a : Nat} (hi : ms[i]? = some a) : a ≠ k := by
  intro e
  subst e
  have := List.mem_of_getElem? hi
  simp [this] at h
theorem awDraw_C {P : Program} {b : Nat} {ops : List Oper} {Q : St → Prop} {S : St} (ms : List Nat) (Φ : Nat → Value → Prop) (Ψ : List Value → Mem → Prop)
    (h1 : P.follows .mixedOrders = true) (h2 : drawBack ⟨ops⟩ = true) (h3 : dstOnce ⟨ops⟩ = true) (hms : chainOk ops ms = true) (h0 : Ψ [] S.M)
    (hread : ∀ (k : Nat) (o : Oper) (T : List (Nat × Value)) (M : Mem) (vs : List Value) (K : Value → Mem → Prop), ms.contains k = false → ops[k]? = some o → Ψ vs M → (∀ i m, ms[i]? = some m → reachE ops 3 m k = true → vs.length ≤ i) →
      (∀ j d, edge ops k j = true → dstOf ⟨ops⟩ j = some d → ∃ v, look T d = some v ∧ Dep ms Φ vs j v) → (∀ t, noDst ⟨ops⟩ t = true → look T t = look S.T t) → (∀ v, Φ k v → K v M) → sOp P false b o ⟨S.n, T, M⟩ K)
    (hmove : ∀ (i k : Nat) (o : Oper) (T : List (Nat × Value)) (M : Mem) (vs : List Value) (K : Value → Mem → Prop), ms[i]? = some k → ops[k]? = some o → Ψ vs M → vs.length = i →
      (∀ j d, edge ops k j = true → dstOf ⟨ops⟩ j = some d → ∃ v, look T d = some v ∧ Dep ms Φ vs j v) → (∀ t, noDst ⟨ops⟩ t = true → look T t = look S.T t) → (∀ v M', Ψ (vs ++ [v]) M' → K v M') → sOp P false b o ⟨S.n, T, M⟩ K)
    (hend : ∀ (T : List (Nat × Value)) (M : Mem) (vs : List Value), vs.length = ms.length → Ψ vs M → (∀ j d, j < ops.length → dstOf ⟨ops⟩ j = some d → ∃ v, look T d = some v ∧ Dep ms Φ vs j v) → (∀ t, noDst ⟨ops⟩ t = true → look T t = look S.T t) → Q ⟨S.n, T, M⟩) : awDraw P b ⟨ops⟩ Q S := by
  have dep : ∀ {X : Nat → Bool} {γ : Nat → Value} {s j : Nat}, (∀ k, X k = true → ms.contains k = false → Φ k (γ k)) → (∀ i m, ms[i]? = some m → X m = decide (i < s)) → X j = true → Dep ms Φ ((ms.take s).map γ) j (γ j) := by
    intro X γ s j hΦ hs hj
    refine ⟨fun hm => hΦ j hj hm, fun i hi => ?_⟩
    have := hs i j hi
    rw [hj] at this
    have hlt : i < s := by simpa using this.symm
    rw [List.getElem?_map, List.getElem?_take, if_pos hlt, hi]; rfl
  have len : ∀ {γ : Nat → Value} {s : Nat}, s ≤ ms.length → ((ms.take s).map γ).length = s := fun {γ s} h => by simp; omega
  refine awDraw_G (fun X γ M => (∀ k, X k = true → ms.contains k = false → Φ k (γ k)) ∧ ∃ s, s ≤ ms.length ∧ (∀ i m, ms[i]? = some m → X m = decide (i < s)) ∧ Ψ ((ms.take s).map γ) M) h1 h2 h3 (fun γ => ⟨fun k h => (by cases h), 0, Nat.zero_le _, fun i m _ => by simp, h0⟩) ?_ ?_
  · rintro X γ T M k o K hC hT ⟨hΦ, s, hs1, hs2, hΨ⟩ ho hX ha hK
    have hdep : ∀ j d, edge ops k j = true → dstOf ⟨ops⟩ j = some d → ∃ v, look T d = some v ∧ Dep ms Φ ((ms.take s).map γ) j v := fun j d he hd => by
      have hj := edge_ahead ho ha j he
      exact ⟨γ j, hT.done j d hj hd, dep hΦ hs2 hj⟩
    by_cases hk : ms.contains k = false
    · refine hread k o T M _ K hk ho hΨ (fun i m hi he => ?_) hdep (fun t ht => hT.frame' t ht) fun v hv => hK v M ⟨fun j hj hm => ?_, s, hs1, fun i m hi => ?_, ?_⟩
      · rw [len hs1]
        apply Classical.byContradiction
        intro hn
        have hXm : X m = true := by rw [hs2 i m hi]; simp; omega
        have := reachE_at hC he hXm
        rw [hX] at this
        cases this
      · by_cases e : j = k
        · subst e
          rw [show upG γ j v j = v by simp [upG]]
          exact hv
        · rw [upX_ne e] at hj
          rw [upG_ne e]
          exact hΦ j hj hm
      · rw [upX_ne (not_ms hk hi)]
        exact hs2 i m hi
      · rw [List.map_congr_left (g := γ) fun a ha => ?_]
        · exact hΨ
        · obtain ⟨i, hi⟩ := List.mem_iff_getElem?.1 (List.mem_of_mem_take ha)
          exact upG_ne (not_ms hk hi)
    · have hk' : k ∈ ms := by simpa using hk
      obtain ⟨i, hi⟩ := List.mem_iff_getElem?.1 hk'
      have hil := (List.getElem?_eq_some_iff.1 hi).1
      have his : s = i := by
        have h5 := hs2 i k hi
        rw [hX] at h5
        have h6 : ¬ i < s := by simpa using h5.symm
        rcases i with _ | i
        · omega
        · have hb : ms[i]? = some (ms[i]'(by omega)) := List.getElem?_eq_getElem _
          have he := chain_at hms hi hb
          have hj : X (ms[i]'(by omega)) = true := by
            rw [show (4 : Nat) = 3 + 1 from rfl] at he
            simp only [reachE, Bool.or_eq_true, List.any_eq_true, Bool.and_eq_true] at he
            rcases he with he | ⟨j, _, h1, h2⟩
            · exact edge_ahead ho ha _ he
            · exact reachE_at hC (n := 3) (by simp only [reachE, Bool.or_eq_true, List.any_eq_true, Bool.and_eq_true]; exact h2) (edge_ahead ho ha _ h1)
          rw [hs2 i _ hb] at hj
          simp at hj
          omega
      subst his
      refine hmove s k o T M _ K hi ho hΨ (len hs1) hdep (fun t ht => hT.frame' t ht) fun v M' hv => hK v M' ⟨fun j hj hm => ?_, s + 1, hil, fun j m hj => ?_, ?_⟩
      · have e : j ≠ k := fun e => by subst e; rw [hm] at hk; exact hk rfl
        rw [upX_ne e] at hj
        rw [upG_ne e]
        exact hΦ j hj hm
      · by_cases e : m = k
        · subst e
          obtain rfl := chain_inj hms hj hi
          rw [upX_same]
          simp
        · rw [upX_ne e, hs2 j m hj]
          have hne : j ≠ s := fun h => by subst h; rw [hi] at hj; injection hj with hj; exact e hj.symm
          by_cases hlt : j < s
          · simp [hlt, Nat.lt_succ_of_lt hlt]
          · have : ¬ j < s + 1 := by omega
            simp [hlt, this]
      · have e1 : ms.take (s + 1) = ms.take s ++ [k] := by
          rw [List.take_add_one, hi]
          rfl
        rw [e1, List.map_append, List.map_singleton, show upG γ k v k = v by simp [upG], List.map_congr_left (g := γ) fun a ha => ?_]
        · exact hv
        · refine upG_ne fun e => ?_
          subst e
          obtain ⟨j, hj⟩ := List.mem_iff_getElem?.1 ha
          rw [List.getElem?_take] at hj
          split at hj
          · have := chain_inj hms hj hi
            omega
          · cases hj
  · rintro X γ T M hX hT ⟨hΦ, s, hs1, hs2, hΨ⟩
    have hs : s = ms.length := by
      apply Classical.byContradiction
      intro hn
      have hlt : s < ms.length := by omega
      have hb : ms[s]? = some (ms[s]'hlt) := List.getElem?_eq_getElem _
      have := hs2 s _ hb
      rw [hX _ (chain_lt hms hb)] at this
      simp at this
    subst hs
    exact hend T M _ (len hs1) hΨ (fun j d hj hd => ⟨γ j, hT.done j d (hX j hj) hd, dep hΦ hs2 (hX j hj)⟩) fun t ht => hT.frame' t ht
end Go.Proofs.YtodbjnngkonklaaGreat

namespace Go.Proofs.YtodbjnngkonklaaGreat
open Go.RowKit
set_option linter.unusedVariables false
theorem awCond_join {P : Program} {b n : Nat} {c : Bool} {A B Y : Code} {Q : Ex → St → Prop} {T : List (Nat × Value)} {M : Mem} (J : List (Nat × Value) → Mem → Prop)
    (h1 : ∀ Q' : Ex → St → Prop, (∀ T' M', J T' M' → Q' .normal ⟨n, T', M'⟩) → c = true → sAw P b A Q' ⟨n, T, M⟩)
    (h2 : ∀ Q' : Ex → St → Prop, (∀ T' M', J T' M' → Q' .normal ⟨n, T', M'⟩) → c = false → sAw P b B Q' ⟨n, T, M⟩)
    (h3 : ∀ T' M', J T' M' → sAw P b Y Q ⟨n, T', M'⟩) : awCond (.bool c) (sAw P b A (sThen P b Y Q tk) ⟨n, T, M⟩) (sAw P b B (sThen P b Y Q tk) ⟨n, T, M⟩) :=
  ⟨fun h => h1 _ (fun T' M' hJ => by rw [sThen_normal]; exact h3 T' M' hJ) h, fun h => h2 _ (fun T' M' hJ => by rw [sThen_normal]; exact h3 T' M' hJ) h⟩
theorem awThen_join {P : Program} {b n : Nat} {A Y : Code} {Q : Ex → St → Prop} {T : List (Nat × Value)} {M : Mem} (J : List (Nat × Value) → Mem → Prop)
    (h1 : ∀ Q' : Ex → St → Prop, (∀ T' M', J T' M' → Q' .normal ⟨n, T', M'⟩) → sAw P b A Q' ⟨n, T, M⟩)
    (h3 : ∀ T' M', J T' M' → sAw P b Y Q ⟨n, T', M'⟩) : sAw P b A (sThen P b Y Q tk) ⟨n, T, M⟩ :=
  h1 _ fun T' M' hJ => by rw [sThen_normal]; exact h3 T' M' hJ
theorem awLoop_join {P : Program} {b n id : Nat} {F : (Ex → St → Prop) → St → Prop} {Y : Code} {Q : Ex → St → Prop} {T : List (Nat × Value)} {M : Mem} (J : List (Nat × Value) → Mem → Prop)
    (h1 : ∀ Q' : Ex → St → Prop, (∀ T' M', J T' M' → Q' .normal ⟨n, T', M'⟩) → awLoop F (sBlock id Q' tk) ⟨n, T, M⟩)
    (h3 : ∀ T' M', J T' M' → sAw P b Y Q ⟨n, T', M'⟩) : awLoop F (sBlock id (sThen P b Y Q tk) tk) ⟨n, T, M⟩ :=
  h1 _ fun T' M' hJ => by rw [sThen_normal]; exact h3 T' M' hJ
end Go.Proofs.YtodbjnngkonklaaGreat

namespace Go.Proofs.YtodbjnngkonklaaGreat
open Go.RowKit
set_option linter.unusedVariables false
set_option linter.unusedSimpArgs false
set_option maxRecDepth 100000
attribute [local simp] List.getElem?_cons_zero
attribute [local irreducible] awCond awCall awLoop awDraw ow retQ retC resQ Keeps
def codeR : RecV Int 1 := ⟨fun n => [.int .u8 n], fun _ => rfl⟩
/-- The source in row g, behind k draws; cs: the bytes it reads. -/
def SrcAt (g : Nat) (M : Mem) (A : Option Addr) (n c : Nat) (cs : List Int) (k : Nat) : Prop :=
  ∃ seed : Int, M[g]? = some (.live ⟨[.slice A n c, iv k, .int .u64 seed], true, true, 77, 3⟩) ∧ Sl codeR M A n cs ∧ (∀ a, A = some a → 0 < n → a.block ≠ g) ∧ ∀ x, x ∈ cs → 0 ≤ x ∧ x ≤ 255
def UpdS (g : Nat) (M M' : Mem) : Prop := M'.length = M.length ∧ ∀ (i : Nat) s, i ≠ g → M[i]? = some s → M'[i]? = some s
theorem put_row {b : Nat} {M : Mem} {id p : Nat} {v : Value} {cs : List Value} {t : Bool} {e : TypeId} {z : Nat} (hr : M[id]? = some (.live ⟨cs, true, t, e, z⟩)) (hb : b ≤ id) (hp : p < cs.length) (h1 : oneV v = true) :
    putCells b M id p [v] = some (M.set id (.live ⟨cs.set p v, true, t, e, z⟩)) := by
  have := put_set (b := b) (M := M) (id := id) (p := p) (v := v) (cs := cs) (t := t) (e := e) (z := z) (List.getElem?_eq_some_iff.1 hr).1 hb hp h1
  rw [set_self hr] at this
  exact this
theorem cell_row {M : Mem} {id off : Nat} {r : Row} (h : id < M.length) : cellAt (M.set id (.live r)) id off = r.cells[off]? := by
  simp [cellAt, h]
theorem u8_in {x : Int} (h1 : 0 ≤ x) (h2 : x ≤ 255) : IntKind.u64.wrap x = x := by
  have e : (2 : Int) ^ IntKind.u64.bits = 18446744073709551616 := by decide
  have e2 : IntKind.u64.signed = false := rfl
  simp only [IntKind.wrap, e, e2]
  simp
  omega
theorem and_bd (a : Int) : 0 ≤ ((BitVec.ofInt IntKind.u64.bits a &&& BitVec.ofInt IntKind.u64.bits 255).toNat : Int) ∧ ((BitVec.ofInt IntKind.u64.bits a &&& BitVec.ofInt IntKind.u64.bits 255).toNat : Int) ≤ 255 := by
  have e : (BitVec.ofInt IntKind.u64.bits 255).toNat = 255 := by decide
  have := Nat.and_le_right (n := (BitVec.ofInt IntKind.u64.bits a).toNat) (m := (BitVec.ofInt IntKind.u64.bits 255).toNat)
  rw [BitVec.toNat_and]
  rw [e] at this ⊢
  omega
theorem shr40 (a : Int) : intV .shr .u64 a 40 = some (.int .u64 (a.fdiv (2 ^ 40))) := by rfl
def mask8 (a : Int) : Int := IntKind.u64.wrap ((BitVec.ofInt IntKind.u64.bits a &&& BitVec.ofInt IntKind.u64.bits 255).toNat : Int)
theorem mask8_bd (a : Int) : 0 ≤ mask8 a ∧ mask8 a ≤ 255 := by
  have h := and_bd a
  unfold mask8
  rw [u8_in h.1 h.2]
  exact h
theorem and255 (a : Int) : intV .and .u64 a 255 = some (.int .u64 (mask8 a)) := by rfl
theorem next_s {M : Mem} {b g k n c : Nat} {A : Option Addr} {cs : List Int} (h : SrcAt g M A n c cs k) (hb : b ≤ g) (hk : k ≤ 1099511627776) (hn : n ≤ 1099511627776) :
    Ctr Tryz.prog b 70 [.pointer (some ⟨g, 0, none⟩)] M fun r M' => (∃ x : Int, r = iv x ∧ 0 ≤ x ∧ x ≤ 255) ∧ SrcAt g M' A n c cs (k + 1) ∧ UpdS g M M' := by
  obtain ⟨seed, hr, hsl, hap, hcs⟩ := h
  have hgl := (List.getElem?_eq_some_iff.1 hr).1
  have a0 : cellAt M g 0 = some (.slice A n c) := by simp [cellAt, hr]
  have a1 : cellAt M g 1 = some (iv k) := by simp [cellAt, hr]
  have hput1 := put_row (b := b) (p := 1) (v := iv (k + 1)) hr hb (by simp) rfl
  obtain ⟨M1, hM1⟩ : ∃ M1 : Mem, M1 = M.set g (.live ⟨[.slice A n c, iv (k + 1), .int .u64 seed], true, true, 77, 3⟩) := ⟨_, rfl⟩
  have hput1' : putCells b M g 1 [iv (k + 1)] = some M1 := by rw [hput1, hM1]; rfl
  have hr1 : M1[g]? = some (.live ⟨[.slice A n c, iv (k + 1), .int .u64 seed], true, true, 77, 3⟩) := by rw [hM1, List.getElem?_set_self hgl]
  have hl1 : M1.length = M.length := by rw [hM1]; simp
  have hu1 : ∀ (i : Nat) x, i ≠ g → M[i]? = some x → M1[i]? = some x := fun i x hi hx => by rw [hM1, List.getElem?_set_ne (Ne.symm hi)]; exact hx
  clear hM1 hput1
  have a2 : cellAt M1 g 2 = some (.int .u64 seed) := by simp [cellAt, hr1]
  have hput2 := fun z : Int => put_row (b := b) (p := 2) (v := .int .u64 z) hr1 hb (by simp) rfl
  have C := fun (off : Nat) (cs : List Value) => cell_row (M := M1) (id := g) (off := off) (r := ⟨cs, true, true, 77, 3⟩) (by omega)
  have fin : ∀ (x z : Int), 0 ≤ x → x ≤ 255 → (0 ≤ x ∧ x ≤ 255) ∧ SrcAt g (M1.set g (.live ⟨[.slice A n c, iv (k + 1), .int .u64 z], true, true, 77, 3⟩)) A n c cs (k + 1) ∧ UpdS g M (M1.set g (.live ⟨[.slice A n c, iv (k + 1), .int .u64 z], true, true, 77, 3⟩)) := by
    intro x z h1 h2
    have hup : ∀ (i : Nat) y, i ≠ g → M[i]? = some y → (M1.set g (.live ⟨[.slice A n c, iv (k + 1), .int .u64 z], true, true, 77, 3⟩))[i]? = some y := fun i y hi hy => by rw [List.getElem?_set_ne (Ne.symm hi)]; exact hu1 i y hi hy
    refine ⟨⟨h1, h2⟩, ⟨z, by rw [List.getElem?_set_self (by omega)]; rfl, ⟨hsl.1, fun hp => ?_⟩, hap, hcs⟩, by simp [hl1], hup⟩
    obtain ⟨id, off, e, he, hc⟩ := hsl.2 hp
    have hne : id ≠ g := hap _ e hp
    have heq : ∀ y, M[id]? = some y → (M1.set g (.live ⟨[.slice A n c, iv (k + 1), .int .u64 z], true, true, 77, 3⟩))[id]? = some y := fun y hy => hup id y hne hy
    refine ⟨id, off, e, ?_, fun j y hy => ?_⟩
    · unfold rowEsz at he ⊢
      cases hm : M[id]? with
      | none => rw [hm] at he; cases he
      | some y => rw [heq y hm]; rw [hm] at he; exact he
    · have := hc j y hy
      unfold cellAt at this ⊢
      cases hm : M[id]? with
      | none => rw [hm] at this; cases this
      | some y => rw [heq y hm]; rw [hm] at this; exact this
  first | (refine ctr_fn Tryz.func70 rfl Tryz.ntmps70 Tryz.results70 rfl rfl (by simp) ?_) | (refine ctr_fnC Tryz.func70 rfl Tryz.ntmps70 Tryz.results70 rfl (by simp) ?_)
  simp
  refine awDraw_E 9 [[],[0],[1,0],[2,1,0],[],[4],[5,4],[6,5,4],[7,6,5,4],[3,2,1,0,8,7,6,5,4]] (by kernel_rfl) (by kernel_rfl) ?_
  simp [a0, a1]
  by_cases hkn : k < n
  · obtain ⟨id, off, rfl, he, hc⟩ := hsl.at_ hkn
    have hb0 : cellAt M id (off + k * 1) = some (.int .u8 (el cs k)) := hc 0 _ rfl
    simp only [Nat.mul_one] at hb0
    have hx := hcs _ (el_mem (l := cs) (i := k) (by have := hsl.1; omega))
    simp [hkn]
    refine awDraw_E 8 [[],[0],[1,0],[2,1,0],[],[4],[5,4],[6,5,4],[3,2,1,0,7,6,5,4],[8,3,2,1,0,7,6,5,4],[9,8,3,2,1,0,7,6,5,4],[10,9,8,3,2,1,0,7,6,5,4]] (by kernel_rfl) (by kernel_rfl) ?_
    have hw1 : (k : Int) + 1 ≤ n := by omega
    simp (disch := omega) [a0, a1, hkn, he, hb0, wrap_in, hput1', a2, hput2, C]
    refine awDraw_E 9 [[],[0],[1,0],[2,1,0],[],[4],[5,4],[6,5,4],[7,6,5,4],[3,2,1,0,8,7,6,5,4]] (by kernel_rfl) (by kernel_rfl) ?_
    simp (disch := omega) [C, wrap_in, hw1]
    exact fin _ _ hx.1 hx.2
  · simp (disch := omega) [hkn, a1, hput1', a2, hput2, wrap_in, C]
    refine awDraw_E 9 [[],[0],[1,0],[2,1,0],[],[4],[5,4],[6,5,4],[7,6,5,4],[3,2,1,0,8,7,6,5,4]] (by kernel_rfl) (by kernel_rfl) ?_
    have hw1 : ¬ (k : Int) + 1 ≤ n := by omega
    simp (disch := omega) [C, wrap_in, hw1]
    generalize IntKind.u64.wrap (IntKind.u64.wrap (IntKind.u64.wrap (seed * 6364136223846793005) + IntKind.u64.wrap 0) + 1442695040888963407) = Z
    have hx := mask8_bd (Z.fdiv (2 ^ 40))
    rw [shr40]
    generalize Z.fdiv (2 ^ 40) = Y at hx ⊢
    simp (disch := omega) [and255, wrap_in]
    exact fin _ _ hx.1 hx.2
theorem pick_s {M : Mem} {b g k n c : Nat} {A : Option Addr} {cs : List Int} (m : Int) (h : SrcAt g M A n c cs k) (hb : b ≤ g) (hk : k + 2 ≤ 1099511627776) (hn : n ≤ 1099511627776) (hm : m ≤ 1099511627776) :
    Ctr Tryz.prog b 38 [.pointer (some ⟨g, 0, none⟩), iv m] M fun r M' => ∃ (x : Int) (k' : Nat), r = iv x ∧ 0 ≤ x ∧ (x < m ∨ (m ≤ 1 ∧ x = 0)) ∧ k' ≤ k + 2 ∧ SrcAt g M' A n c cs k' ∧ UpdS g M M' := by
  first | (refine ctr_fn Tryz.func38 rfl Tryz.ntmps38 Tryz.results38 rfl rfl (by simp) ?_) | (refine ctr_fnC Tryz.func38 rfl Tryz.ntmps38 Tryz.results38 rfl (by simp) ?_)
  simp
  by_cases h1 : m ≤ 1
  · simp [h1]
    exact ⟨k, by omega, h, rfl, fun i s _ hs => hs⟩
  · simp [h1]
    refine awCall_ctr (next_s h hb (by omega) hn) ?_
    rintro r M1 ⟨⟨x, rfl, x0, x1⟩, h2, u1⟩
    have hmod : ∀ y : Int, 0 ≤ y → y.tmod m = y % m ∧ 0 ≤ y % m ∧ y % m < m := fun y hy => ⟨Int.tmod_eq_emod_of_nonneg hy, Int.emod_nonneg _ (by omega), Int.emod_lt_of_pos _ (by omega)⟩
    have hm0 : ¬ m = 0 := by omega
    by_cases h3 : 200 < m
    · simp (disch := omega) [h3, wrap_in]
      refine awCall_ctr (next_s h2 hb (by omega) hn) ?_
      rintro r M2 ⟨⟨y, rfl, y0, y1⟩, h4, u2⟩
      obtain ⟨e1, e2, e3⟩ := hmod (x * 256 + y) (by omega)
      simp (disch := omega) [wrap_in, hm0, e1]
      exact ⟨e2, .inl e3, k + 1 + 1, by omega, h4, u2.1.trans u1.1, fun i s hi hs => u2.2 i s hi (u1.2 i s hi hs)⟩
    · obtain ⟨e1, e2, e3⟩ := hmod x x0
      simp (disch := omega) [h3, wrap_in, hm0, e1]
      exact ⟨e2, .inl e3, k + 1, by omega, h2, u1⟩
end Go.Proofs.YtodbjnngkonklaaGreat

namespace Go.Proofs.YtodbjnngkonklaaGreat
open Go.RowKit
set_option linter.unusedVariables false
set_option linter.unusedSimpArgs false
set_option maxRecDepth 100000
attribute [local simp] List.getElem?_cons_zero
attribute [local irreducible] awCond awCall awLoop awDraw ow retQ retC resQ Keeps
theorem SrcAt.same {g : Nat} {M M' : Mem} {A : Option Addr} {n c : Nat} {cs : List Int} {k B : Nat} (h : SrcAt g M A n c cs k) (hs : Same B M M') (hg : g < B) (hA : ∀ a, A = some a → 0 < n → a.block < B) : SrcAt g M' A n c cs k := by
  obtain ⟨seed, hr, hsl, hap, hcs⟩ := h
  refine ⟨seed, hs.2 _ _ hg hr, ⟨hsl.1, fun hp => ?_⟩, hap, hcs⟩
  obtain ⟨id, off, e, he, hc⟩ := hsl.2 hp
  have hlt := hA _ e hp
  refine ⟨id, off, e, ?_, fun j y hy => ?_⟩
  · unfold rowEsz at he ⊢
    cases hm : M[id]? with
    | none => rw [hm] at he; cases he
    | some y => rw [hs.2 _ _ hlt hm]; rw [hm] at he; exact he
  · have := hc j y hy
    unfold cellAt at this ⊢
    cases hm : M[id]? with
    | none => rw [hm] at this; cases this
    | some y => rw [hs.2 _ _ hlt hm]; rw [hm] at this; exact this
/-- A source in row g, behind k draws; what it needs lies below B. -/
def Src (g B : Nat) (M : Mem) (k : Nat) : Prop := ∃ A n c cs, SrcAt g M A n c cs k ∧ g < B ∧ (∀ a, A = some a → 0 < n → a.block < B) ∧ n ≤ 1048576
theorem Src.same {g B k : Nat} {M M' : Mem} (h : Src g B M k) (hs : Same B M M') : Src g B M' k := by
  obtain ⟨A, n, c, cs, h1, h2, h3, h4⟩ := h
  exact ⟨A, n, c, cs, h1.same hs h2 h3, h2, h3, h4⟩
theorem Src.app {g B k : Nat} {M : Mem} (h : Src g B M k) (L : Mem) : Src g B (M ++ L) k :=
  h.same ⟨by simp, fun i s _ hs => by rw [List.getElem?_append_left (List.getElem?_eq_some_iff.1 hs).1]; exact hs⟩
theorem UpdS.acc {α : Type} {q : Nat} {R : RecV α q} {e : TypeId} {g B : Nat} {M M' : Mem} {v : Value} {l : List α} (u : UpdS g M M') (h : Acc R e B M v l) (hg : g < B) : Acc R e B M' v l := by
  obtain ⟨A, n, c, h1, h2, h3⟩ := h
  refine ⟨A, n, c, h1, h2, ?_⟩
  rcases h3 with h3 | ⟨id, t, h4, h5, h6⟩
  · exact .inl h3
  · exact .inr ⟨id, t, h4, h5, u.2 _ _ (by omega) h6⟩
theorem UpdS.same {g B : Nat} {M M' : Mem} (u : UpdS g M M') (h : B ≤ g) : Same B M M' := ⟨by rw [u.1]; exact Nat.le_refl _, fun i s hi hs => u.2 i s (by omega) hs⟩
theorem Same.trans {B : Nat} {M M1 M2 : Mem} (h : Same B M M1) (h' : Same B M1 M2) : Same B M M2 := ⟨Nat.le_trans h.1 h'.1, fun i s hi hs => h'.2 i s hi (h.2 i s hi hs)⟩
theorem Same.low {B B' : Nat} {M M' : Mem} (h : Same B M M') (hb : B' ≤ B) : Same B' M M' := ⟨h.1, fun i s hi hs => h.2 i s (by omega) hs⟩
theorem Src.pick {M : Mem} {b g k B : Nat} (m : Int) (h : Src g B M k) (hb : b ≤ g) (hk : k + 2 ≤ 1099511627776) (hm : m ≤ 1099511627776) :
    Ctr Tryz.prog b 38 [.pointer (some ⟨g, 0, none⟩), iv m] M fun r M' => ∃ (x : Int) (k' : Nat), r = iv x ∧ 0 ≤ x ∧ (x < m ∨ (m ≤ 1 ∧ x = 0)) ∧ k' ≤ k + 2 ∧ Src g B M' k' ∧ UpdS g M M' := by
  obtain ⟨A, n, c, cs, h1, h2, h3, h4⟩ := h
  refine (pick_s m h1 hb hk (by omega) hm).mono fun r M' ⟨x, k', a1, a2, a3, a4, a5, a6⟩ => ⟨x, k', a1, a2, a3, a4, ⟨A, n, c, cs, a5, h2, h3, h4⟩, a6⟩
theorem src_build (A : Option Addr) (n c : Nat) : Instr.fill (fun x => [(0, 1), (1, 1), (2, 1)][x]?) #[.slice none 0 0, .int .i64 0, .int .u64 0] [(0, .slice A n c)] = some #[.slice A n c, .int .i64 0, .int .u64 0] := by rfl
theorem l00From_a {M : Mem} {A : Option Addr} {n c : Nat} {cs : List Int} (h : Sl codeR M A n cs) (hn : n ≤ 1048576) (hcs : ∀ x, x ∈ cs → 0 ≤ x ∧ x ≤ 255) : Det Tryz.prog M.length 12 [.slice A n c] M (.pointer (some ⟨M.length, 0, none⟩)) (M ++ [.live ⟨[.slice A n c, iv 0, .int .u64 0], true, true, 77, 3⟩]) := by
  refine Ctr.det ?_
  first | (refine ctr_fn Tryz.func12 rfl Tryz.ntmps12 Tryz.results12 rfl rfl (by simp) ?_) | (refine ctr_fnC Tryz.func12 rfl Tryz.ntmps12 Tryz.results12 rfl (by simp) ?_)
  simp [src_build]
theorem src_new {M : Mem} {A : Option Addr} {n c : Nat} {cs : List Int} (h : Sl codeR M A n cs) (hn : n ≤ 1048576) (hcs : ∀ x, x ∈ cs → 0 ≤ x ∧ x ≤ 255) : Src M.length (M.length + 1) (M ++ [.live ⟨[.slice A n c, iv 0, .int .u64 0], true, true, 77, 3⟩]) 0 :=
  ⟨A, n, c, cs, ⟨0, by rw [getElem?_snoc_eq]; rfl, h.app _, fun a e hp => by obtain ⟨b, e', hb⟩ := h.lt hp; rw [e] at e'; cases e'; omega, hcs⟩, by omega, fun a e hp => by obtain ⟨b, e', hb⟩ := h.lt hp; rw [e] at e'; cases e'; omega, hn⟩
end Go.Proofs.YtodbjnngkonklaaGreat

namespace Go.Proofs.YtodbjnngkonklaaGreat
open Go.RowKit
set_option linter.unusedVariables false
set_option linter.unusedSimpArgs false
set_option maxRecDepth 100000
attribute [local simp] List.getElem?_cons_zero
attribute [local irreducible] awCond awCall awLoop awDraw ow retQ retC resQ Keeps
theorem UpdS.sl {α : Type} {q : Nat} {R : RecV α q} {g n : Nat} {M M' : Mem} {A : Option Addr} {l : List α} (u : UpdS g M M') (h : Sl R M A n l) (hA : ∀ a, A = some a → 0 < n → a.block ≠ g) : Sl R M' A n l := by
  refine ⟨h.1, fun hp => ?_⟩
  obtain ⟨id, off, e, he, hc⟩ := h.2 hp
  have hne := hA _ e hp
  have up : ∀ s, M[id]? = some s → M'[id]? = some s := fun s hs => u.2 id s hne hs
  refine ⟨id, off, e, ?_, fun j y hy => ?_⟩
  · unfold rowEsz at he ⊢
    cases hm : M[id]? with
    | none => rw [hm] at he; cases he
    | some y => rw [up y hm]; rw [hm] at he; exact he
  · have := hc j y hy
    unfold cellAt at this ⊢
    cases hm : M[id]? with
    | none => rw [hm] at this; cases this
    | some y => rw [up y hm]; rw [hm] at this; exact this
theorem among_s {M : Mem} {b g k B n c : Nat} {A : Option Addr} {l : List Int} (h : Src g B M k) (hb : b ≤ g) (hk : k + 2 ≤ 1099511627776) (hl : Sl intR M A n l) (hA : ∀ a, A = some a → 0 < n → a.block ≠ g) (h0 : 0 < n) (hn : n ≤ 1099511627776) :
    Ctr Tryz.prog b 13 [.pointer (some ⟨g, 0, none⟩), .slice A n c] M fun r M' => ∃ (x : Int) (k' : Nat), r = iv x ∧ x ∈ l ∧ k' ≤ k + 2 ∧ Src g B M' k' ∧ UpdS g M M' := by
  have hll := hl.1
  first | (refine ctr_fn Tryz.func13 rfl Tryz.ntmps13 Tryz.results13 rfl rfl (by simp) ?_) | (refine ctr_fnC Tryz.func13 rfl Tryz.ntmps13 Tryz.results13 rfl (by simp) ?_)
  simp
  refine awCall_ctr (h.pick n hb hk (by omega)) ?_
  rintro r M1 ⟨x, k1, rfl, x0, x1, hk1, h1, u1⟩
  obtain ⟨q, rfl⟩ := Int.eq_ofNat_of_zero_le x0
  have hq : q < n := by omega
  obtain ⟨id, off, rfl, he, hc⟩ := (u1.sl hl hA).at_ hq
  have c0 : cellAt M1 id (off + q * 1) = some (iv (el l q)) := hc 0 _ rfl
  simp only [Nat.mul_one] at c0
  simp (disch := omega) [hq, he, c0]
  exact ⟨el_mem (by omega), k1, hk1, h1, u1⟩
end Go.Proofs.YtodbjnngkonklaaGreat

namespace Go.Proofs.YtodbjnngkonklaaGreat
open Go.RowKit
set_option linter.unusedVariables false
set_option linter.unusedSimpArgs false
set_option maxRecDepth 100000
attribute [local simp] List.getElem?_cons_zero
attribute [local irreducible] awCond awCall awLoop awDraw ow retQ retC resQ Keeps
theorem put_box {b : Nat} {M : Mem} {vs cs : List Value} {t : Bool} {e : TypeId} {z : Nat} (hb : b ≤ M.length) (hl : vs.length = cs.length) (h1 : vs.all oneV = true) :
    putCells b (M ++ [.live ⟨cs, true, t, e, z⟩]) M.length 0 vs = some (M ++ [.live ⟨vs, true, t, e, z⟩]) := by
  rw [put_whole getElem?_snoc_eq hb hl h1]
  simp
theorem cells_hr {M : Mem} {id n : Nat} {r : Row} (h : M[id]? = some (.live r)) (hn : n = r.cells.length) : cellsAt M id 0 n = some r.cells := by
  subst hn
  simp [cellsAt, h]
end Go.Proofs.YtodbjnngkonklaaGreat

namespace Go.Proofs.YtodbjnngkonklaaGreat
open Go.RowKit
set_option linter.unusedVariables false
set_option linter.unusedSimpArgs false
set_option maxRecDepth 100000
attribute [local simp] List.getElem?_cons_zero
attribute [local irreducible] awCond awCall awLoop awDraw ow retQ retC resQ Keeps
theorem Same.app (B : Nat) (M L : Mem) : Same B M (M ++ L) := ⟨by simp, fun i s _ hs => by rw [List.getElem?_append_left (List.getElem?_eq_some_iff.1 hs).1]; exact hs⟩
theorem Acc.box {α : Type} {q : Nat} {R : RecV α q} {e : TypeId} {g B : Nat} {M M' : Mem} {s s' : Slot} {v : Value} {l : List α} (h : Acc R e B M v l) (hg : g < B) (u : UpdS g (M ++ [s]) M') : Acc R e B (M'.set M.length s') v l := by
  obtain ⟨A, n, c, h1, h2, h3⟩ := h
  refine ⟨A, n, c, h1, h2, ?_⟩
  rcases h3 with h3 | ⟨id, t, h4, h5, h6⟩
  · exact .inl h3
  · have hlt := (List.getElem?_eq_some_iff.1 h6).1
    exact .inr ⟨id, t, h4, h5, by rw [List.getElem?_set_ne (by omega)]; exact u.2 _ _ (by omega) (by rw [List.getElem?_append_left hlt]; exact h6)⟩
end Go.Proofs.YtodbjnngkonklaaGreat

namespace Go.Proofs.YtodbjnngkonklaaGreat
open Go.RowKit
set_option linter.unusedVariables false
set_option linter.unusedSimpArgs false
set_option maxRecDepth 100000
attribute [local simp] List.getElem?_cons_zero
attribute [local irreducible] awCond awCall awLoop awDraw ow retQ retC resQ Keeps
/-- Row g alone may have turned; more may lie behind. -/
def Grow (g : Nat) (M M' : Mem) : Prop := M.length ≤ M'.length ∧ ∀ (i : Nat) s, i ≠ g → M[i]? = some s → M'[i]? = some s
theorem Grow.refl (g : Nat) (M : Mem) : Grow g M M := ⟨Nat.le_refl _, fun _ _ _ h => h⟩
theorem Grow.trans {g : Nat} {M M1 M2 : Mem} (h : Grow g M M1) (h' : Grow g M1 M2) : Grow g M M2 := ⟨Nat.le_trans h.1 h'.1, fun i s hi hs => h'.2 i s hi (h.2 i s hi hs)⟩
theorem Grow.app (g : Nat) (M L : Mem) : Grow g M (M ++ L) := ⟨by simp, fun i s _ hs => by rw [List.getElem?_append_left (List.getElem?_eq_some_iff.1 hs).1]; exact hs⟩
theorem UpdS.grow {g : Nat} {M M' : Mem} (u : UpdS g M M') : Grow g M M' := ⟨Nat.le_of_eq u.1.symm, u.2⟩
theorem Grow.same {g B : Nat} {M M' : Mem} (u : Grow g M M') (h : B ≤ g) : Same B M M' := ⟨u.1, fun i s hi hs => u.2 i s (by omega) hs⟩
theorem Grow.acc {α : Type} {q : Nat} {R : RecV α q} {e : TypeId} {g B : Nat} {M M' : Mem} {v : Value} {l : List α} (u : Grow g M M') (h : Acc R e B M v l) (hg : g < B) : Acc R e B M' v l := by
  obtain ⟨A, n, c, h1, h2, h3⟩ := h
  refine ⟨A, n, c, h1, h2, ?_⟩
  rcases h3 with h3 | ⟨id, t, h4, h5, h6⟩
  · exact .inl h3
  · exact .inr ⟨id, t, h4, h5, u.2 _ _ (by omega) h6⟩
theorem Same.grow {g B : Nat} {M M' : Mem} (h : Same B M M') (k : ∀ (i : Nat) s, i ≠ g → B ≤ i → M[i]? = some s → M'[i]? = some s) : Grow g M M' :=
  ⟨h.1, fun i s hi hs => (Nat.lt_or_ge i B).elim (fun hb => h.2 i s hb hs) fun hb => k i s hi hb hs⟩
theorem Src.lt {g B k : Nat} {M : Mem} (h : Src g B M k) : g < B := by obtain ⟨_, _, _, _, _, h, _⟩ := h; exact h
theorem fill4 (a b c d : Int) : Instr.fill (fun i => some (i, 1)) (zrow [iv 0] 4).toArray [(0, iv a), (1, iv b), (2, iv c), (3, iv d)] = some #[iv a, iv b, iv c, iv d] := by rfl
theorem fill_ints {k : IntKind} (l : List Int) {n : Nat} (hn : l.length = n) : Instr.fill (fun i => some (i, 1)) (zrow [.int k 0] n).toArray (((l.map (Value.int k)).zipIdx 0).map fun x => (x.2, x.1)) = some (l.map (Value.int k)).toArray := by
  have h := Go.Great.fill_whole (s := 1) (by omega) (l.map (Value.int k)) (zrow [.int k 0] n).toArray (fun v hv => by obtain ⟨x, -, rfl⟩ := List.mem_map.1 hv; rfl) (by simp [zrow, hn])
  simp only [Nat.mul_one] at h
  rw [h]
  congr 2
  clear h hn
  induction l with
  | nil => rfl
  | cons a l ih => simp only [List.map_cons, List.flatMap_cons, ih, cells_int]; rfl
theorem fill6 (a b c d e f : Int) : Instr.fill (fun i => some (i, 1)) (zrow [iv 0] 6).toArray [(0, iv a), (1, iv b), (2, iv c), (3, iv d), (4, iv e), (5, iv f)] = some #[iv a, iv b, iv c, iv d, iv e, iv f] :=
  fill_ints (k := .i64) [a, b, c, d, e, f] rfl
end Go.Proofs.YtodbjnngkonklaaGreat

namespace Go.Proofs.YtodbjnngkonklaaGreat
open Go.RowKit
set_option linter.unusedVariables false
set_option linter.unusedSimpArgs false
set_option maxRecDepth 100000
attribute [local simp] List.getElem?_cons_zero
attribute [local irreducible] awCond awCall awLoop awDraw ow retQ retC resQ Keeps
theorem among_new {M : Mem} {b g k B : Nat} {cs : List Value} (l : List Int) {n : Nat} (hc : cs = cellsL intR l) (h : Src g B M k) (hb : b ≤ g) (hk : k + 2 ≤ 1099511627776) (h0 : 0 < n) (hn : n ≤ 100) (hl : l.length = n) (hB : B ≤ M.length) :
    Ctr Tryz.prog b 13 [.pointer (some ⟨g, 0, none⟩), .slice (some ⟨M.length, 0, none⟩) n n] (M ++ [.live ⟨cs, true, true, 2, 1⟩]) fun r M' => ∃ (x : Int) (k' : Nat), r = iv x ∧ x ∈ l ∧ k' ≤ k + 2 ∧ Src g B M' k' ∧ Grow g M M' := by
  subst hc
  have hg := h.lt
  have hsl : Sl intR (M ++ [.live ⟨cellsL intR l, true, true, 2, 1⟩]) (some ⟨M.length, 0, none⟩) n l := Sl.new hl
  refine (among_s (c := n) (h.app _) hb hk hsl (fun a e _ => by injection e with e; subst e; show M.length ≠ g; omega) h0 (by omega)).mono ?_
  rintro r M' ⟨x, k', rfl, hx, hk', hS, u⟩
  exact ⟨x, k', rfl, hx, hk', hS, (Grow.app g M _).trans u.grow⟩
theorem cell_hr {M : Mem} {id : Nat} {r : Row} (h : M[id]? = some (.live r)) (off : Nat) : cellAt M id off = r.cells[off]? := by simp [cellAt, h]
theorem set_get {M : Mem} {id : Nat} {s : Slot} (h : id < M.length) : (M.set id s)[id]? = some s := List.getElem?_set_self h
theorem Same.set {B id : Nat} {M : Mem} {s : Slot} (h : B ≤ id) : Same B M (M.set id s) := ⟨by simp, fun i t hi ht => by rw [List.getElem?_set_ne (by omega)]; exact ht⟩
theorem fill9 (a b c d e f g h i : Int) : Instr.fill (fun i => some (i, 1)) (zrow [iv 0] 9).toArray [(0, iv a), (1, iv b), (2, iv c), (3, iv d), (4, iv e), (5, iv f), (6, iv g), (7, iv h), (8, iv i)] = some #[iv a, iv b, iv c, iv d, iv e, iv f, iv g, iv h, iv i] :=
  fill_ints (k := .i64) [a, b, c, d, e, f, g, h, i] rfl
theorem fill5 (a b c d e : Int) : Instr.fill (fun i => some (i, 1)) (zrow [iv 0] 5).toArray [(0, iv a), (1, iv b), (2, iv c), (3, iv d), (4, iv e)] = some #[iv a, iv b, iv c, iv d, iv e] :=
  fill_ints (k := .i64) [a, b, c, d, e] rfl
end Go.Proofs.YtodbjnngkonklaaGreat

namespace Go.Proofs.YtodbjnngkonklaaGreat
open Go.RowKit
set_option linter.unusedVariables false
set_option linter.unusedSimpArgs false
set_option maxRecDepth 100000
attribute [local simp] List.getElem?_cons_zero
attribute [local irreducible] awCond awCall awLoop awDraw ow retQ retC resQ Keeps
structure Tempo where
  (bn bd s : Int)
deriving Inhabited, DecidableEq
def Tempo.row (c : Tempo) : List Value := [iv c.bn, iv c.bd, iv c.s]
abbrev Tempo.v (c : Tempo) : Value := .agg #[iv c.bn, iv c.bd, iv c.s]
@[simp] theorem tempo_fill (x0 x1 x2 : Int) : Instr.fill (fun i => some (i * 3, 3)) (zrow [iv 0, iv 0, iv 0] 1).toArray [(0, .agg #[iv x0, iv x1, iv x2])] = some #[iv x0, iv x1, iv x2] := fill_agg (by omega) rfl rfl
end Go.Proofs.YtodbjnngkonklaaGreat

namespace Go.Proofs.YtodbjnngkonklaaGreat
open Go.RowKit
set_option linter.unusedVariables false
set_option linter.unusedSimpArgs false
set_option maxRecDepth 100000
attribute [local simp] List.getElem?_cons_zero
attribute [local irreducible] awCond awCall awLoop awDraw ow retQ retC resQ Keeps
end Go.Proofs.YtodbjnngkonklaaGreat

namespace Go.Proofs.YtodbjnngkonklaaGreat
open Go.RowKit
set_option linter.unusedVariables false
set_option linter.unusedSimpArgs false
set_option maxRecDepth 100000
attribute [local simp] List.getElem?_cons_zero
attribute [local irreducible] awCond awCall awLoop awDraw ow retQ retC resQ Keeps
def Tempo.beat (t : Tempo) : Frac := ⟨t.bn, t.bd⟩
/-- A position behind another one, by a difference of beats times some samples; and a code. -/
def onF (frm beat : Frac) (s : Int) (at_ : Frac) : Frac × Int :=
  if (subF beat frm).2 ≠ 0 then (at_, (subF beat frm).2) else
  if (mulF (subF beat frm).1 ⟨s, 1⟩).2 ≠ 0 then (at_, (mulF (subF beat frm).1 ⟨s, 1⟩).2) else addF at_ (mulF (subF beat frm).1 ⟨s, 1⟩).1
/-- The position of a tempo. -/
def posK (l : List Tempo) : Nat → Option Frac
  | 0 => some ⟨0, 1⟩
  | k + 1 => (posK l k).bind fun at_ => if (onF (el l k).beat (el l (k + 1)).beat (el l k).s at_).2 = 0 then some (onF (el l k).beat (el l (k + 1)).beat (el l k).s at_).1 else none
def tempoB (t : Tempo) : Bool := beatB t.beat && inB t.s 1 1000
/-- Tempos in order, of which the first is at 0. -/
def tempA (l : List Tempo) : Bool := inB l.length 1 8 && l.all tempoB && decide ((el l 0).bn = 0) && decide (∀ i, i < l.length → 0 < i → cmpF (el l (i - 1)).beat (el l i).beat < 0)
def tempB (l : List Tempo) : Bool := tempA l && decide (∀ k, k < l.length → (posK l k).isSome = true)
def posAll (l : List Tempo) : List Frac := (List.range l.length).map fun k => (posK l k).getD ⟨0, 1⟩
theorem tempA_iff {l : List Tempo} : tempA l = true ↔ (1 ≤ l.length ∧ l.length ≤ 8) ∧ (∀ i, i < l.length → tempoB (el l i) = true) ∧ (el l 0).bn = 0 ∧ ∀ i, i < l.length → 0 < i → cmpF (el l (i - 1)).beat (el l i).beat < 0 := by
  simp only [tempA, Bool.and_eq_true, decide_eq_true_eq, inB_iff, and_assoc, List.all_eq_true]
  constructor
  · rintro ⟨h1, h2, h3, h4, h5⟩
    exact ⟨by omega, by omega, fun i hi => h3 _ (el_mem hi), h4, h5⟩
  · rintro ⟨h1, h2, h3, h4, h5⟩
    refine ⟨by omega, by omega, fun x hx => ?_, h4, h5⟩
    obtain ⟨i, hi, rfl⟩ := List.getElem_of_mem hx
    rw [el_eq hi]
    exact h3 i hi
theorem cmpF_le {a b : Frac} : cmpF a b ≤ 0 ↔ a.n * b.d ≤ b.n * a.d := by
  unfold cmpF
  split
  · constructor <;> intro h <;> omega
  · split
    · constructor <;> intro h <;> omega
    · constructor <;> intro h <;> omega
theorem cmpF_lt {a b : Frac} : cmpF a b < 0 ↔ a.n * b.d < b.n * a.d := by
  unfold cmpF
  split
  · constructor <;> intro h <;> omega
  · split
    · constructor <;> intro h <;> omega
    · constructor <;> intro h <;> omega
end Go.Proofs.YtodbjnngkonklaaGreat

namespace Go.Proofs.YtodbjnngkonklaaGreat
open Go.RowKit
set_option linter.unusedVariables false
set_option linter.unusedSimpArgs false
set_option maxRecDepth 100000
attribute [local simp] List.getElem?_cons_zero
attribute [local irreducible] awCond awCall awLoop awDraw ow retQ retC resQ Keeps
theorem tempB_iff {l : List Tempo} : tempB l = true ↔ tempA l = true ∧ ∀ k, k < l.length → (posK l k).isSome = true := by
  simp only [tempB, Bool.and_eq_true, decide_eq_true_eq]
theorem cells_hrq {M : Mem} {id n : Nat} {r : Row} (h : M[id]? = some (.live r)) (hn : n = r.cells.length) : cellsAt M id 0 n = some r.cells := by
  subst hn
  simp [cellsAt, h]
/-- How far the reading of a map has come. -/
structure TP (l : List Tempo) (k : Nat) (a : Frac) : Prop where
  tempo : ∀ i, i < k → tempoB (el l i) = true
  first : 0 < k → (el l 0).bn = 0
  sort : ∀ i, i < k → 0 < i → cmpF (el l (i - 1)).beat (el l i).beat < 0
  pos : ∀ i, i < k → (posK l i).isSome = true
  at_ : posK l (k - 1) = some a
theorem TP.done {l : List Tempo} {a : Frac} (h : TP l l.length a) (hl : inB l.length 1 8 = true) : tempB l = true :=
  tempB_iff.2 ⟨tempA_iff.2 ⟨by have := inB_iff.1 hl; omega, h.tempo, h.first (by have := inB_iff.1 hl; omega), h.sort⟩, h.pos⟩
def PosR (M : Mem) (l : List Tempo) (n : Nat) (r : Value) (M' : Mem) : Prop := ∃ v, r = .tuple #[v, .bool (tempB l)] ∧ (tempB l = true → ∃ A c, v = .slice A n c ∧ Sl fracR M' A n (posAll l)) ∧ Keeps M M'
theorem PosR.no {M M' : Mem} {l : List Tempo} {n : Nat} {v : Value} (hk : Keeps M M') (e : tempB l = false) : PosR M l n (.tuple #[v, .bool false]) M' := by
  refine ⟨v, by rw [e], ?_, hk⟩
  intro h
  rw [e] at h
  cases h
theorem PosR.yes {M M' : Mem} {l : List Tempo} {n : Nat} {A : Option Addr} {c : Nat} (hk : Keeps M M') (e : tempB l = true) (hs : Sl fracR M' A n (posAll l)) : PosR M l n (.tuple #[.slice A n c, .bool true]) M' :=
  ⟨_, by rw [e], fun _ => ⟨A, c, rfl, hs⟩, hk⟩
end Go.Proofs.YtodbjnngkonklaaGreat
