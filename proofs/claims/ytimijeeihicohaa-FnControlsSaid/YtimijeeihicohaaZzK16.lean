/- Parts of the proof, together: Levels of envelopes, in both packages. Clip: records in memory, and the laws' helpers on them. Track: a struct that holds a slice of records. Tracks: is one valid. Sources and samples. The program's controls of a voice. Controls of a voice: plain, and their lists in memory. Tracks are rendered. No conditions. -/
import Derived.Test.YtimijeeihicohaaZzK11
import Derived.Test.YtimijeeihicohaaZzK15
import Derived.Test.YtimijeeihicohaaZzK9
import Derived.Laws.StructEq
import Derived.Test.YtimijeeihicohaaZzK12
import Derived.Test.YtimijeeihicohaaZzK14
namespace Go.Proofs.Ytimijeeihicohaa
open Go.RowKit
set_option linter.unusedVariables false
set_option linter.unusedSimpArgs false
set_option maxRecDepth 100000
attribute [local simp] List.getElem?_cons_zero
attribute [local irreducible] awCond awCall awLoop awDraw ow retQ retC resQ Keeps
def lineV (f t L a : Int) : Int := if L ≤ a then t else f + (t - f) * a / L
def heldV (st : Int) : List Segment → Int → Int
  | [], _ => st
  | s :: l, a => if a < s.ln then lineV st s.tg s.ln a else heldV s.tg l (a - s.ln)
theorem heldV_cons {st : Int} {s : Segment} {l : List Segment} {a : Int} : heldV st (s :: l) a = if a < s.ln then lineV st s.tg s.ln a else heldV s.tg l (a - s.ln) := rfl
def levelV (e : Envl) (gate a : Int) : Int := if a < gate then heldV e.st e.segs a else lineV (heldV e.st e.segs gate) 0 e.rel (a - gate)
theorem line_mul {f t a : Int} (h1 : 0 ≤ f) (h2 : f ≤ 65536) (h3 : 0 ≤ t) (h4 : t ≤ 65536) (h5 : 0 ≤ a) (h6 : a ≤ 4000) : -262144000 ≤ (t - f) * a ∧ (t - f) * a ≤ 262144000 := by
  have h : ((t - f) * a).natAbs ≤ 65536 * 4000 := by
    rw [Int.natAbs_mul]
    exact Nat.mul_le_mul (by omega) (by omega)
  omega
theorem lineV_bd {f t L a : Int} (h1 : 0 ≤ f) (h2 : f ≤ 65536) (h3 : 0 ≤ t) (h4 : t ≤ 65536) (h5 : 0 ≤ a) (h7 : 0 ≤ L) : 0 ≤ lineV f t L a ∧ lineV f t L a ≤ 65536 := by
  unfold lineV
  split
  · exact ⟨h3, h4⟩
  · rename_i h
    have hL : 0 < L := by omega
    have haL : a ≤ L := by omega
    rcases Int.le_total f t with hft | hft
    · have m1 : 0 ≤ (t - f) * a := Int.mul_nonneg (by omega) h5
      have m2 : (t - f) * a ≤ (t - f) * L := Int.mul_le_mul_of_nonneg_left haL (by omega)
      have q1 : 0 ≤ (t - f) * a / L := Int.ediv_nonneg m1 (by omega)
      have q2 : (t - f) * a / L ≤ t - f := Int.ediv_le_of_le_mul hL m2
      omega
    · have m1 : (f - t) * a ≤ (f - t) * L := Int.mul_le_mul_of_nonneg_left haL (by omega)
      have m2 : 0 ≤ (f - t) * a := Int.mul_nonneg (by omega) h5
      have e1 : (t - f) * a = -((f - t) * a) := by rw [← Int.neg_mul]; congr 1; omega
      have e2 : (t - f) * L = -((f - t) * L) := by rw [← Int.neg_mul]; congr 1; omega
      have q1 : t - f ≤ (t - f) * a / L := Int.le_ediv_of_mul_le hL (by omega)
      have q2 : (t - f) * a / L ≤ 0 := by
        have := Int.ediv_le_of_le_mul (a := (t - f) * a) (b := 0) hL (by omega)
        exact this
      omega
theorem lineAt_i {M : Mem} (f t L a : Int) (h1 : 0 ≤ f) (h2 : f ≤ 65536) (h3 : 0 ≤ t) (h4 : t ≤ 65536) (h5 : 0 ≤ a) (h6 : a ≤ L) (h7 : L ≤ 4000) : Det Try.prog M.length 107 [iv f, iv t, iv L, iv a] M (iv (lineV f t L a)) M := by
  have hb := line_mul h1 h2 h3 h4 h5 (show a ≤ 4000 by omega)
  first | (refine det_fn Try.func107 rfl Try.ntmps107 Try.results107 rfl rfl rfl (by simp) ?_) | (refine det_fnC Try.func107 rfl Try.ntmps107 Try.results107 rfl rfl (by simp) ?_)
  simp
  by_cases h : a = L
  · have : L ≤ a := by omega
    simp [h, lineV, Keeps.refl]
  · have hl : ¬ L ≤ a := by omega
    have hv := lineV_bd (L := L) h1 h2 h3 h4 h5 (by omega)
    unfold lineV at hv
    rw [if_neg hl] at hv
    simp (disch := omega) [h, wrap_in]
    refine awCall_det' (floorDiv_i _ _ (by omega) (by omega) (by omega)) (by simp) ?_
    simp (disch := omega) [wrap_in, lineV, hl, Keeps.refl]
theorem l14Line_s {M : Mem} (f t L a : Int) (h1 : 0 ≤ f) (h2 : f ≤ 65536) (h3 : 0 ≤ t) (h4 : t ≤ 65536) (h5 : 0 ≤ a) (h6 : 0 ≤ L) (h7 : L ≤ 4000) : Det Try.prog M.length 87 [iv f, iv t, iv L, iv a] M (iv (lineV f t L a)) M := by
  first | (refine det_fn Try.func87 rfl Try.ntmps87 Try.results87 rfl rfl rfl (by simp) ?_) | (refine det_fnC Try.func87 rfl Try.ntmps87 Try.results87 rfl rfl (by simp) ?_)
  simp
  by_cases h : L ≤ a
  · simp [h, lineV, Keeps.refl]
  · have hb := line_mul h1 h2 h3 h4 h5 (show a ≤ 4000 by omega)
    have hv := lineV_bd (L := L) h1 h2 h3 h4 h5 (by omega)
    unfold lineV at hv
    rw [if_neg h] at hv
    simp (disch := omega) [h, wrap_in]
    refine awCall_det' (floorDiv_s _ _ (by omega) (by omega) (by omega)) (by simp) ?_
    simp (disch := omega) [wrap_in, lineV, h, Keeps.refl]
theorem envB_bd {e : Envl} (h : envB e = true) : (0 ≤ e.st ∧ e.st ≤ 65536) ∧ (0 ≤ e.rel ∧ e.rel ≤ 4000) ∧ e.segs.length ≤ 8 ∧ ∀ i, i < e.segs.length → (0 ≤ (el e.segs i).tg ∧ (el e.segs i).tg ≤ 65536) ∧ 0 ≤ (el e.segs i).ln ∧ (el e.segs i).ln ≤ 4000 := by
  unfold envB at h
  simp only [Bool.and_eq_true, decide_eq_true_eq] at h
  obtain ⟨⟨⟨h1, h2⟩, h3⟩, h4⟩ := h
  refine ⟨inB_iff.1 h2, inB_iff.1 h3, h4, fun i hi => ?_⟩
  have := List.all_eq_true.1 h1 _ (el_mem hi)
  unfold segB at this
  rw [Bool.and_eq_true] at this
  exact ⟨inB_iff.1 this.1, inB_iff.1 this.2⟩
theorem heldV_bd : ∀ (l : List Segment) (st a : Int), 0 ≤ st → st ≤ 65536 → 0 ≤ a → (∀ s, s ∈ l → segB s = true) → 0 ≤ heldV st l a ∧ heldV st l a ≤ 65536
  | [], st, a, h1, h2, _, _ => ⟨h1, h2⟩
  | s :: l, st, a, h1, h2, h3, h => by
    have hs := h s (by simp)
    unfold segB at hs
    rw [Bool.and_eq_true] at hs
    have b1 := inB_iff.1 hs.1
    have b2 := inB_iff.1 hs.2
    unfold heldV
    split
    · exact lineV_bd h1 h2 b1.1 b1.2 h3 b2.1
    · exact heldV_bd l _ _ b1.1 b1.2 (by omega) fun x hx => h x (by simp [hx])
theorem held_i {M : Mem} {lo hi : Nat} {us : List Value} {e : Envl} (a : Int) (h : envP.rd lo hi M e us) (hb : envB e = true) (h1 : 0 ≤ a) (h2 : a ≤ 4000) : Det Try.prog M.length 106 [.agg us.toArray, iv a] M (iv (heldV e.st e.segs a)) M := by
  obtain ⟨u, rfl, A, n, c, rfl, q1, q2, q3⟩ := h
  have hl := q3.1
  obtain ⟨b1, b2, b3, b4⟩ := envB_bd hb
  first | (refine det_fn Try.func106 rfl Try.ntmps106 Try.results106 rfl rfl rfl (by simp) ?_) | (refine det_fnC Try.func106 rfl Try.ntmps106 Try.results106 rfl rfl (by simp) ?_)
  simp
  refine awLoop_T (fun m T M' => ∃ (k : Nat) (lv at_ : Int), k + m = n ∧ Keeps M M' ∧ heldV e.st e.segs a = heldV lv (e.segs.drop k) at_ ∧ (0 ≤ lv ∧ lv ≤ 65536) ∧ (0 ≤ at_ ∧ at_ ≤ 4000) ∧ look T 13 = some (iv k) ∧ look T 12 = some (iv n) ∧ look T 11 = some (.slice A n c) ∧ look T 5 = some (iv lv) ∧ look T 1 = some (iv at_)) n ⟨0, e.st, a, by omega, keeps_app _, by simp, b1, ⟨h1, h2⟩, by simp, by simp, by simp, by simp, by simp⟩ ?_
  rintro m T M' ⟨k, lv, at_, hm, hK, hh, hlv, hat, t13, t12, t11, t5, t1⟩
  have hKl := hK.len
  by_cases hlt : k < n
  · obtain ⟨id, off, rfl, he, hc⟩ := (q3.sl.keeps hK).at_ hlt
    have w := b4 k (by omega)
    rw [drop_el (by omega), heldV_cons] at hh
    have hcl := segment_load hc
    simp (disch := omega) [t13, t12, t11, hlt, wrap_in, he, hcl]
    generalize el e.segs k = g at *
    by_cases hl2 : at_ < g.ln
    · rw [if_pos hl2] at hh
      simp (disch := omega) [t1, t5, hl2, wrap_in]
      refine awCall_det' (lineAt_i lv g.tg g.ln at_ (by omega) (by omega) (by omega) (by omega) (by omega) (by omega) (by omega)) (by simp <;> omega) ?_
      simp [hh, hK.app]
    · rw [if_neg hl2] at hh
      simp (disch := omega) [t1, t5, t13, hl2, wrap_in]
      refine lpI (m - 1) (by omega) ⟨k + 1, g.tg, at_ - g.ln, by omega, hK.app _, hh, w.1, by omega, by simp, by simp [t12], by simp [t11], by simp, by simp⟩
  · obtain rfl : k = n := by omega
    rw [List.drop_of_length_le (by omega)] at hh
    simp [t13, t12, t11, t5, hK]
    exact hh.symm
theorem l14Held_s {M : Mem} {lo hi id0 off0 : Nat} {us : List Value} {e : Envl} (a : Int) (h : envP.rd lo hi M e us) (hc0 : Cl M id0 off0 us) (hb : envB e = true) (h1 : 0 ≤ a) (h2 : a ≤ 4000) : Det Try.prog M.length 86 [.pointer (some ⟨id0, off0, none⟩), iv a] M (iv (heldV e.st e.segs a)) M := by
  obtain ⟨u, rfl, A, n, c, rfl, q1, q2, q3⟩ := h
  have hl := q3.1
  obtain ⟨b1, b2, b3, b4⟩ := envB_bd hb
  have f0 : cellAt M id0 off0 = some (iv e.st) := hc0 0 _ rfl
  have f1 : cellAt M id0 (off0 + 1) = some (.slice A n c) := hc0 1 _ rfl
  have f2 : cellAt M id0 (off0 + 2) = some (iv e.rel) := hc0 2 _ rfl
  first | (refine det_fn Try.func86 rfl Try.ntmps86 Try.results86 rfl rfl rfl (by simp) ?_) | (refine det_fnC Try.func86 rfl Try.ntmps86 Try.results86 rfl rfl (by simp) ?_)
  simp [f0]
  refine awLoop_T (fun m T M' => ∃ (k : Nat) (lv at_ : Int), k + m = n ∧ Keeps M M' ∧ heldV e.st e.segs a = heldV lv (e.segs.drop k) at_ ∧ (0 ≤ lv ∧ lv ≤ 65536) ∧ (0 ≤ at_ ∧ at_ ≤ 4000) ∧ look T 6 = some (iv k) ∧ look T 0 = some (.pointer (some ⟨id0, off0, none⟩)) ∧ look T 5 = some (iv lv) ∧ look T 1 = some (iv at_)) n ⟨0, e.st, a, by omega, Keeps.refl _, by simp, b1, ⟨h1, h2⟩, by simp, by simp, by simp, by simp⟩ ?_
  rintro m T M' ⟨k, lv, at_, hm, hK, hh, hlv, hat, t6, t0, t5, t1⟩
  have hKl := hK.len
  have f1' := cellAt_keeps hK f1
  by_cases hlt : k < n
  · obtain ⟨id, off, rfl, he, hc⟩ := (q3.sl.keeps hK).at_ hlt
    have w := b4 k (by omega)
    rw [drop_el (by omega), heldV_cons] at hh
    have hcl := segment_load hc
    simp (disch := omega) [t6, t0, f1', hlt, wrap_in, he, hcl]
    generalize el e.segs k = g at *
    by_cases hl2 : at_ < g.ln
    · rw [if_pos hl2] at hh
      simp (disch := omega) [t1, t5, hl2, wrap_in]
      refine awCall_det' (l14Line_s lv g.tg g.ln at_ (by omega) (by omega) (by omega) (by omega) (by omega) (by omega) (by omega)) (by simp <;> omega) ?_
      simp [hh, hK.app]
    · rw [if_neg hl2] at hh
      simp (disch := omega) [t1, t5, t6, hl2, wrap_in]
      refine lpI (m - 1) (by omega) ⟨k + 1, g.tg, at_ - g.ln, by omega, hK.app _, hh, w.1, by omega, by simp, by simp [t0], by simp, by simp⟩
  · obtain rfl : k = n := by omega
    rw [List.drop_of_length_le (by omega)] at hh
    simp [t6, t0, f1', t5, hK]
    exact hh.symm
theorem levelV_bd {e : Envl} (hb : envB e = true) {gate a : Int} (h1 : 0 ≤ gate) (h2 : 0 ≤ a) : 0 ≤ levelV e gate a ∧ levelV e gate a ≤ 65536 := by
  obtain ⟨b1, b2, b3, b4⟩ := envB_bd hb
  have hs : ∀ s, s ∈ e.segs → segB s = true := by
    unfold envB at hb
    simp only [Bool.and_eq_true] at hb
    exact List.all_eq_true.1 hb.1.1.1
  unfold levelV
  split
  · exact heldV_bd _ _ _ b1.1 b1.2 h2 hs
  · have := heldV_bd e.segs e.st gate b1.1 b1.2 h1 hs
    exact lineV_bd this.1 this.2 (by omega) (by omega) (by omega) b2.1
theorem levelAt_i {M : Mem} {lo hi : Nat} {us : List Value} {e : Envl} (gate a : Int) (h : envP.rd lo hi M e us) (hb : envB e = true) (h1 : 0 ≤ gate) (h2 : gate ≤ 4000) (h3 : 0 ≤ a) (h4 : a ≤ 4000) : Det Try.prog M.length 79 [.agg us.toArray, iv gate, iv a] M (iv (levelV e gate a)) M := by
  have h' := h
  obtain ⟨u, rfl, hu⟩ := h'
  obtain ⟨b1, b2, b3, b4⟩ := envB_bd hb
  have hs : ∀ s, s ∈ e.segs → segB s = true := by
    have hb' := hb
    unfold envB at hb'
    simp only [Bool.and_eq_true] at hb'
    exact List.all_eq_true.1 hb'.1.1.1
  have hg := heldV_bd e.segs e.st gate b1.1 b1.2 h1 hs
  unfold levelV
  first | (refine det_fn Try.func79 rfl Try.ntmps79 Try.results79 rfl rfl rfl (by simp) ?_) | (refine det_fnC Try.func79 rfl Try.ntmps79 Try.results79 rfl rfl (by simp) ?_)
  simp
  by_cases c1 : a < gate
  · simp [c1]
    refine awCall_det' (held_i a (envP.app h _) hb h3 h4) (by simp) ?_
    simp [keeps_app]
  · simp (disch := omega) [c1, wrap_in]
    refine awCond_split ?_ ?_ <;> intro hr <;> simp at hr
    · simp [c1, keeps_app]
      unfold lineV
      rw [if_pos (by omega)]
    · simp (disch := omega) [c1, wrap_in]
      refine awDraw_E 8 [[],[],[0,1],[],[3],[],[],[5,6],[2,0,1,4,3,7,5,6],[8,2,0,1,4,3,7,5,6]] (by kernel_rfl) (by kernel_rfl) ?_
      simp (disch := omega) [c1, wrap_in]
      refine awCall_det' (d := true) (held_i gate (envP.app h _) hb h1 h2) (by simp) ?_
      simp (disch := omega) [c1, wrap_in]
      refine awCall_det' (lineAt_i _ 0 e.rel (a - gate) hg.1 hg.2 (by omega) (by omega) (by omega) (by omega) (by omega)) (by simp) ?_
      simp [keeps_app]
theorem l14At_s {M : Mem} {lo hi id0 off0 : Nat} {us : List Value} {e : Envl} (gate a : Int) (h : envP.rd lo hi M e us) (hc0 : Cl M id0 off0 us) (hb : envB e = true) (h1 : 0 ≤ gate) (h2 : gate ≤ 4000) (h3 : 0 ≤ a) (h4 : a ≤ 4000) : Det Try.prog M.length 56 [.pointer (some ⟨id0, off0, none⟩), iv gate, iv a] M (iv (levelV e gate a)) M := by
  have h' := h
  obtain ⟨u, rfl, hu⟩ := h'
  obtain ⟨b1, b2, b3, b4⟩ := envB_bd hb
  have hs : ∀ s, s ∈ e.segs → segB s = true := by
    have hb' := hb
    unfold envB at hb'
    simp only [Bool.and_eq_true] at hb'
    exact List.all_eq_true.1 hb'.1.1.1
  have hg := heldV_bd e.segs e.st gate b1.1 b1.2 h1 hs
  have f2 : cellAt M id0 (off0 + 2) = some (iv e.rel) := hc0 2 _ rfl
  unfold levelV
  first | (refine det_fn Try.func56 rfl Try.ntmps56 Try.results56 rfl rfl rfl (by simp) ?_) | (refine det_fnC Try.func56 rfl Try.ntmps56 Try.results56 rfl rfl (by simp) ?_)
  simp
  by_cases c1 : a < gate
  · simp [c1]
    refine awCall_det' (l14Held_s a h hc0 hb h3 h4) (by simp) ?_
    simp [Keeps.refl]
  · simp (disch := omega) [c1, wrap_in]
    refine awDraw_E 10 [[],[],[0,1],[],[3],[4,3],[5,4,3],[],[],[7,8],[2,0,1,6,5,4,3,9,7,8],[10,2,0,1,6,5,4,3,9,7,8]] (by kernel_rfl) (by kernel_rfl) ?_
    simp (disch := omega) [c1, f2, wrap_in]
    refine awCall_det' (d := true) (l14Held_s gate h hc0 hb h1 h2) (by simp) ?_
    simp (disch := omega) [c1, f2, wrap_in]
    refine awCall_det' (l14Line_s _ 0 e.rel (a - gate) hg.1 hg.2 (by omega) (by omega) (by omega) (by omega) (by omega)) (by simp) ?_
    simp [Keeps.refl]
end Go.Proofs.Ytimijeeihicohaa

namespace Go.Proofs.Ytimijeeihicohaa
open Go.RowKit
set_option linter.unusedVariables false
set_option linter.unusedSimpArgs false
set_option maxRecDepth 100000
attribute [local simp] List.getElem?_cons_zero
attribute [local irreducible] awCond awCall awLoop awDraw ow retQ retC resQ Keeps
structure Clip where
  (src fr len at_ gain : Int)
deriving Inhabited, DecidableEq
def Clip.row (c : Clip) : List Value := [iv c.src, iv c.fr, iv c.len, iv c.at_, iv c.gain]
def clipR : RecV Clip 5 := ⟨Clip.row, fun _ => rfl⟩
abbrev Clip.v (c : Clip) : Value := .agg #[iv c.src, iv c.fr, iv c.len, iv c.at_, iv c.gain]
theorem clip_cells {M : Mem} {id off : Nat} {g : Clip} (h : Cl M id off g.row) : cellAt M id off = some (iv g.src) ∧ cellAt M id (off + 1) = some (iv g.fr) ∧ cellAt M id (off + 2) = some (iv g.len) ∧ cellAt M id (off + 3) = some (iv g.at_) ∧ cellAt M id (off + 4) = some (iv g.gain) :=
  ⟨h 0 _ rfl, h 1 _ rfl, h 2 _ rfl, h 3 _ rfl, h 4 _ rfl⟩
theorem clip_load {M : Mem} {id off : Nat} {g : Clip} (h : Cl M id off g.row) : cellsAt M id off 5 = some [iv g.src, iv g.fr, iv g.len, iv g.at_, iv g.gain] := cellsAt_of h rfl (by omega)
theorem clip_eq {a b : Clip} : a = b ↔ a.src = b.src ∧ a.fr = b.fr ∧ a.len = b.len ∧ a.at_ = b.at_ ∧ a.gain = b.gain := by
  cases a; cases b; simp
def clipI : Ints clipR := ⟨fun zs => ⟨gi zs 0, gi zs 1, gi zs 2, gi zs 3, gi zs 4⟩, fun zs h => by
  obtain ⟨x0, x1, x2, x3, x4, rfl⟩ : ∃ x0 x1 x2 x3 x4, zs = [x0, x1, x2, x3, x4] := by
    match zs, h with
    | [x0, x1, x2, x3, x4], _ => exact ⟨x0, x1, x2, x3, x4, rfl⟩
  rfl⟩

/-- Equality of records, as the language has it. -/
theorem clip_same (a b : Clip) : aggEq Try.prog 34 #[iv a.src, iv a.fr, iv a.len, iv a.at_, iv a.gain] #[iv b.src, iv b.fr, iv b.len, iv b.at_, iv b.gain] = some (decide (a = b)) := by
  refine aggEq_of (by kernel_rfl) rfl rfl fun w => ?_
  unfold Op.equal
  rw [show Op.maxDepth = 9999 + 1 from rfl]
  rw [run_equalIn_agg _ _ _ _ _ Try.underlying34 (by kernel_rfl)]
  simp [go_sem]
  repeat' split
  all_goals simp_all [clip_eq]
theorem clip_eql (a b : Clip) : binV Try.prog .eql 34 (.agg #[iv a.src, iv a.fr, iv a.len, iv a.at_, iv a.gain]) (.agg #[iv b.src, iv b.fr, iv b.len, iv b.at_, iv b.gain]) = some (.bool (decide (a = b))) := by
  simp only [binV, eqV, Try.underlying34, clip_same, Option.map_some]
theorem clip_neq (a b : Clip) : binV Try.prog .neq 34 (.agg #[iv a.src, iv a.fr, iv a.len, iv a.at_, iv a.gain]) (.agg #[iv b.src, iv b.fr, iv b.len, iv b.at_, iv b.gain]) = some (.bool (!decide (a = b))) := by
  simp only [binV, eqV, Try.underlying34, clip_same, Option.map_some]
@[simp] theorem clip_fill (x0 x1 x2 x3 x4 : Int) : Instr.fill (fun i => some (i * 5, 5)) (zrow [iv 0, iv 0, iv 0, iv 0, iv 0] 1).toArray [(0, .agg #[iv x0, iv x1, iv x2, iv x3, iv x4])] = some #[iv x0, iv x1, iv x2, iv x3, iv x4] := fill_agg (by omega) rfl rfl
theorem toClip_a {M : Mem} (g : Clip) : Det Try.prog M.length 10 [g.v] M g.v M := by
  first | (refine det_fn Try.func10 rfl Try.ntmps10 Try.results10 rfl rfl rfl (by simp) ?_) | (refine det_fnC Try.func10 rfl Try.ntmps10 Try.results10 rfl rfl (by simp) ?_)
  simp [keeps_app]
theorem eqClip_a {M : Mem} (a b : Clip) : Det Try.prog M.length 66 [a.v, b.v] M (.bool (decide (a = b))) M := by
  first | (refine det_fn Try.func66 rfl Try.ntmps66 Try.results66 rfl rfl rfl (by simp) ?_) | (refine det_fnC Try.func66 rfl Try.ntmps66 Try.results66 rfl rfl (by simp) ?_)
  simp
  repeat' (first | (refine awCond_split ?_ ?_ <;> intro _) | (simp [keeps_app]))
  all_goals (simp_all [clip_eq])
theorem szClipS_a {M : Mem} {A : Option Addr} {n c : Nat} (z : Int) (hz : 0 ≤ z) (hz1 : z ≤ 1048576) (hn : n ≤ maxLen) : Det Try.prog M.length 30 [.slice A n c, iv z] M (iv (if z - n < 0 then -1 else z - n)) M := by
  unfold maxLen at hn
  first | (refine det_fn Try.func30 rfl Try.ntmps30 Try.results30 rfl rfl rfl (by simp) ?_) | (refine det_fnC Try.func30 rfl Try.ntmps30 Try.results30 rfl rfl (by simp) ?_)
  simp (disch := omega) [wrap_in]
  refine awCond_split ?_ ?_ <;> intro h
  · simp at h
    simp [h, Keeps.refl]
    try omega
  · simp at h
    simp [h, Keeps.refl]
    try omega
theorem toClipS_d {M : Mem} {A : Option Addr} {n c : Nat} {l : List Clip} (h : Sl clipR M A n l) (hn : n ≤ 1099511627776) : Det Try.prog M.length 34 [.slice A n c] M (.slice (some ⟨M.length, 0, none⟩) n n) (M ++ [.live ⟨cellsL clipR l, true, true, 34, 5⟩]) := by
  have hl := h.1
  refine Ctr.det ?_
  first | (refine ctr_fn Try.func34 rfl Try.ntmps34 Try.results34 rfl rfl (by simp) ?_) | (refine ctr_fnC Try.func34 rfl Try.ntmps34 Try.results34 rfl (by simp) ?_)
  simp
  refine ⟨by omega, ?_⟩
  refine awLoop_T (fun m T M' => ∃ k : Nat, k + m = n ∧ M' = M ++ [.live ⟨cellsL clipR (l.take k) ++ zrow [iv 0, iv 0, iv 0, iv 0, iv 0] m, true, true, 34, 5⟩] ∧ look T 4 = some (iv k) ∧ look T 0 = some (.slice A n c) ∧ look T 3 = some (.slice (some ⟨M.length, 0, none⟩) n n)) n ⟨0, by omega, by simp [cellsL_nil], by simp, by simp, by simp⟩ ?_
  rintro m T M' ⟨k, hm, rfl, h4, h0, h3⟩
  by_cases hlt : k < n
  · obtain ⟨id, off, rfl, he, hc⟩ := h.at_ hlt
    have hc' := hc.app [.live ⟨cellsL clipR (l.take k) ++ zrow [iv 0, iv 0, iv 0, iv 0, iv 0] m, true, true, 34, 5⟩]
    simp (disch := omega) [h3, h4, h0, hlt, wrap_in, clip_load hc']
    obtain ⟨m, rfl⟩ : ∃ m', m = m' + 1 := ⟨m - 1, by omega⟩
    refine awCall_det' ((toClip_a (el l k))) (by simp) ⟨by simp, ow_iff.2 ⟨_, putCells_rec clipR (a := el l k) (Nat.le_refl _) rfl (List.length_take_of_le (by omega)) rfl, ?_⟩⟩
    refine lpI m (by omega) ?_
    refine ⟨k + 1, by omega, by rw [take_el (by omega)], by simp, by simp [h0], by simp [h3]⟩
  · obtain rfl : k = n := by omega
    obtain rfl : m = 0 := by omega
    simp [h3, h4, h0, List.take_of_length_le (Nat.le_of_eq hl)]
theorem toClipS_a {M : Mem} {A : Option Addr} {n c : Nat} {l : List Clip} (h : Sl clipR M A n l) (hn : n ≤ 1099511627776) : Ctr Try.prog M.length 34 [.slice A n c] M fun v M' => Fresh clipR M v M' l :=
  (toClipS_d h hn).ctr (Fresh.new h.1 (by omega))
theorem eqClipS_a {M : Mem} {A B : Option Addr} {n c m d : Nat} {x y : List Clip} (hx : Sl clipR M A n x) (hy : Sl clipR M B m y) (hn : n ≤ 1099511627776) : Det Try.prog M.length 38 [.slice A n c, .slice B m d] M (.bool (decide (x = y))) M := by
  have hlx := hx.1
  have hly := hy.1
  first | (refine det_fn Try.func38 rfl Try.ntmps38 Try.results38 rfl rfl rfl (by simp) ?_) | (refine det_fnC Try.func38 rfl Try.ntmps38 Try.results38 rfl rfl (by simp) ?_)
  simp
  refine awCond_split ?_ ?_ <;> intro hnm
  · simp at hnm
    simp
    exact ⟨fun e => by subst e; omega, Keeps.refl _⟩
  · simp at hnm
    obtain rfl : n = m := by omega
    simp
    refine awLoop_T (fun m T M' => ∃ k : Nat, k + m = n ∧ M' = M ∧ look T 5 = some (iv k) ∧ look T 0 = some (.slice A n c) ∧ look T 1 = some (.slice B n d) ∧ x.take k = y.take k) n ⟨0, by omega, rfl, by simp, by simp, by simp, by simp⟩ ?_
    rintro m T M' ⟨k, hm, rfl, h4, h0, h1, hk⟩
    by_cases hlt : k < n
    · obtain ⟨id, off, rfl, he, hc⟩ := hx.at_ hlt
      obtain ⟨id', off', rfl, he', hc'⟩ := hy.at_ hlt
      simp (disch := omega) [h4, h0, h1, hlt, wrap_in]
      refine awDraw_E 8 [[],[],[0,1],[2,0,1],[],[],[4,5],[6,4,5],[3,2,0,1,7,6,4,5],[8,3,2,0,1,7,6,4,5]] (by kernel_rfl) (by kernel_rfl) ?_
      simp (disch := omega) [h4, h0, h1, hlt, wrap_in, clip_load hc, clip_load hc']
      refine awCall_det' (eqClip_a (el x k) (el y k)) (Nat.le_refl _) ?_
      simp
      refine awCond_split ?_ ?_ <;> intro he
      · simp at he
        simp
        exact ⟨fun e => he (by rw [e]), Keeps.refl _⟩
      · simp at he
        simp (disch := omega) [h4, h0, h1, wrap_in]
        refine lpI (m - 1) (by omega) ?_
        exact ⟨k + 1, by omega, rfl, by simp, by simp [h0], by simp [h1], by rw [take_el (by omega), take_el (by omega), hk, he]⟩
    · obtain rfl : k = n := by omega
      rw [List.take_of_length_le (by omega), List.take_of_length_le (by omega)] at hk
      simp [h4, h0, h1, hk, Keeps.refl]
def markClip (z : Int) (i : Nat) : Clip := ⟨z + i * 5, z + i * 5 + 1, z + i * 5 + 1 + 1, z + i * 5 + 1 + 1 + 1, z + i * 5 + 1 + 1 + 1 + 1⟩
def markClipL (z : Int) (n : Nat) : List Clip := (List.range n).map (markClip z)
theorem markClipL_succ (z : Int) (n : Nat) : markClipL z (n + 1) = markClipL z n ++ [markClip z n] := by simp [markClipL, List.range_succ]
theorem markClipS_a {M : Mem} {b : Nat} {A : Option Addr} {n c : Nat} {x : List Clip} (z : Int) (hx : Sl clipR M A n x) (ho : Ownd M A n) (hb : ∀ a, A = some a → 0 < n → b ≤ a.block) (hn : n ≤ 1099511627776) (hz0 : 0 ≤ z) (hz : z ≤ 1152921504606846976) :
    Ctr Try.prog b 39 [.slice A n c, iv z] M fun v M' => v = iv (z + n * 5) ∧ Sl clipR M' A n (markClipL z n) ∧ Ownd M' A n ∧ Turned A n M M' := by
  have hlx := hx.1
  rcases Nat.eq_zero_or_pos n with rfl | hp
  · first | (refine ctr_fn Try.func39 rfl Try.ntmps39 Try.results39 rfl rfl (by simp) ?_) | (refine ctr_fnC Try.func39 rfl Try.ntmps39 Try.results39 rfl (by simp) ?_)
    simp
    refine awLoop_T (fun m T M' => M' = M ∧ look T 1 = some (iv z) ∧ look T 5 = some (iv 0) ∧ look T 0 = some (.slice A 0 c)) 0 ⟨rfl, by simp, by simp, by simp⟩ ?_
    rintro m T M' ⟨rfl, h1, h3, h0⟩
    simp [h1, h3, h0]
    obtain rfl := List.eq_nil_of_length_eq_zero hlx
    exact ⟨hx, ho, rfl, fun i s hs _ => hs⟩
  · obtain ⟨id, off, r, rfl, hr, ho⟩ := ho hp
    have hid := (List.getElem?_eq_some_iff.1 hr).1
    obtain ⟨hz5, hlen⟩ := hx.cells hr hp (by omega)
    have hb' : b ≤ id := hb _ rfl hp
    obtain ⟨cs, own, t, e, esz⟩ := r
    simp only at hz5 hlen ho
    subst hz5 ho
    have hM : M = M.set id (.live ⟨cs.take off ++ cellsL clipR (markClipL z 0) ++ cs.drop (off + 0 * 5), true, t, e, 5⟩) := by
      rw [set_self]
      simp [markClipL, cellsL_nil, hr]
    first | (refine ctr_fn Try.func39 rfl Try.ntmps39 Try.results39 rfl rfl (by simp) ?_) | (refine ctr_fnC Try.func39 rfl Try.ntmps39 Try.results39 rfl (by simp) ?_)
    simp
    refine awLoop_T (fun m T M' => ∃ j : Nat, j + m = n ∧ M' = M.set id (.live ⟨cs.take off ++ cellsL clipR (markClipL z j) ++ cs.drop (off + j * 5), true, t, e, 5⟩) ∧ look T 5 = some (iv j) ∧ look T 1 = some (iv (z + j * 5)) ∧ look T 0 = some (.slice (some ⟨id, off, none⟩) n c)) n ⟨0, by omega, hM, by simp, by simp, by simp⟩ ?_
    rintro m T M' ⟨j, hm, rfl, h5, h1, h0⟩
    have hlm : (markClipL z j).length = j := by simp [markClipL]
    by_cases hlt : j < n
    · have hsp := splice_mid clipR (cs := cs) (off := off) (a := markClip z j) hlm (by omega)
      have hlc : (cs.take off ++ cellsL clipR (markClipL z j) ++ cs.drop (off + j * 5)).length = cs.length := by
        simp only [List.length_append, List.length_take, List.length_drop, cellsL_len, hlm]; omega
      generalize cs.take off ++ cellsL clipR (markClipL z j) ++ cs.drop (off + j * 5) = Cs at hsp hlc ⊢
      simp (disch := first | omega | (simp <;> omega)) [h5, h1, h0, hlt, wrap_in, rowEsz_set hid, put_set hid hb']
      refine lpI (m - 1) (by omega) ?_
      refine ⟨j + 1, by omega, ?_, by simp, by simp; omega, by simp [h0]⟩
      rw [markClipL_succ, ← hsp]
      rfl
    · obtain rfl : j = n := by omega
      have hS := Sl.set (R := clipR) (M := M) (pre := cs.take off) (post := cs.drop (off + j * 5)) (o := true) (t := t) (e := e) hid (List.length_take_of_le (by omega)) hlm
      have hO : Ownd (M.set id (.live ⟨cs.take off ++ cellsL clipR (markClipL z j) ++ cs.drop (off + j * 5), true, t, e, 5⟩)) (some ⟨id, off, none⟩) j := fun _ => ⟨_, _, _, rfl, List.getElem?_set_self hid, rfl⟩
      have hT : Turned (some ⟨id, off, none⟩) j M (M.set id (.live ⟨cs.take off ++ cellsL clipR (markClipL z j) ++ cs.drop (off + j * 5), true, t, e, 5⟩)) := set_turned hp
      generalize M.set id (.live ⟨cs.take off ++ cellsL clipR (markClipL z j) ++ cs.drop (off + j * 5), true, t, e, 5⟩) = M' at hS hO hT ⊢
      simp [h5, h1, h0]
      exact ⟨hS, hO, hT⟩
theorem heldClipS_a {M : Mem} {A : Option Addr} {n c : Nat} (z : Int) (hx : Sl clipR M A n (markClipL z n)) (hn : n ≤ 1099511627776) (hz0 : 0 ≤ z) (hz : z ≤ 1152921504606846976) :
    Det Try.prog M.length 40 [.slice A n c, iv z] M (iv (z + n * 5)) M := by
  first | (refine det_fn Try.func40 rfl Try.ntmps40 Try.results40 rfl rfl rfl (by simp) ?_) | (refine det_fnC Try.func40 rfl Try.ntmps40 Try.results40 rfl rfl (by simp) ?_)
  simp
  refine awLoop_T (fun m T M' => ∃ j : Nat, j + m = n ∧ M' = M ∧ look T 5 = some (iv j) ∧ look T 1 = some (iv (z + j * 5)) ∧ look T 0 = some (.slice A n c)) n ⟨0, by omega, rfl, by simp, by simp, by simp⟩ ?_
  rintro m T M' ⟨j, hm, rfl, h5, h1, h0⟩
  by_cases hlt : j < n
  · obtain ⟨id, off, rfl, he, hc⟩ := hx.at_ hlt
    rw [show el (markClipL z n) j = markClip z j by simp [markClipL, el, hlt]] at hc
    obtain ⟨c0, c1, c2, c3, c4⟩ := clip_cells hc
    simp (disch := omega) [h5, h1, h0, hlt, wrap_in, c0, c1, c2, c3, c4, markClip]
    refine lpI (m - 1) (by omega) ?_
    exact ⟨j + 1, by omega, rfl, by simp, by simp; omega, by simp [h0]⟩
  · obtain rfl : j = n := by omega
    simp [h5, h1, h0, Keeps.refl]
/-! The same, as the laws use them. -/
theorem sz_ClipS_over {M : Mem} {v : Value} {lo hi : Nat} {l : List Clip} {z : Int} (h : RdL clipR lo hi M v l) (hz : 0 ≤ z) (hz1 : z ≤ 1048576) (hl : z < l.length) : Det Try.prog M.length 30 [v, iv z] M (iv (-1)) M := by
  obtain ⟨A, n, c, rfl, hn, hS, _⟩ := h
  have := szClipS_a (M := M) (A := A) (n := n) (c := c) z hz hz1 (by unfold maxLen; omega)
  rwa [if_pos (by have := hS.1; omega)] at this
theorem sz_ClipS {M : Mem} {v : Value} {lo hi : Nat} {l : List Clip} {z : Int} (h : RdL clipR lo hi M v l) (hz : 0 ≤ z) (hz1 : z ≤ 1048576) (hl : l.length ≤ z) : Det Try.prog M.length 30 [v, iv z] M (iv (z - l.length)) M := by
  obtain ⟨A, n, c, rfl, hn, hS, _⟩ := h
  have := szClipS_a (M := M) (A := A) (n := n) (c := c) z hz hz1 (by unfold maxLen; omega)
  rw [if_neg (by have := hS.1; omega)] at this
  rwa [hS.1]
theorem to_ClipS {M : Mem} {v : Value} {lo hi : Nat} {l : List Clip} (h : RdL clipR lo hi M v l) (hl : l.length ≤ 1048576) : Ctr Try.prog M.length 34 [v] M fun v' M' => OwL clipR M.length M'.length M' v' l ∧ Keeps M M' := by
  obtain ⟨A, n, c, rfl, hn, hS, _⟩ := h
  exact (toClipS_a hS (by have := hS.1; omega)).mono fun v' M' h => h.ow
theorem eq_ClipS {M : Mem} {v w : Value} {lo hi lo' hi' : Nat} {x y : List Clip} (hx : OwL clipR lo hi M v x) (hy : RdL clipR lo' hi' M w y) : Det Try.prog M.length 38 [v, w] M (.bool (decide (x = y))) M := by
  obtain ⟨A, n, c, rfl, hn, hS, _⟩ := hx
  obtain ⟨B, m, d, rfl, hm, hT, _⟩ := hy
  exact eqClipS_a hS hT hn
theorem mark_ClipS {M : Mem} {b : Nat} {v : Value} {lo hi : Nat} {l : List Clip} {z : Int} (h : OwL clipR lo hi M v l) (hb : b ≤ lo) (hz : 0 ≤ z) (hz1 : z ≤ 1152921504606846976) :
    Ctr Try.prog b 39 [v, iv z] M fun r M' => r = iv (z + l.length * 5) ∧ OwL clipR lo hi M' v (markClipL z l.length) ∧ Turn lo hi M M' := by
  obtain ⟨A, n, c, rfl, hn, hS, hi', ho⟩ := h
  exact (markClipS_a z hS ho (fun a e hp => by have := hi' a e hp; omega) hn hz hz1).mono fun r M' ⟨h1, h2, h3, h4⟩ => ⟨by rw [h1, hS.1], ⟨A, n, c, rfl, hn, by rw [hS.1]; exact h2, hi', h3⟩, Nat.le_of_eq h4.1.symm, fun i s hs hd => h4.2 i s hs fun a e hp => by have := hi' a e hp; omega⟩
theorem held_ClipS {M : Mem} {v : Value} {lo hi m : Nat} {z : Int} (h : OwL clipR lo hi M v (markClipL z m)) (hz : 0 ≤ z) (hz1 : z ≤ 1152921504606846976) : Det Try.prog M.length 40 [v, iv z] M (iv (z + m * 5)) M := by
  obtain ⟨A, n, c, rfl, hn, hS, _⟩ := h
  have hm : m = n := by have := hS.1; simpa [markClipL] using this
  subst hm
  exact heldClipS_a z hS hn hz hz1
end Go.Proofs.Ytimijeeihicohaa

namespace Go.Proofs.Ytimijeeihicohaa
open Go.RowKit
set_option linter.unusedVariables false
set_option linter.unusedSimpArgs false
set_option maxRecDepth 100000
attribute [local simp] List.getElem?_cons_zero
attribute [local irreducible] awCond awCall awLoop awDraw ow retQ retC resQ Keeps
theorem sz_Track_over {M : Mem} {v : Value} {lo hi : Nat} {l : List Clip} {z : Int} (h : RdL clipR lo hi M v l) (hz : 0 ≤ z) (hz1 : z ≤ 1048576) (hl : z < l.length) : Det Try.prog M.length 7 [.agg #[v], iv z] M (iv (-1)) M := by
  first | (refine det_fn Try.func7 rfl Try.ntmps7 Try.results7 rfl rfl rfl (by simp) ?_) | (refine det_fnC Try.func7 rfl Try.ntmps7 Try.results7 rfl rfl (by simp) ?_)
  simp
  refine awCall_det' (sz_ClipS_over (h.keeps (keeps_app _)) hz hz1 hl) (by simp) ?_
  simp [keeps_app]
theorem sz_Track {M : Mem} {v : Value} {lo hi : Nat} {l : List Clip} {z : Int} (h : RdL clipR lo hi M v l) (hz : 0 ≤ z) (hz1 : z ≤ 1048576) (hl : l.length ≤ z) : Det Try.prog M.length 7 [.agg #[v], iv z] M (iv (z - l.length)) M := by
  first | (refine det_fn Try.func7 rfl Try.ntmps7 Try.results7 rfl rfl rfl (by simp) ?_) | (refine det_fnC Try.func7 rfl Try.ntmps7 Try.results7 rfl rfl (by simp) ?_)
  simp
  refine awCall_det' (sz_ClipS (h.keeps (keeps_app _)) hz hz1 hl) (by simp) ?_
  have h0 : ¬ z - l.length < 0 := by omega
  simp [keeps_app, h0]
theorem to_Track_d {M : Mem} {v : Value} {lo hi : Nat} {l : List Clip} (h : RdL clipR lo hi M v l) (hl : l.length ≤ 1048576) : ∃ u N, Det Try.prog M.length 9 [.agg #[v]] M (.agg #[u]) (M ++ N) ∧ OwL clipR M.length (M ++ N).length (M ++ N) u l := by
  obtain ⟨A, n, c, rfl, hn, hS, _⟩ := h
  have hl' := hS.1
  refine ⟨.slice (some ⟨M.length + 3, 0, none⟩) n n, [.live ⟨[.slice A n c], true, true, 24, 1⟩, .live ⟨[.slice (some ⟨M.length + 3, 0, none⟩) n n], true, true, 30, 1⟩, .live ⟨[.slice (some ⟨M.length + 3, 0, none⟩) n n], true, true, 30, 1⟩, .live ⟨cellsL clipR l, true, true, 34, 5⟩], ?_, ?_⟩
  · refine Ctr.det ?_
    first | (refine ctr_fn Try.func9 rfl Try.ntmps9 Try.results9 rfl rfl (by simp) ?_) | (refine ctr_fnC Try.func9 rfl Try.ntmps9 Try.results9 rfl (by simp) ?_)
    simp
    refine awCall_det' ((toClipS_d (hS.keeps (keeps_app _)) (by omega))) (by simp) ?_
    simp
  · refine ⟨_, n, n, rfl, by omega, ⟨hl', fun _ => ⟨M.length + 3, 0, rfl, by simp [rowEsz], fun j x hx => by simp [cellAt, hx]⟩⟩, fun a e _ => by injection e with e; subst e; simp, fun _ => ⟨_, _, ⟨cellsL clipR l, true, true, 34, 5⟩, rfl, by simp, rfl⟩⟩
theorem eq_Track {M : Mem} {v w : Value} {lo hi lo' hi' : Nat} {x y : List Clip} (hx : OwL clipR lo hi M v x) (hy : RdL clipR lo' hi' M w y) : Det Try.prog M.length 12 [.agg #[v], .agg #[w]] M (.bool (decide (x = y))) M := by
  first | (refine det_fn Try.func12 rfl Try.ntmps12 Try.results12 rfl rfl rfl (by simp) ?_) | (refine det_fnC Try.func12 rfl Try.ntmps12 Try.results12 rfl rfl (by simp) ?_)
  simp
  refine awCall_det' (eq_ClipS (hx.keeps (keeps_app _)) (hy.keeps (keeps_app _))) (by simp) ?_
  by_cases e : x = y
  · simp [keeps_app, e]
  · simp [keeps_app, e]
theorem mark_Track {M : Mem} {b : Nat} {v : Value} {lo hi : Nat} {l : List Clip} {z : Int} (h : OwL clipR lo hi M v l) (hb : b ≤ lo) (hz : 0 ≤ z) (hz1 : z ≤ 1152921504606846976) :
    Ctr Try.prog b 13 [.agg #[v], iv z] M fun r M' => r = iv (z + l.length * 5) ∧ OwL clipR lo hi M' v (markClipL z l.length) ∧ Turn lo hi M M' := by
  first | (refine ctr_fn Try.func13 rfl Try.ntmps13 Try.results13 rfl rfl (by simp) ?_) | (refine ctr_fnC Try.func13 rfl Try.ntmps13 Try.results13 rfl (by simp) ?_)
  simp
  refine awCall_ctr (mark_ClipS (h.keeps (keeps_app _)) hb hz hz1) ?_
  rintro _ M' ⟨rfl, o, ht⟩
  simp
  exact ⟨o, ht.app⟩
theorem held_Track {M : Mem} {v : Value} {lo hi m : Nat} {z : Int} (h : OwL clipR lo hi M v (markClipL z m)) (hz : 0 ≤ z) (hz1 : z ≤ 1152921504606846976) : Det Try.prog M.length 14 [.agg #[v], iv z] M (iv (z + m * 5)) M := by
  first | (refine det_fn Try.func14 rfl Try.ntmps14 Try.results14 rfl rfl rfl (by simp) ?_) | (refine det_fnC Try.func14 rfl Try.ntmps14 Try.results14 rfl rfl (by simp) ?_)
  simp
  refine awCall_det' (held_ClipS (h.keeps (keeps_app _)) hz hz1) (by simp) ?_
  have h0 : ¬ z + m * 5 < 0 := by omega
  simp [keeps_app, h0]
end Go.Proofs.Ytimijeeihicohaa

namespace Go.Proofs.Ytimijeeihicohaa
open Go.RowKit
set_option linter.unusedVariables false
set_option linter.unusedSimpArgs false
set_option maxRecDepth 100000
attribute [local simp] List.getElem?_cons_zero
attribute [local irreducible] awCond awCall awLoop awDraw ow retQ retC resQ Keeps
def clipB (c : Clip) : Bool := inB c.src 0 5 && inB c.len 1 4000 && inB c.fr 0 (4000 - c.len) && inB c.at_ 0 (4000 - c.len) && inB c.gain (-2147483648) 2147483647
theorem l23Clip_a {M : Mem} {id off : Nat} {g : Clip} (h : Cl M id off g.row) : Det Try.prog M.length 32 [.pointer (some ⟨id, off, none⟩)] M (.bool (clipB g)) M := by
  obtain ⟨h0, h1, h2, h3, h4⟩ := clip_cells h
  first | (refine det_fn Try.func32 rfl Try.ntmps32 Try.results32 rfl rfl rfl (by simp) ?_) | (refine det_fnC Try.func32 rfl Try.ntmps32 Try.results32 rfl rfl (by simp) ?_)
  simp [h0]
  refine awCall_det' (l00In_a _ _ _) (by simp) ?_
  cases p0 : inB g.src 0 5
  · simp [clipB, p0, Keeps.refl]
  simp [h2]
  refine awCall_det' (l00In_a _ _ _) (by simp) ?_
  cases p1 : inB g.len 1 4000
  · simp [clipB, p1, Keeps.refl]
  simp [h4]
  refine awCall_det' (l01Sample_a _) (by simp) ?_
  cases p2 : inB g.gain (-2147483648) 2147483647
  · simp [clipB, p2, Keeps.refl]
  have b1 := inB_iff.1 p1
  simp [h1]
  refine awDraw_E 20 [[],[0],[1,0],[2,1,0],[],[4],[5,4],[6,5,4],[7,6,5,4],[3,2,1,0,8,7,6,5,4],[9,3,2,1,0,8,7,6,5,4],[10,9,3,2,1,0,8,7,6,5,4],[11,10,9,3,2,1,0,8,7,6,5,4],[12,11,10,9,3,2,1,0,8,7,6,5,4],[13,12,11,10,9,3,2,1,0,8,7,6,5,4],[10,9,3,2,1,0,8,7,6,5,4],[15,10,9,3,2,1,0,8,7,6,5,4],[16,15,10,9,3,2,1,0,8,7,6,5,4],[17,16,15,10,9,3,2,1,0,8,7,6,5,4],[18,17,16,15,10,9,3,2,1,0,8,7,6,5,4],[14,13,12,11,10,9,3,2,1,0,8,7,6,5,4,19,18,17,16,15],[10,9,3,2,1,0,8,7,6,5,4,20,14,13,12,11,19,18,17,16,15],[21,10,9,3,2,1,0,8,7,6,5,4,20,14,13,12,11,19,18,17,16,15]] (by kernel_rfl) (by kernel_rfl) ?_
  simp (disch := omega) [h1, h2, wrap_in]
  refine awCall_det' (l00In_a _ _ _) (by simp) ?_
  cases p3 : inB g.fr 0 (4000 - g.len)
  · simp [clipB, p3, Keeps.refl]
  simp (disch := omega) [h3, h2, wrap_in]
  refine awCall_det' (l00In_a _ _ _) (by simp) ?_
  simp [clipB, p0, p1, p2, p3, Keeps.refl]
theorem isClip_a {M : Mem} (g : Clip) : Det Try.prog M.length 36 [g.v] M (.bool (clipB g)) M := by
  first | (refine det_fn Try.func36 rfl Try.ntmps36 Try.results36 rfl rfl rfl (by simp) ?_) | (refine det_fnC Try.func36 rfl Try.ntmps36 Try.results36 rfl rfl (by simp) ?_)
  simp
  refine awCall_det' (within_a _ _ _) (by simp) ?_
  cases p0 : inB g.src 0 5
  · simp [clipB, p0, keeps_app]
  simp
  refine awCall_det' (within_a _ _ _) (by simp) ?_
  cases p1 : inB g.len 1 4000
  · simp [clipB, p1, keeps_app]
  have b1 := inB_iff.1 p1
  simp (disch := omega) [wrap_in]
  refine awCall_det' (within_a _ _ _) (by simp) ?_
  cases p2 : inB g.fr 0 (4000 - g.len)
  · simp [clipB, p2, keeps_app]
  simp (disch := omega) [wrap_in]
  refine awCall_det' (within_a _ _ _) (by simp) ?_
  cases p3 : inB g.at_ 0 (4000 - g.len)
  · simp [clipB, p3, keeps_app]
  simp (disch := omega) [wrap_in]
  refine awCall_det' (isSample_a _) (by simp) ?_
  simp [clipB, p0, p1, p2, p3, keeps_app]
def okC (l : List Clip) : Bool := decide (∀ i, i < l.length → clipB (el l i) = true ∧ (0 < i → (el l (i - 1)).at_ ≤ (el l i).at_)) && decide (l.length ≤ 12)
theorem okC_of {l : List Clip} (h : ∀ i, i < l.length → clipB (el l i) = true ∧ (0 < i → (el l (i - 1)).at_ ≤ (el l i).at_)) : okC l = decide (l.length ≤ 12) := by
  unfold okC; rw [decide_eq_true h, Bool.true_and]
theorem okC_not {l : List Clip} {i : Nat} (hi : i < l.length) (h : ¬ (clipB (el l i) = true ∧ (0 < i → (el l (i - 1)).at_ ≤ (el l i).at_))) : okC l = false := by
  unfold okC; rw [decide_eq_false (fun h' => h (h' i hi)), Bool.false_and]
theorem okC_el {l : List Clip} (h : okC l = true) {i : Nat} (hi : i < l.length) : clipB (el l i) = true := by
  unfold okC at h
  simp only [Bool.and_eq_true, decide_eq_true_eq] at h
  exact (h.1 i hi).1
theorem okC_len {l : List Clip} (h : okC l = true) : l.length ≤ 12 := by
  unfold okC at h
  simp only [Bool.and_eq_true, decide_eq_true_eq] at h
  exact h.2
theorem l23Ok_a {M : Mem} {B off0 : Nat} {A : Option Addr} {n c : Nat} {l : List Clip} (hp : cellAt M B off0 = some (.slice A n c)) (h : Sl clipR M A n l) (hn : n ≤ 4611686018427387904) : Det Try.prog M.length 31 [.pointer (some ⟨B, off0, none⟩)] M (.bool (okC l)) M := by
  have hl := h.1
  first | (refine det_fn Try.func31 rfl Try.ntmps31 Try.results31 rfl rfl rfl (by simp) ?_) | (refine det_fnC Try.func31 rfl Try.ntmps31 Try.results31 rfl rfl (by simp) ?_)
  simp
  refine awLoop_T (fun m T M' => ∃ k : Nat, k + m = n ∧ M' = M ∧ look T 3 = some (iv k) ∧ look T 0 = some (.pointer (some ⟨B, off0, none⟩)) ∧ ∀ i, i < k → clipB (el l i) = true ∧ (0 < i → (el l (i - 1)).at_ ≤ (el l i).at_)) n ⟨0, by omega, rfl, by simp, by simp, by omega⟩ ?_
  rintro m T M' ⟨k, hm, rfl, h3, h0, hk⟩
  by_cases hlt : k < n
  · obtain ⟨id, off, rfl, he, hc⟩ := h.at_ hlt
    obtain ⟨c0, c1, c2, c3, c4⟩ := clip_cells hc
    simp (disch := omega) [h3, h0, hlt, hp, wrap_in]
    refine awDraw_E 29 [[],[0],[1,0],[2,1,0],[],[3,2,1,0,4],[5,3,2,1,0,4],[6,5,3,2,1,0,4],[7,6,5,3,2,1,0,4],[8,7,6,5,3,2,1,0,4],[9,8,7,6,5,3,2,1,0,4],[10,9,8,7,6,5,3,2,1,0,4],[11,10,9,8,7,6,5,3,2,1,0,4],[12,11,10,9,8,7,6,5,3,2,1,0,4],[13,12,11,10,9,8,7,6,5,3,2,1,0,4],[14,13,12,11,10,9,8,7,6,5,3,2,1,0,4],[11,10,9,8,7,6,5,3,2,1,0,4],[16,11,10,9,8,7,6,5,3,2,1,0,4],[15,14,13,12,11,10,9,8,7,6,5,3,2,1,0,4,17,16],[18,15,14,13,12,11,10,9,8,7,6,5,3,2,1,0,4,17,16],[19,18,15,14,13,12,11,10,9,8,7,6,5,3,2,1,0,4,17,16],[11,10,9,8,7,6,5,3,2,1,0,4],[21,11,10,9,8,7,6,5,3,2,1,0,4],[22,21,11,10,9,8,7,6,5,3,2,1,0,4],[23,22,21,11,10,9,8,7,6,5,3,2,1,0,4],[11,10,9,8,7,6,5,3,2,1,0,4],[24,23,22,21,11,10,9,8,7,6,5,3,2,1,0,4,25],[26,24,23,22,21,11,10,9,8,7,6,5,3,2,1,0,4,25],[27,26,24,23,22,21,11,10,9,8,7,6,5,3,2,1,0,4,25],[20,19,18,15,14,13,12,11,10,9,8,7,6,5,3,2,1,0,4,17,16,28,27,26,24,23,22,21,25],[11,10,9,8,7,6,5,3,2,1,0,4,29,20,19,18,15,14,13,12,17,16,28,27,26,24,23,22,21,25],[8,7,6,5,3,2,1,0,4,30,11,10,9,29,20,19,18,15,14,13,12,17,16,28,27,26,24,23,22,21,25]] (by kernel_rfl) (by kernel_rfl) ?_
    simp (disch := omega) [h3, h0, hlt, hp, he, wrap_in]
    refine awCall_det' (l23Clip_a hc) (by simp) ?_
    have hkl : k < l.length := by omega
    simp
    cases hg : clipB (el l k)
    · simp (disch := omega) [h3, hg]
      rw [okC_not hkl (by simp [hg])]
      simp [Keeps.refl]
    · simp (disch := omega) [h3, hg]
      rcases k with _ | j
      · simp (disch := omega) [h3, h0, wrap_in]
        refine lpI (m - 1) (by omega) ?_
        refine ⟨1, by omega, rfl, by simp, by simp [h0], ?_⟩
        intro i hi
        obtain rfl : i = 0 := by omega
        simp [hg]
      · obtain ⟨_, _, he', _, hc'⟩ := h.at_ (i := j) (by omega)
        cases he'
        obtain ⟨_, _, _, d3, _⟩ := clip_cells hc'
        simp (disch := omega) [h0, h3, hp, he, wrap_in, c3, d3]
        refine ⟨by omega, by omega, ?_⟩
        refine awCond_split ?_ ?_ <;> intro hs
        · simp at hs
          simp
          rw [okC_not hkl (by simp; omega)]
          simp [Keeps.refl]
        · simp at hs
          simp (disch := omega) [h3, h0, wrap_in]
          refine lpI (m - 1) (by omega) ?_
          refine ⟨j + 1 + 1, by omega, rfl, by simp, by simp [h0], ?_⟩
          intro i hi
          by_cases hi' : i < j + 1
          · exact hk i hi'
          · obtain rfl : i = j + 1 := by omega
            simp [hg, hs]
  · obtain rfl : k = n := by omega
    simp [h3, h0, hp]
    rw [okC_of (by rw [hl]; exact hk), hl]
    simp [Keeps.refl]
    omega
theorem isTrack_a {M : Mem} {A : Option Addr} {n c : Nat} {l : List Clip} (h : Sl clipR M A n l) (hn : n ≤ 4611686018427387904) : Det Try.prog M.length 35 [.agg #[.slice A n c]] M (.bool (okC l)) M := by
  have hl := h.1
  first | (refine det_fn Try.func35 rfl Try.ntmps35 Try.results35 rfl rfl rfl (by simp) ?_) | (refine det_fnC Try.func35 rfl Try.ntmps35 Try.results35 rfl rfl (by simp) ?_)
  simp
  refine awLoop_T (fun m T M' => ∃ k : Nat, k + m = n ∧ Keeps M M' ∧ cellAt M' M.length 0 = some (.slice A n c) ∧ look T 8 = some (iv k) ∧ look T 7 = some (iv n) ∧ look T 6 = some (.slice A n c) ∧ look T 1 = some (.pointer (some ⟨M.length, 0, none⟩)) ∧ ∀ i, i < k → clipB (el l i) = true ∧ (0 < i → (el l (i - 1)).at_ ≤ (el l i).at_)) n ⟨0, by omega, keeps_app _, by simp, by simp, by simp, by simp, by simp, by omega⟩ ?_
  rintro m T M' ⟨k, hm, hK, hp, h8, h7, h6, h1, hk⟩
  by_cases hlt : k < n
  · have h' := h.keeps hK
    have hKl := hK.len
    obtain ⟨id, off, rfl, he, hc⟩ := h'.at_ hlt
    obtain ⟨c0, c1, c2, c3, c4⟩ := clip_cells hc
    have hkl : k < l.length := by omega
    simp (disch := omega) [h8, h7, h6, h1, hlt, wrap_in, clip_load hc]
    refine awDraw_E 16 [[],[0],[1,0],[2,1,0],[3,2,1,0],[4,3,2,1,0],[5,4,3,2,1,0],[6,5,4,3,2,1,0],[7,6,5,4,3,2,1,0],[6,5,4,3,2,1,0],[9,6,5,4,3,2,1,0],[6,5,4,3,2,1,0],[11,6,5,4,3,2,1,0],[10,9,6,5,4,3,2,1,0,12,11],[13,10,9,6,5,4,3,2,1,0,12,11],[14,13,10,9,6,5,4,3,2,1,0,12,11],[8,7,6,5,4,3,2,1,0,15,14,13,10,9,12,11],[6,5,4,3,2,1,0,16,8,7,15,14,13,10,9,12,11],[3,2,1,0,17,6,5,4,16,8,7,15,14,13,10,9,12,11]] (by kernel_rfl) (by kernel_rfl) ?_
    simp (disch := omega) [h8, h7, h6, h1, hlt, wrap_in]
    refine awCall_det' (isClip_a (el l k)) (by simp <;> omega) ?_
    simp
    cases hg : clipB (el l k)
    · simp (disch := omega) [h1, h8, hg]
      rw [okC_not hkl (by simp [hg])]
      simp [hK.app]
    · simp (disch := omega) [h1, h8, hg]
      rcases k with _ | j
      · simp (disch := omega) [h8, h7, h6, h1, wrap_in]
        refine lpI (m - 1) (by omega) ?_
        refine ⟨1, by omega, hK.app _, cellAt_app hp _, by simp, by simp [h7], by simp [h6], by simp [h1], ?_⟩
        intro i hi
        obtain rfl : i = 0 := by omega
        simp [hg]
      · obtain ⟨_, _, he', _, hc'⟩ := h'.at_ (i := j) (by omega)
        cases he'
        obtain ⟨_, _, _, d3, _⟩ := clip_cells hc'
        simp (disch := omega) [h1, h8, wrap_in, cellAt_app hp, cellAt_app c3, cellAt_app d3, rowEsz_keeps (keeps_app _) he]
        refine ⟨by omega, ?_⟩
        refine awCond_split ?_ ?_ <;> intro hs
        · simp at hs
          simp
          rw [okC_not hkl (by simp; omega)]
          simp [hK.app]
        · simp at hs
          simp (disch := omega) [h8, h7, h6, h1, wrap_in]
          refine lpI (m - 1) (by omega) ?_
          refine ⟨j + 1 + 1, by omega, hK.app _, cellAt_app hp _, by simp, by simp [h7], by simp [h6], by simp [h1], ?_⟩
          intro i hi
          by_cases hi' : i < j + 1
          · exact hk i hi'
          · obtain rfl : i = j + 1 := by omega
            simp [hg, hs]
  · obtain rfl : k = n := by omega
    simp [h8, h7, h6, h1, hp]
    rw [okC_of (by rw [hl]; exact hk), hl]
    simp [hK]
    try omega
















end Go.Proofs.Ytimijeeihicohaa

namespace Go.Proofs.Ytimijeeihicohaa
open Go.RowKit
set_option linter.unusedVariables false
set_option linter.unusedSimpArgs false
set_option maxRecDepth 100000
attribute [local simp] List.getElem?_cons_zero
attribute [local irreducible] awCond awCall awLoop awDraw ow retQ retC resQ Keeps
def sigB (l : List Int) : Bool := decide (l.length ≤ 4000) && areSB l
def srcsB (ss : List (List Int)) : Bool := decide (ss.length ≤ 6) && ss.all sigB
theorem sigB_el {l : List Int} (h : sigB l = true) {i : Nat} (hi : i < l.length) : -2147483648 ≤ el l i ∧ el l i ≤ 2147483647 := by
  unfold sigB at h
  rw [Bool.and_eq_true] at h
  exact inB_iff.1 (List.all_eq_true.1 h.2 _ (el_mem hi))
theorem sigB_len {l : List Int} (h : sigB l = true) : l.length ≤ 4000 := by
  unfold sigB at h
  rw [Bool.and_eq_true, decide_eq_true_eq] at h
  exact h.1
theorem smp_in {n : Int} (h1 : -2147483648 ≤ n) (h2 : n ≤ 2147483647) : smp n = n := by unfold smp; omega
theorem smp_add (a b : Int) : smp (a + smp b) = smp (a + b) := by unfold smp; omega
theorem prod_bd {a b : Int} (h1 : -2147483648 ≤ a) (h2 : a ≤ 2147483647) (h3 : -2147483648 ≤ b) (h4 : b ≤ 2147483647) : -4611686018427387904 ≤ a * b ∧ a * b ≤ 4611686018427387904 := by
  have h : (a * b).natAbs ≤ 2147483648 * 2147483648 := by
    rw [Int.natAbs_mul]
    exact Nat.mul_le_mul (by omega) (by omega)
  omega
def atL (l : List Int) (i : Int) : Int := if 0 ≤ i ∧ i < l.length then el l i.toNat else 0
theorem atL_bd {l : List Int} (h : sigB l = true) (i : Int) : -2147483648 ≤ atL l i ∧ atL l i ≤ 2147483647 := by
  unfold atL
  split
  · exact sigB_el h (by omega)
  · omega
theorem l01Add_s {M : Mem} (a b : Int) : Det Try.prog M.length 93 [iv a, iv b] M (iv (smp (smp a + smp b))) M := by
  have h1 := smp_bd a
  have h2 := smp_bd b
  first | (refine det_fn Try.func93 rfl Try.ntmps93 Try.results93 rfl rfl rfl (by simp) ?_) | (refine det_fnC Try.func93 rfl Try.ntmps93 Try.results93 rfl rfl (by simp) ?_)
  simp
  refine awCall_det' (l01Wrap_t _) (by simp) ?_
  try simp
  refine awCall_det' (l01Wrap_t _) (by simp) ?_
  simp (disch := omega) [wrap_in]
  refine awCall_det' (l01Wrap_t _) (by simp) ?_
  simp [Keeps.refl]
theorem l01Mul_s {M : Mem} (a b : Int) : Det Try.prog M.length 95 [iv a, iv b] M (iv (smp (smp a * smp b))) M := by
  have h1 := smp_bd a
  have h2 := smp_bd b
  have h3 := prod_bd h1.1 h1.2 h2.1 h2.2
  first | (refine det_fn Try.func95 rfl Try.ntmps95 Try.results95 rfl rfl rfl (by simp) ?_) | (refine det_fnC Try.func95 rfl Try.ntmps95 Try.results95 rfl rfl (by simp) ?_)
  simp
  refine awCall_det' (l01Wrap_t _) (by simp) ?_
  try simp
  refine awCall_det' (l01Wrap_t _) (by simp) ?_
  simp (disch := omega) [wrap_in]
  refine awCall_det' (l01Wrap_t _) (by simp) ?_
  simp [Keeps.refl]
theorem l03At_s {M : Mem} {lo hi : Nat} {u : Value} {l : List Int} (i : Int) (h : SlV intP lo hi M u l) : Det Try.prog M.length 94 [u, iv i] M (iv (atL l i)) M := by
  obtain ⟨A, n, c, rfl, h1, h2, h3⟩ := h
  have hl := h3.1
  replace h3 := h3.sl
  unfold atL
  rw [hl]
  first | (refine det_fn Try.func94 rfl Try.ntmps94 Try.results94 rfl rfl rfl (by simp) ?_) | (refine det_fnC Try.func94 rfl Try.ntmps94 Try.results94 rfl rfl (by simp) ?_)
  simp (disch := omega) [wrap_in]
  refine awCall_det' (l00In_a _ _ _) (by simp) ?_
  by_cases hb : inB i 0 (n - 1) = true
  · have hb' := inB_iff.1 hb
    obtain ⟨k, rfl⟩ := Int.eq_ofNat_of_zero_le hb'.1
    have hlt : k < n := by omega
    obtain ⟨id, off, rfl, he, hc⟩ := h3.at_ hlt
    have c1 := int_cell hc
    simp only [Nat.mul_one] at c1
    simp (disch := omega) [hb, hlt, he, c1, Keeps.refl]
  · have hb' : ¬ (0 ≤ i ∧ i < n) := by
      intro hh
      exact hb (inB_iff.2 ⟨hh.1, by omega⟩)
    simp [hb, hb', Keeps.refl]
theorem size_ia {M : Mem} {A : Option Addr} {n c : Nat} (hn : n ≤ 9223372036854775807) : Det Try.prog M.length 112 [.slice A n c] M (iv n) M := by
  first | (refine det_fn Try.func112 rfl Try.ntmps112 Try.results112 rfl rfl rfl (by simp) ?_) | (refine det_fnC Try.func112 rfl Try.ntmps112 Try.results112 rfl rfl (by simp) ?_)
  simp (disch := omega) [wrap_in, Keeps.refl]
theorem at_i {M : Mem} {lo hi : Nat} {u : Value} {l : List Int} (i : Int) (h0 : 0 ≤ i) (h : SlV intP lo hi M u l) : Det Try.prog M.length 113 [u, iv i] M (iv (atL l i)) M := by
  obtain ⟨A, n, c, rfl, h1, h2, h3⟩ := h
  have hl := h3.1
  replace h3 := h3.sl
  unfold atL
  rw [hl]
  obtain ⟨k, rfl⟩ := Int.eq_ofNat_of_zero_le h0
  first | (refine det_fn Try.func113 rfl Try.ntmps113 Try.results113 rfl rfl rfl (by simp) ?_) | (refine det_fnC Try.func113 rfl Try.ntmps113 Try.results113 rfl rfl (by simp) ?_)
  simp (disch := omega) [wrap_in]
  refine awCall_det' (size_ia (by omega)) (by simp) ?_
  simp (disch := omega) [wrap_in]
  by_cases hlt : k < n
  · obtain ⟨id, off, rfl, he, hc⟩ := h3.at_ hlt
    have c1 := int_cell hc
    simp only [Nat.mul_one] at c1
    have hg : ¬ n ≤ k := by omega
    simp (disch := omega) [hg, hlt, he, c1, Keeps.refl]
  · have hg : n ≤ k := by omega
    simp [hlt, hg, Keeps.refl]
theorem cellsL_rep (n : Nat) (x : Int) : zrow [iv x] n = cellsL intR (List.replicate n x) := by
  induction n with
  | zero => rfl
  | succ n ih => rw [zrow_succ, ih, List.replicate_succ, cellsL_cons]; rfl
theorem zeros_i {M : Mem} (n : Nat) (hn : n ≤ 4000) : Det Try.prog M.length 78 [iv n] M (.slice (some ⟨M.length, 0, none⟩) n n) (M ++ [.live ⟨cellsL intR (List.replicate n 0), true, true, 2, 1⟩]) := by
  refine Ctr.det ?_
  first | (refine ctr_fn Try.func78 rfl Try.ntmps78 Try.results78 rfl rfl (by simp) ?_) | (refine ctr_fnC Try.func78 rfl Try.ntmps78 Try.results78 rfl (by simp) ?_)
  simp
  exact ⟨by omega, by rw [cellsL_rep]⟩
theorem l03Ok_t {M : Mem} {lo hi : Nat} {u : Value} {l : List Int} (h : SlV intP lo hi M u l) : Det Try.prog M.length 60 [u] M (.bool (sigB l)) M := by
  by_cases hb : l.length ≤ 4000
  · have : sigB l = areSB l := by unfold sigB; simp [hb]
    rw [this]
    exact l03Ok_s h hb
  · have : sigB l = false := by unfold sigB; simp [hb]
    rw [this]
    obtain ⟨A, n, c, rfl, h1, h2, h3⟩ := h
    have hl := h3.1
    have e0 : (4000 : Int) < n := by omega
    first | (refine det_fn Try.func60 rfl Try.ntmps60 Try.results60 rfl rfl rfl (by simp) ?_) | (refine det_fnC Try.func60 rfl Try.ntmps60 Try.results60 rfl rfl (by simp) ?_)
    simp [e0, Keeps.refl]
end Go.Proofs.Ytimijeeihicohaa

namespace Go.Proofs.Ytimijeeihicohaa
open Go.RowKit
set_option linter.unusedVariables false
set_option linter.unusedSimpArgs false
set_option maxRecDepth 100000
attribute [local simp] List.getElem?_cons_zero
attribute [local irreducible] awCond awCall awLoop awDraw ow retQ retC resQ Keeps
def oneB (l : List Gate) : Bool := l.all fun g => decide (g.o = (el l 0).o)
def codeV (x : Inst) (l : List Gate) (n : Int) (one : Bool) : Int :=
  if instB x && okG l then (if inB n 0 4000 then (if (one && !oneB l) || !playB l then 6 else 0) else 2) else 1
theorem gatesCode_i {M : Mem} {lo hi : Nat} {us : List Value} {x : Inst} {A : Option Addr} {n c : Nat} {l : List Gate} (N : Int) (one : Bool) (h : instP.rd lo hi M x us) (hg : Sl gateR M A n l) (hn : n ≤ 1099511627776) : Det Try.prog M.length 50 [.agg us.toArray, .slice A n c, iv N, .bool one] M (iv (codeV x l N one)) M := by
  have hl := instP.len h
  have ht : us.take 8 = us := List.take_of_length_le (by omega)
  have hgl := hg.1
  first | (refine det_fn Try.func50 rfl Try.ntmps50 Try.results50 rfl rfl rfl (by simp) ?_) | (refine det_fnC Try.func50 rfl Try.ntmps50 Try.results50 rfl rfl (by simp) ?_)
  simp [hl, ht]
  refine awCall_det' (isInstrument_i (instP.app h _)) (by simp) ?_
  cases e1 : instB x
  · simp [codeV, e1, keeps_app]
  simp
  refine awCall_det' (areGates_a (hg.keeps (keeps_app _)) (by omega)) (by simp) ?_
  cases e2 : okG l
  · simp [codeV, e1, e2, keeps_app]
  simp
  refine awCall_det' (isCount_a N) (by simp) ?_
  cases e3 : inB N 0 4000
  · simp [codeV, e1, e2, e3, keeps_app]
  simp
  refine awLoop_T (fun m T M' => ∃ k : Nat, k + m = n ∧ Keeps M M' ∧ look T 24 = some (iv k) ∧ look T 23 = some (iv n) ∧ look T 22 = some (.slice A n c) ∧ look T 1 = some (.slice A n c) ∧ look T 3 = some (.bool one) ∧ ∀ i, i < k → one = true → (el l i).o = (el l 0).o) n ⟨0, by omega, keeps_app _, by simp, by simp, by simp, by simp, by simp, fun i hi => by omega⟩ ?_
  rintro m T M' ⟨k, hm, hK, t24, t23, t22, t1, t3, hk⟩
  have hKl := hK.len
  by_cases hlt : k < n
  · have hgk := hg.keeps hK
    obtain ⟨id, off, rfl, he, hc⟩ := hgk.at_ hlt
    obtain ⟨_, _, e0, _, hc0⟩ := hgk.at_ (show 0 < n by omega)
    cases e0
    obtain ⟨z0, z1, z2, z3, z4⟩ := gate_cells hc0
    simp only [Nat.zero_mul, Nat.add_zero] at z0 z1 z2 z3 z4
    have hcl := gate_load hc
    simp (disch := omega) [t24, t23, t22, hlt, wrap_in, he, hcl]
    refine awDraw_E 8 [[],[0],[1,0],[2,1,0],[1,0],[4,1,0],[5,4,1,0],[6,5,4,1,0],[3,2,1,0,7,6,5,4],[1,0,8,3,2,7,6,5,4]] (by kernel_rfl) (by kernel_rfl) ?_
    cases one
    · simp (disch := omega) [t24, t23, t22, t1, t3, hlt, wrap_in, rowEsz_keeps (keeps_app _) he, cellAt_app z0]
      refine lpI (m - 1) (by omega) ⟨k + 1, by omega, hK.app _, by simp, by simp [t23], by simp [t22], by simp [t1], by simp [t3], fun i hi h1 => by cases h1⟩
    · simp (disch := omega) [t24, t23, t22, t1, t3, hlt, wrap_in, rowEsz_keeps (keeps_app _) he, cellAt_app z0]
      refine ⟨by omega, ?_⟩
      by_cases hv : (el l k).o = (el l 0).o
      · simp (disch := omega) [hv, t24, wrap_in]
        refine lpI (m - 1) (by omega) ⟨k + 1, by omega, hK.app _, by simp, by simp [t23], by simp [t22], by simp [t1], by simp [t3], fun i hi h1 => ?_⟩
        by_cases hik : i < k
        · exact hk i hik h1
        · obtain rfl : i = k := by omega
          exact hv
      · have e4 : oneB l = false := all_no (k := k) (by omega) (decide_eq_false hv)
        simp (disch := omega) [hv]
        simp [codeV, e1, e2, e3, e4, hK.app]
  · obtain rfl : k = n := by omega
    simp [t24, t23, t22, t1]
    refine awCall_det' (arePlayable_a (hg.keeps hK) hn) (by omega) ?_
    have e4 : (one && !oneB l) = false := by
      cases one
      · rfl
      · have : oneB l = true := all_yes fun i hi => by simp [hk i (by omega) rfl]
        simp [this]
    cases e5 : playB l
    · simp [codeV, e1, e2, e3, e5, hK]
    · simp [codeV, e1, e2, e3, e4, e5, hK]
end Go.Proofs.Ytimijeeihicohaa

namespace Go.Proofs.Ytimijeeihicohaa
open Go.RowKit
set_option linter.unusedVariables false
set_option linter.unusedSimpArgs false
set_option maxRecDepth 100000
attribute [local simp] List.getElem?_cons_zero
attribute [local irreducible] awCond awCall awLoop awDraw ow retQ retC resQ Keeps
def cidx (l : List Gate) (t : Int) : Nat := l.findIdx fun g => decide (t < g.s)
def gateL (l : List Gate) (t : Int) : Gate := el l (cidx l t - 1)
def ctl0 (x : Inst) (l : List Gate) (t : Nat) : Int := incr x.steps (gateL l t).k
def ctl1 (x : Inst) (l : List Gate) (t : Nat) : Int := (gateL l t).u
def ctl2 (x : Inst) (l : List Gate) (t : Nat) : Int := levelV x.env ((gateL l t).e - (gateL l t).s) (t - (gateL l t).s)
def Sorted (l : List Gate) : Prop := ∀ i j, i ≤ j → j < l.length → (el l i).s ≤ (el l j).s
theorem okG_sorted {l : List Gate} (h : okG l = true) : Sorted l := by
  unfold okG at h
  simp only [Bool.and_eq_true, decide_eq_true_eq] at h
  intro i j hij
  induction j with
  | zero =>
    intro hj
    obtain rfl : i = 0 := by omega
    exact Int.le_refl _
  | succ j ih =>
    intro hj
    by_cases e : i = j + 1
    · subst e; exact Int.le_refl _
    · have := ih (by omega) (by omega)
      have := (h.1 (j + 1) hj).2 (by omega)
      rw [Nat.add_sub_cancel] at this
      omega
theorem cidx_lt {l : List Gate} (hs : Sorted l) {t : Int} {k : Nat} (hk : k < l.length) : k < cidx l t ↔ (el l k).s ≤ t := by
  constructor
  · intro h
    have := List.not_of_lt_findIdx h
    rw [el_eq hk] at this
    simpa using this
  · intro h
    apply Classical.byContradiction
    intro hn
    have hlt : cidx l t < l.length := by omega
    have hw : decide (t < (l[cidx l t]'hlt).s) = true := List.findIdx_getElem (w := hlt)
    rw [el_eq hlt] at hw
    have h2 : t < (el l (cidx l t)).s := by simpa using hw
    have := hs (cidx l t) k (by omega) hk
    omega
theorem cidx_le (l : List Gate) (t : Int) : cidx l t ≤ l.length := List.findIdx_le_length
def mkC (n : Nat) (p : Nat → Bool) (f : Nat → Int) : List Int := (List.range n).map fun t => if p t = true then f t else 0
theorem mkC_len {n : Nat} {p : Nat → Bool} {f : Nat → Int} : (mkC n p f).length = n := by simp [mkC]
theorem mkC_congr {n : Nat} {p q : Nat → Bool} {f : Nat → Int} (h : ∀ t, t < n → p t = q t) : mkC n p f = mkC n q f := by
  unfold mkC
  apply List.map_congr_left
  intro t ht
  rw [h t (List.mem_range.1 ht)]
theorem mkC_set {n : Nat} {p q : Nat → Bool} {f : Nat → Int} {t : Nat} (h : ∀ u, u < n → q u = (p u || decide (u = t))) : (mkC n p f).set t (f t) = mkC n q f := by
  apply List.ext_getElem
  · simp [mkC]
  · intro i h1 h2
    have hi : i < n := by simpa [mkC] using h2
    rw [List.getElem_set]
    by_cases e : t = i
    · subst e
      simp [mkC, h t hi]
    · simp only [e, if_false, mkC, List.getElem_map, List.getElem_range, h i hi]
      have : ¬ i = t := fun h => e h.symm
      simp [this]
theorem mkC_none {n : Nat} {p : Nat → Bool} {f : Nat → Int} (h : ∀ t, t < n → p t = false) : mkC n p f = List.replicate n 0 := by
  apply List.ext_getElem
  · simp [mkC]
  · intro i h1 h2
    have hi : i < n := by simpa [mkC] using h1
    simp [mkC, h i hi]
/-- What is set when k gates are done and the next one is done up to position u. -/
def doneP (l : List Gate) (k : Nat) (u t : Nat) : Bool := decide (0 < cidx l t) && (decide (cidx l t ≤ k) || (decide (cidx l t = k + 1) && decide (t < u)))
def allP (l : List Gate) (t : Nat) : Bool := decide (0 < cidx l t)
theorem doneP_zero {l : List Gate} (hs : Sorted l) (hl : 0 < l.length) {u : Nat} (hu : (u : Int) = (el l 0).s) (t : Nat) : doneP l 0 u t = false := by
  unfold doneP
  by_cases h : 0 < cidx l t
  · have := (cidx_lt hs hl).1 h
    have h1 : ¬ cidx l t ≤ 0 := by omega
    have h2 : ¬ t < u := by omega
    simp [h, h1, h2]
  · simp [h]
theorem doneP_next {l : List Gate} (hs : Sorted l) {k u v : Nat} (hk : k + 1 < l.length) {n : Nat} (hu : u = n ∨ ((u : Int) = (el l (k + 1)).s)) (hun : u ≤ n) (hv : (v : Int) = (el l (k + 1)).s) {t : Nat} (ht : t < n) : doneP l k u t = doneP l (k + 1) v t := by
  unfold doneP
  have h := cidx_lt hs (t := t) hk
  by_cases c0 : 0 < cidx l t
  · by_cases c1 : k + 1 < cidx l t
    · have := h.1 c1
      have e1 : ¬ cidx l t ≤ k := by omega
      have e2 : ¬ cidx l t = k + 1 := by omega
      have e3 : ¬ cidx l t ≤ k + 1 := by omega
      have e4 : ¬ t < v := by omega
      simp [e1, e2, e3, e4]
    · have h' : ¬ (el l (k + 1)).s ≤ t := fun hh => c1 (h.2 hh)
      have e3 : cidx l t ≤ k + 1 := by omega
      have e4 : t < u := by omega
      by_cases e1 : cidx l t ≤ k
      · simp [e1, e3]
      · have e2 : cidx l t = k + 1 := by omega
        simp [e2, e4]
  · simp [c0]
theorem doneP_last {l : List Gate} {k n : Nat} (hk : k + 1 = l.length) {t : Nat} (ht : t < n) : doneP l k n t = allP l t := by
  unfold doneP allP
  have := cidx_le l t
  by_cases c0 : 0 < cidx l t
  · by_cases e1 : cidx l t ≤ k
    · simp [e1]
    · have e2 : cidx l t = k + 1 := by omega
      simp [e2, ht]
  · simp [c0]
theorem doneP_step {l : List Gate} {k u : Nat} (h : cidx l u = k + 1) (t : Nat) : doneP l k (u + 1) t = (doneP l k u t || decide (t = u)) := by
  unfold doneP
  by_cases e : t = u
  · subst e
    simp [h]
  · by_cases e1 : t < u
    · have : t < u + 1 := by omega
      simp [e, e1, this]
    · have : ¬ t < u + 1 := by omega
      simp [e, e1, this]
theorem cidx_at {l : List Gate} (hs : Sorted l) {k : Nat} (hk : k < l.length) {t : Int} (h1 : (el l k).s ≤ t) (h2 : k + 1 < l.length → t < (el l (k + 1)).s) : cidx l t = k + 1 := by
  have a := (cidx_lt hs hk).2 h1
  have := cidx_le l t
  by_cases hk' : k + 1 < l.length
  · have b : ¬ k + 1 < cidx l t := fun h => by
      have := (cidx_lt hs hk').1 h
      have := h2 hk'
      omega
    omega
  · omega
/-- Three lists in rows of one's own, and the row that holds them. -/
structure Row1 (M : Mem) (B : Nat) (v : Value) (id : Nat) (l : List Int) : Prop where
  low : B ≤ id
  row : ∃ t c, v = .slice (some ⟨id, 0, none⟩) l.length c ∧ M[id]? = some (.live ⟨cellsL intR l, true, t, 2, 1⟩)
theorem Row1.keep {M M' : Mem} {B : Nat} {v : Value} {id : Nat} {l : List Int} (h : Row1 M B v id l) (hk : ∀ s, M[id]? = some s → M'[id]? = some s) : Row1 M' B v id l := by
  obtain ⟨h1, t, c, h2, h3⟩ := h
  exact ⟨h1, t, c, h2, hk _ h3⟩
theorem Row1.put {M : Mem} {B b : Nat} {v : Value} {id : Nat} {l : List Int} (h : Row1 M B v id l) (hb : b ≤ B) {i : Nat} (hi : i < l.length) (y : Int) :
    ∃ M', putCells b M id i [iv y] = some M' ∧ Row1 M' B v id (l.set i y) ∧ M'.length = M.length ∧ ∀ (q : Nat) s, q ≠ id → M[q]? = some s → M'[q]? = some s := by
  obtain ⟨h1, t, c, h2, h3⟩ := h
  have hp := put_rec (R := intR) (b := b) (a := y) (off := i) h3 (by omega) hi (by omega) rfl
  refine ⟨_, hp, ⟨h1, t, c, by rw [h2, List.length_set], List.getElem?_set_self (List.getElem?_eq_some_iff.1 h3).1⟩, by simp, fun q s hq hs => by rw [List.getElem?_set_ne (Ne.symm hq)]; exact hs⟩
structure Ctl (M : Mem) (B oid i0 i1 i2 : Nat) (v0 v1 v2 : Value) (l0 l1 l2 : List Int) : Prop where
  low : B ≤ oid
  orow : ∃ e, M[oid]? = some (.live ⟨[v0, v1, v2], true, true, e, 1⟩)
  r0 : Row1 M B v0 i0 l0
  r1 : Row1 M B v1 i1 l1
  r2 : Row1 M B v2 i2 l2
  apart : i0 ≠ i1 ∧ i0 ≠ i2 ∧ i1 ≠ i2 ∧ i0 ≠ oid ∧ i1 ≠ oid ∧ i2 ≠ oid
theorem Ctl.keeps {M M' : Mem} {B oid i0 i1 i2 : Nat} {v0 v1 v2 : Value} {l0 l1 l2 : List Int} (h : Ctl M B oid i0 i1 i2 v0 v1 v2 l0 l1 l2) (hk : Keeps M M') : Ctl M' B oid i0 i1 i2 v0 v1 v2 l0 l1 l2 :=
  ⟨h.low, ⟨h.orow.choose, hk.get h.orow.choose_spec⟩, h.r0.keep fun s hs => hk.get hs, h.r1.keep fun s hs => hk.get hs, h.r2.keep fun s hs => hk.get hs, h.apart⟩
theorem Ctl.cells {M : Mem} {B oid i0 i1 i2 : Nat} {v0 v1 v2 : Value} {l0 l1 l2 : List Int} (h : Ctl M B oid i0 i1 i2 v0 v1 v2 l0 l1 l2) : cellAt M oid 0 = some v0 ∧ cellAt M oid 1 = some v1 ∧ cellAt M oid 2 = some v2 ∧ rowEsz M oid = some 1 := by
  obtain ⟨e, he⟩ := h.orow
  simp [cellAt, rowEsz, he]
theorem Ctl.put0 {M : Mem} {B b oid i0 i1 i2 : Nat} {v0 v1 v2 : Value} {l0 l1 l2 : List Int} (h : Ctl M B oid i0 i1 i2 v0 v1 v2 l0 l1 l2) (hb : b ≤ B) {i : Nat} (hi : i < l0.length) (y : Int) :
    ∃ M', putCells b M i0 i [iv y] = some M' ∧ Ctl M' B oid i0 i1 i2 v0 v1 v2 (l0.set i y) l1 l2 ∧ M'.length = M.length ∧ ∀ (q : Nat) s, q ≠ i0 → M[q]? = some s → M'[q]? = some s := by
  obtain ⟨M', p1, p2, p3, p4⟩ := h.r0.put hb hi y
  have ha := h.apart
  exact ⟨M', p1, ⟨h.low, ⟨h.orow.choose, p4 _ _ (Ne.symm ha.2.2.2.1) h.orow.choose_spec⟩, p2, h.r1.keep fun s hs => p4 _ _ (Ne.symm ha.1) hs, h.r2.keep fun s hs => p4 _ _ (Ne.symm ha.2.1) hs, ha⟩, p3, p4⟩
theorem Ctl.put1 {M : Mem} {B b oid i0 i1 i2 : Nat} {v0 v1 v2 : Value} {l0 l1 l2 : List Int} (h : Ctl M B oid i0 i1 i2 v0 v1 v2 l0 l1 l2) (hb : b ≤ B) {i : Nat} (hi : i < l1.length) (y : Int) :
    ∃ M', putCells b M i1 i [iv y] = some M' ∧ Ctl M' B oid i0 i1 i2 v0 v1 v2 l0 (l1.set i y) l2 ∧ M'.length = M.length ∧ ∀ (q : Nat) s, q ≠ i1 → M[q]? = some s → M'[q]? = some s := by
  obtain ⟨M', p1, p2, p3, p4⟩ := h.r1.put hb hi y
  have ha := h.apart
  exact ⟨M', p1, ⟨h.low, ⟨h.orow.choose, p4 _ _ (Ne.symm ha.2.2.2.2.1) h.orow.choose_spec⟩, h.r0.keep fun s hs => p4 _ _ ha.1 hs, p2, h.r2.keep fun s hs => p4 _ _ (Ne.symm ha.2.2.1) hs, ha⟩, p3, p4⟩
theorem Ctl.put2 {M : Mem} {B b oid i0 i1 i2 : Nat} {v0 v1 v2 : Value} {l0 l1 l2 : List Int} (h : Ctl M B oid i0 i1 i2 v0 v1 v2 l0 l1 l2) (hb : b ≤ B) {i : Nat} (hi : i < l2.length) (y : Int) :
    ∃ M', putCells b M i2 i [iv y] = some M' ∧ Ctl M' B oid i0 i1 i2 v0 v1 v2 l0 l1 (l2.set i y) ∧ M'.length = M.length ∧ ∀ (q : Nat) s, q ≠ i2 → M[q]? = some s → M'[q]? = some s := by
  obtain ⟨M', p1, p2, p3, p4⟩ := h.r2.put hb hi y
  have ha := h.apart
  exact ⟨M', p1, ⟨h.low, ⟨h.orow.choose, p4 _ _ (Ne.symm ha.2.2.2.2.2) h.orow.choose_spec⟩, h.r0.keep fun s hs => p4 _ _ ha.2.1 hs, h.r1.keep fun s hs => p4 _ _ ha.2.2.1 hs, p2, ha⟩, p3, p4⟩
end Go.Proofs.Ytimijeeihicohaa

namespace Go.Proofs.Ytimijeeihicohaa
open Go.RowKit
set_option linter.unusedVariables false
set_option linter.unusedSimpArgs false
set_option maxRecDepth 100000
attribute [local simp] List.getElem?_cons_zero
attribute [local irreducible] awCond awCall awLoop awDraw ow retQ retC resQ Keeps
def cntC (g : Clip) (n : Nat) : Nat := (min g.len (n - g.at_)).toNat
def valC (ss : List (List Int)) (g : Clip) (k : Nat) (x : Int) : Int := smp (x + g.gain * atL (el ss g.src.toNat) (g.fr + k))
def rendC (ss : List (List Int)) (g : Clip) : Nat → List Int → List Int
  | 0, l => l
  | k + 1, l => (rendC ss g k l).set (g.at_ + k).toNat (valC ss g k (el (rendC ss g k l) (g.at_ + k).toNat))
def rendT (ss : List (List Int)) (cl : List Clip) (n : Nat) : Nat → List Int
  | 0 => List.replicate n 0
  | i + 1 => rendC ss (el cl i) (cntC (el cl i) n) (rendT ss cl n i)
theorem rendC_len {ss : List (List Int)} {g : Clip} {l : List Int} : ∀ k, (rendC ss g k l).length = l.length
  | 0 => rfl
  | k + 1 => by rw [rendC, List.length_set, rendC_len k]
theorem rendT_len {ss : List (List Int)} {cl : List Clip} {n : Nat} : ∀ i, (rendT ss cl n i).length = n
  | 0 => by simp [rendT]
  | i + 1 => by rw [rendT, rendC_len, rendT_len i]
def inS (l : List Int) : Prop := ∀ x, x ∈ l → -2147483648 ≤ x ∧ x ≤ 2147483647
theorem rendC_in {ss : List (List Int)} {g : Clip} {l : List Int} (h : inS l) : ∀ k, inS (rendC ss g k l)
  | 0 => h
  | k + 1 => fun x hx => by
    rcases List.mem_or_eq_of_mem_set hx with h' | rfl
    · exact rendC_in h k x h'
    · exact smp_bd _
theorem rendT_in {ss : List (List Int)} {cl : List Clip} {n : Nat} : ∀ i, inS (rendT ss cl n i)
  | 0 => fun x hx => by rw [rendT, List.mem_replicate] at hx; omega
  | i + 1 => rendC_in (rendT_in i) _
def hasC (cl : List Clip) (n : Nat) : Bool := cl.all fun g => decide (g.src < n)
theorem slt {M M' : Mem} (h : Same M.length M M') : Keeps M M' := h.keeps (Keeps.refl _) (Nat.le_refl _)
theorem put_boxJ {b : Nat} {M : Mem} {vs cs : List Value} {t : Bool} {e : TypeId} {z : Nat} (hb : b ≤ M.length) (hl : vs.length = cs.length) (h1 : vs.all oneV = true) :
    putCells b (M ++ [.live ⟨cs, true, t, e, z⟩]) M.length 0 vs = some (M ++ [.live ⟨vs, true, t, e, z⟩]) := by
  rw [put_whole getElem?_snoc_eq hb hl h1]
  simp
theorem clipB_bd {g : Clip} (h : clipB g = true) : (0 ≤ g.src ∧ g.src ≤ 5) ∧ (1 ≤ g.len ∧ g.len ≤ 4000) ∧ (0 ≤ g.fr ∧ g.fr ≤ 4000 - g.len) ∧ (0 ≤ g.at_ ∧ g.at_ ≤ 4000 - g.len) ∧ (-2147483648 ≤ g.gain ∧ g.gain ≤ 2147483647) := by
  unfold clipB at h
  simp only [Bool.and_eq_true] at h
  obtain ⟨⟨⟨⟨h1, h2⟩, h3⟩, h4⟩, h5⟩ := h
  exact ⟨inB_iff.1 h1, inB_iff.1 h2, inB_iff.1 h3, inB_iff.1 h4, inB_iff.1 h5⟩
end Go.Proofs.Ytimijeeihicohaa
