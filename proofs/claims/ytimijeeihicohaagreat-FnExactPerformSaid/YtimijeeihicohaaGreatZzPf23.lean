/- Parts of the proof, together: The gates of a score. The gates of a valid score are valid. Gates: what good gates are. Gate: a list is cloned. Gates: voices are given, in plain words. Gates: the reference gives voices. No conditions. -/
import Derived.Test.YtimijeeihicohaaGreatZzPf22
import Derived.Test.YtimijeeihicohaaGreatZzPf15
import Derived.Test.YtimijeeihicohaaGreatZzPf8
import Derived.Test.YtimijeeihicohaaGreatZzPf19
namespace Go.Proofs.YtimijeeihicohaaGreat
open Go.RowKit
set_option linter.unusedVariables false
set_option linter.unusedSimpArgs false
set_option maxRecDepth 100000
attribute [local simp] List.getElem?_cons_zero
attribute [local irreducible] awCond awCall awLoop awDraw ow retQ retC resQ Keeps
def noteG (t : List Tempo) (n : Note) : Gate := ⟨0, (sampB t n.at_).1, (sampB t n.fin).1, n.k, n.u⟩
def badG (t : List Tempo) (n : Note) : Bool := decide ((sampB t n.at_).2 ≠ 0) || decide ((sampB t n.fin).2 ≠ 0) || decide (4000 < (sampB t n.fin).1)
def longG (t : List Tempo) (n : Note) : Bool := decide ((sampB t n.at_).1 < (sampB t n.fin).1)
def gatesF (t : List Tempo) (l : List Note) : List Gate := (l.filter (longG t)).map (noteG t)
def gatesV (l : List Note) (t : List Tempo) : List Gate × Int := if scoreB l = true ∧ tempB t = true then (if l.any (badG t) = true then ([], 2) else (gatesF t l, 0)) else ([], 1)
theorem gatesF_len (t : List Tempo) (l : List Note) : (gatesF t l).length ≤ l.length := by
  unfold gatesF
  rw [List.length_map]
  exact List.length_filter_le _ _
theorem gatesF_take {t : List Tempo} {l : List Note} {k : Nat} (hk : k < l.length) : gatesF t (l.take (k + 1)) = gatesF t (l.take k) ++ if longG t (el l k) = true then [noteG t (el l k)] else [] := by
  rw [take_el hk]
  unfold gatesF
  rw [List.filter_append, List.map_append]
  by_cases h : longG t (el l k) = true
  · simp [h]
  · simp [h]
theorem any_el {l : List Note} {p : Note → Bool} {k : Nat} (hk : k < l.length) (h : p (el l k) = true) : l.any p = true := List.any_eq_true.2 ⟨_, el_mem hk, h⟩
theorem any_no {l : List Note} {p : Note → Bool} (h : ∀ i, i < l.length → p (el l i) = false) : l.any p = false := by
  rw [List.any_eq_false]
  intro x hx
  obtain ⟨i, hi, rfl⟩ := List.getElem_of_mem hx
  rw [el_eq hi, h i hi]
  simp
def GatesR (M : Mem) (w : List Gate × Int) (r : Value) (M' : Mem) : Prop := ∃ v0, r = .tuple #[v0, iv w.2] ∧ OwL gateR M.length M'.length M' v0 w.1 ∧ Keeps M M'
theorem GatesR.no {M M' : Mem} {e : Int} (h : Keeps M M') : GatesR M ([], e) (.tuple #[.slice none 0 0, iv e]) M' := ⟨_, rfl, OwL.nil, h⟩
def gF (t : List Tempo) (l : List Note) : List Gate × Int := if l.any (badG t) = true then ([], 2) else (gatesF t l, 0)
theorem gate_build (x0 x1 x2 x3 x4 : Int) : Instr.fill (fun x => [(0, 1), (1, 1), (2, 1), (3, 1), (4, 1)][x]?) #[iv 0, iv 0, iv 0, iv 0, iv 0] [(0, iv x0), (1, iv x1), (2, iv x2), (3, iv x3), (4, iv x4)] = some #[iv x0, iv x1, iv x2, iv x3, iv x4] := by rfl
theorem gate_build4 (x1 x2 x3 x4 : Int) : Instr.fill (fun x => [(0, 1), (1, 1), (2, 1), (3, 1), (4, 1)][x]?) #[iv 0, iv 0, iv 0, iv 0, iv 0] [(1, iv x1), (2, iv x2), (3, iv x3), (4, iv x4)] = some #[iv 0, iv x1, iv x2, iv x3, iv x4] := by rfl
set_option maxHeartbeats 2000000 in
theorem gatesOf_i {M : Mem} {A A2 : Option Addr} {n c n2 c2 : Nat} {l : List Note} {t : List Tempo} (h : Sl noteR M A n l) (hn : n ≤ 1048576) (ht : Sl tempoR M A2 n2 t) (hn2 : n2 ≤ 1048576) :
    Ctr Tryz.prog M.length 72 [.agg #[.slice A n c], .agg #[.slice A2 n2 c2]] M (GatesR M (gF t l)) := by
  have hl := h.1
  first | (refine ctr_fn Tryz.func72 rfl Tryz.ntmps72 Tryz.results72 rfl rfl (by simp) ?_) | (refine ctr_fnC Tryz.func72 rfl Tryz.ntmps72 Tryz.results72 rfl (by simp) ?_)
  simp
  obtain ⟨M0, hM0⟩ : ∃ M0 : Mem, M0 = M ++ [.live ⟨[.slice A n c], true, true, 70, 1⟩, .live ⟨[.slice A2 n2 c2], true, true, 74, 1⟩] := ⟨_, rfl⟩
  have hML : M0.length = M.length + 2 := by rw [hM0]; simp
  have hMk : Keeps M M0 := by rw [hM0]; exact keeps_app _
  have hMb : cellsAt M0 (M.length + 1) 0 1 = some [.slice A2 n2 c2] := by rw [hM0]; simp
  have h0 := h.keeps hMk
  refine awLoop_T (fun m T M' => ∃ (k : Nat) (u : Value), k + m = n ∧ Keeps M0 M' ∧ Acc gateR 90 M0.length M' u (gatesF t (l.take k)) ∧ (∀ i, i < k → badG t (el l i) = false) ∧ look T 17 = some (iv k) ∧ look T 16 = some (iv n) ∧ look T 15 = some (.slice A n c) ∧ look T 6 = some u ∧ look T 3 = some (.pointer (some ⟨M.length + 1, 0, none⟩))) n
    ⟨0, .slice (some ⟨M0.length, 0, none⟩) 0 0, by omega, ?_, ?_, fun i hi => by omega, by simp, by simp, by simp, by simp [hML], by simp⟩ ?_
  · rw [hM0]
    have := keeps_app (M := M ++ [.live ⟨[.slice A n c], true, true, 70, 1⟩, .live ⟨[.slice A2 n2 c2], true, true, 74, 1⟩]) [.live ⟨[], true, true, 90, 5⟩]
    simpa using this
  · refine ⟨_, _, _, rfl, rfl, .inr ⟨M0.length, true, rfl, Nat.le_refl _, ?_⟩⟩
    rw [hML]
    simp [gatesF, cellsL_nil]
  rintro m T M1 ⟨k, u, hm, hK, hA, hb, t17, t16, t15, t6, t3⟩
  have hKl := hK.len
  by_cases hlt : k < n
  · obtain ⟨id, off, rfl, he, hc⟩ := (h0.keeps hK).at_ hlt
    have hld := note_load hc
    simp (disch := omega) [t17, t16, t15, t6, t3, hlt, he, hld, cellsAt_app (cellsAt_keeps hK hMb)]
    have htk := fun L => (ht.keeps (hMk.trans hK)).app L
    refine awCall_det' (SampleOfBeat_i (c := c2) (el l k).at_ (htk _) (by omega)) (by simp; omega) ?_
    simp (disch := omega)
    refine awDraw_E 8 [[],[],[1],[0,2,1],[3,0,2,1],[4,3,0,2,1],[4,3,0,2,1],[5,4,3,0,2,1],[6,4,3,0,2,1,7,5]] (by kernel_rfl) (by kernel_rfl) ?_
    simp (disch := omega) [t17, t16, t15, t6, t3, cellsAt_app (cellsAt_keeps hK hMb)]
    refine awCall_det' (end_i (el l k)) (by simp) ?_
    simp (disch := omega)
    refine awCall_det' (SampleOfBeat_i (c := c2) (el l k).fin (htk _) (by omega)) (by simp) ?_
    have hbad : badG t (el l k) = true → gF t l = ([], 2) := fun h => by unfold gF; rw [if_pos (any_el (by omega) h)]
    have hno : ∀ M', Keeps M M' → badG t (el l k) = true → GatesR M (gF t l) (.tuple #[.slice none 0 0, iv 2]) M' := fun M' hk h => by rw [hbad h]; exact GatesR.no hk
    have hkk := hMk.trans hK
    by_cases f1 : (sampB t (el l k).at_).2 = 0
    case neg =>
      simp (disch := omega) [f1]
      exact hno _ (hkk.app _) (by simp [badG, f1])
    by_cases f2 : (sampB t (el l k).fin).2 = 0
    case neg =>
      simp (disch := omega) [f1, f2]
      exact hno _ (hkk.app _) (by simp [badG, f2])
    by_cases f3 : 4000 < (sampB t (el l k).fin).1
    case pos =>
      simp (disch := omega) [f1, f2, f3]
      exact hno _ (hkk.app _) (by simp [badG, f3])
    have hg : badG t (el l k) = false := by simp [badG, f1, f2, f3]
    have htake := gatesF_take (t := t) (l := l) (k := k) (by omega)
    by_cases f4 : (sampB t (el l k).at_).1 < (sampB t (el l k).fin).1
    · rw [if_pos (by simp [longG, f4])] at htake
      simp (disch := omega) [f1, f2, f3, f4, t17, t6, gate_build]
      have hle := gatesF_len t (l.take k)
      rw [List.length_take] at hle
      refine Acc.append (R := gateR) (e := 90) (by_ := 40) (a := noteG t (el l k)) (hA.keeps (keeps_app _)) (by omega) (by simp; omega) (by omega) (by simp) (by kernel_rfl) (by simp [srcOf, gateR, Gate.row, noteG]) (by rfl) (by omega) (by unfold maxLen; omega) ?_
      intro v' M2 hA2 hS
      try simp (disch := omega) [t17, wrap_in]
      refine lpI (m - 1) (by omega) ⟨k + 1, v', by omega, hS.keeps (hK.app _) (Nat.le_refl _), by rw [htake]; exact hA2, ?_, by simp, by simp [t16], by simp [t15], by simp, by simp [t3]⟩
      intro i hi
      by_cases hik : i = k
      · rw [hik]; exact hg
      · exact hb i (by omega)
    · rw [if_neg (by simp [longG, f4]), List.append_nil] at htake
      simp (disch := omega) [f1, f2, f3, f4, t17, t6, wrap_in]
      refine lpI (m - 1) (by omega) ⟨k + 1, u, by omega, hK.app _, by rw [htake]; exact hA.keeps (keeps_app _), ?_, by simp, by simp [t16], by simp [t15], by simp [t6], by simp [t3]⟩
      intro i hi
      by_cases hik : i = k
      · rw [hik]; exact hg
      · exact hb i (by omega)
  · obtain rfl : k = n := by omega
    rw [List.take_of_length_le (by omega)] at hA
    simp [t17, t16, t15, t6]
    have e : gF t l = (gatesF t l, 0) := by unfold gF; rw [if_neg (by rw [any_no (fun i hi => hb i (by omega))]; simp)]
    have hf := (hA.low (B' := M.length) (by omega)).fresh (by have := gatesF_len t l; omega) (hMk.trans hK)
    rw [e]
    exact ⟨u, rfl, hf.ow.1, hf.ow.2⟩
theorem gatesV_ok {l : List Note} {t : List Tempo} (h1 : scoreB l = true) (h2 : tempB t = true) : gatesV l t = gF t l := by unfold gatesV gF; rw [if_pos ⟨h1, h2⟩]
theorem gatesV_no {l : List Note} {t : List Tempo} (h : scoreB l = true → tempB t = true → False) : gatesV l t = ([], 1) := by unfold gatesV; rw [if_neg (fun hh => h hh.1 hh.2)]























set_option maxHeartbeats 2000000 in
theorem GatesOfScore_s {M : Mem} {A A2 : Option Addr} {n c n2 c2 : Nat} {l : List Note} {t : List Tempo} (h : Sl noteR M A n l) (hn : n ≤ 1048576) (ht : Sl tempoR M A2 n2 t) (hn2 : n2 ≤ 1048576) :
    Ctr Tryz.prog M.length 63 [.agg #[.slice A n c], .agg #[.slice A2 n2 c2]] M (GatesR M (gatesV l t)) := by
  have hl := h.1
  first | (refine ctr_fn Tryz.func63 rfl Tryz.ntmps63 Tryz.results63 rfl rfl (by simp) ?_) | (refine ctr_fnC Tryz.func63 rfl Tryz.ntmps63 Tryz.results63 rfl (by simp) ?_)
  simp
  refine awCall_det' (l18Ok_a (c := c) (h.app _) (by simp) (by omega)) (by simp) ?_
  by_cases h1 : scoreB l = true
  case neg =>
    rw [gatesV_no (fun hh _ => h1 hh)]
    simp [h1]
    exact GatesR.no (keeps_app _)
  simp [h1]
  refine awCall_det' (l17Ok_a (c := c2) (ht.app _) (by simp) (by omega)) (by simp) ?_
  by_cases h2 : tempB t = true
  case neg =>
    rw [gatesV_no (fun _ hh => h2 hh)]
    simp [h2]
    exact GatesR.no (keeps_app _)
  rw [gatesV_ok h1 h2]
  simp [h2]
  obtain ⟨M0, hM0⟩ : ∃ M0 : Mem, M0 = M ++ [.live ⟨[.slice A n c], true, true, 70, 1⟩, .live ⟨[.slice A2 n2 c2], true, true, 74, 1⟩] := ⟨_, rfl⟩
  have hML : M0.length = M.length + 2 := by rw [hM0]; simp
  have hMk : Keeps M M0 := by rw [hM0]; exact keeps_app _
  have hMb : cellsAt M0 (M.length + 1) 0 1 = some [.slice A2 n2 c2] := by rw [hM0]; simp
  have hMs : cellAt M0 M.length 0 = some (.slice A n c) := by rw [hM0]; simp
  have h0 := h.keeps hMk
  refine awLoop_T (fun m T M' => ∃ (k : Nat) (u : Value), k + m = n ∧ Keeps M0 M' ∧ Acc gateR 90 M0.length M' u (gatesF t (l.take k)) ∧ (∀ i, i < k → badG t (el l i) = false) ∧ look T 7 = some (iv k) ∧ look T 6 = some u ∧ look T 3 = some (.pointer (some ⟨M.length + 1, 0, none⟩)) ∧ look T 2 = some (.pointer (some ⟨M.length, 0, none⟩))) n
    ⟨0, .slice (some ⟨M0.length, 0, none⟩) 0 0, by omega, ?_, ?_, fun i hi => by omega, by simp, by simp [hML], by simp, by simp⟩ ?_
  · rw [hM0]
    have := keeps_app (M := M ++ [.live ⟨[.slice A n c], true, true, 70, 1⟩, .live ⟨[.slice A2 n2 c2], true, true, 74, 1⟩]) [.live ⟨[], true, true, 90, 5⟩]
    simpa using this
  · refine ⟨_, _, _, rfl, rfl, .inr ⟨M0.length, true, rfl, Nat.le_refl _, ?_⟩⟩
    rw [hML]
    simp [gatesF, cellsL_nil]
  rintro m T M1 ⟨k, u, hm, hK, hA, hb, t7, t6, t3, t2⟩
  have hKl := hK.len
  have hr1 := cellAt_keeps hK hMs
  by_cases hlt : k < n
  · obtain ⟨id, off, rfl, he, hc⟩ := (h0.keeps hK).at_ hlt
    obtain ⟨c0, c1, c2', c3, c4, c5, c6⟩ := note_cells hc
    obtain ⟨g0, g2⟩ := note_cellsN hc
    simp (disch := omega) [t7, t6, t3, t2, hlt, he, hr1]
    refine awDraw_M 13 [[],[0],[1,0],[2,1,0],[],[4],[5,4],[6,5,4],[3,2,1,0,7,6,5,4],[8,3,2,1,0,7,6,5,4],[9,8,3,2,1,0,7,6,5,4],[9,8,3,2,1,0,7,6,5,4],[],[12,10,9,8,3,2,1,0,7,6,5,4],[11,9,8,3,2,1,0,7,6,5,4,13,12,10]] [11] (by kernel_rfl) (by decide +kernel) (by decide +kernel) ?_
    simp (disch := omega) [t7, t6, t3, t2, g0, g2]
    refine awCall_det' (AddFrac_s (el l k).at_ (el l k).len) (by omega) ?_
    have hfin : (addF (el l k).at_ (el l k).len).1 = (el l k).fin := rfl
    rw [hfin]
    simp (disch := omega) [t7, t6, t3, t2]
    refine awDraw_E 10 [[],[],[1],[2,1],[3,2,1],[0,4,3,2,1],[5,0,4,3,2,1],[6,5,0,4,3,2,1],[6,5,0,4,3,2,1],[7,6,5,0,4,3,2,1],[8,6,5,0,4,3,2,1,9,7]] (by kernel_rfl) (by kernel_rfl) ?_
    have g0' := fun L => cellsAt_app g0 L
    have x3 := fun L => cellsAt_app (cellsAt_keeps hK hMb) L
    have htk := fun L => (ht.keeps (hMk.trans hK)).app L
    simp (disch := omega) [t7, t6, t3, t2, g0', x3]
    refine awCall_det' (SampleOfBeat_s (c := c2) (el l k).at_ (htk _) (by omega)) (by simp) ?_
    simp (disch := omega) [t7, t6, t3, t2, g0', x3]
    refine awCall_det' (SampleOfBeat_s (c := c2) (el l k).fin (htk _) (by omega)) (by simp <;> omega) ?_
    have hbad : badG t (el l k) = true → gF t l = ([], 2) := fun h => by unfold gF; rw [if_pos (any_el (by omega) h)]
    have hno : ∀ M', Keeps M M' → badG t (el l k) = true → GatesR M (gF t l) (.tuple #[.slice none 0 0, iv 2]) M' := fun M' hk h => by rw [hbad h]; exact GatesR.no hk
    have hkk := hMk.trans hK
    by_cases f1 : (sampB t (el l k).at_).2 = 0
    case neg =>
      simp (disch := omega) [f1]
      exact hno _ (hkk.app _) (by simp [badG, f1])
    by_cases f2 : (sampB t (el l k).fin).2 = 0
    case neg =>
      simp (disch := omega) [f1, f2]
      exact hno _ (hkk.app _) (by simp [badG, f2])
    by_cases f3 : 4000 < (sampB t (el l k).fin).1
    case pos =>
      simp (disch := omega) [f1, f2, f3]
      exact hno _ (hkk.app _) (by simp [badG, f3])
    have hg : badG t (el l k) = false := by simp [badG, f1, f2, f3]
    have htake := gatesF_take (t := t) (l := l) (k := k) (by omega)
    have hb' : ∀ i, i < k + 1 → badG t (el l i) = false := by
      intro i hi
      by_cases hik : i = k
      · rw [hik]; exact hg
      · exact hb i (by omega)
    by_cases f4 : (sampB t (el l k).at_).1 < (sampB t (el l k).fin).1
    · rw [if_pos (by simp [longG, f4])] at htake
      simp (disch := omega) [f1, f2, f3, f4]
      refine awDraw_D 13 [[],[],[],[],[3],[4,3],[5,4,3],[],[7],[8,7],[9,8,7],[1,2,6,5,4,3,10,9,8,7],[11,1,2,6,5,4,3,10,9,8,7],[0,12,11,1,2,6,5,4,3,10,9,8,7],[13,0,12,11,1,2,6,5,4,3,10,9,8,7]] (by kernel_rfl) (by decide +kernel) ?_
      simp (disch := omega) [f1, f2, f3, f4, t7, t6, c4, c5, cellAt_app c4, cellAt_app c5, gate_build4]
      have hle := gatesF_len t (l.take k)
      rw [List.length_take] at hle
      refine Acc.append (R := gateR) (e := 90) (by_ := 40) (a := noteG t (el l k)) (hA.keeps (keeps_app _)) (by omega) (by simp; omega) (by omega) (by simp) (by kernel_rfl) (by simp [srcOf, gateR, Gate.row, noteG]) (by rfl) (by omega) (by unfold maxLen; omega) ?_
      intro v' M2 hA2 hS
      try simp (disch := omega) [t7, wrap_in]
      exact lpI (m - 1) (by omega) ⟨k + 1, v', by omega, hS.keeps (hK.app _) (Nat.le_refl _), by rw [htake]; exact hA2, hb', by simp, by simp, by simp [t3], by simp [t2]⟩
    · rw [if_neg (by simp [longG, f4]), List.append_nil] at htake
      simp (disch := omega) [f1, f2, f3, f4, t7, t6, wrap_in]
      exact lpI (m - 1) (by omega) ⟨k + 1, u, by omega, hK.app _, by rw [htake]; exact hA.keeps (keeps_app _), hb', by simp, by simp [t6], by simp [t3], by simp [t2]⟩
  · obtain rfl : k = n := by omega
    rw [List.take_of_length_le (by omega)] at hA
    simp [t7, t6, t2, hr1]
    have e : gF t l = (gatesF t l, 0) := by unfold gF; rw [if_neg (by rw [any_no (fun i hi => hb i (by omega))]; simp)]
    have hf := (hA.low (B' := M.length) (by omega)).fresh (by have := gatesF_len t l; omega) (hMk.trans hK)
    rw [e]
    exact ⟨u, rfl, hf.ow.1, hf.ow.2⟩
end Go.Proofs.YtimijeeihicohaaGreat

namespace Go.Proofs.YtimijeeihicohaaGreat
open Go.RowKit
set_option linter.unusedVariables false
set_option linter.unusedSimpArgs false
set_option maxRecDepth 100000
attribute [local simp] List.getElem?_cons_zero
attribute [local irreducible] awCond awCall awLoop awDraw ow retQ retC resQ Keeps
theorem scoreB_iff {l : List Note} : scoreB l = true ↔ l.length ≤ 60 ∧ (∀ n, n ∈ l → noteB n = true) ∧ ∀ i, i < l.length → 0 < i → ordN (el l (i - 1)) (el l i) < 0 := by
  simp only [scoreB, Bool.and_eq_true, decide_eq_true_eq, List.all_eq_true, and_assoc]
theorem ordN_q {a b : Note} (ha : noteB a = true) (hb : noteB b = true) (h : ordN a b < 0) : a.at_.q ≤ b.at_.q := by
  have fa := (fracB_iff.1 (beatB_iff.1 (noteB_iff.1 ha).1).1).1.1
  have fb := (fracB_iff.1 (beatB_iff.1 (noteB_iff.1 hb).1).1).1.1
  refine (cmpF_q fa fb).1 ?_
  unfold ordN at h
  split at h
  · omega
  · rename_i hc
    omega
theorem score_up {l : List Note} (h : scoreB l = true) : ∀ (d i : Nat), i + d < l.length → (el l i).at_.q ≤ (el l (i + d)).at_.q
  | 0, i, _ => Rat.le_refl
  | d + 1, i, hd => by
    obtain ⟨-, h2, h3⟩ := scoreB_iff.1 h
    have h4 := score_up h d i (by omega)
    have h5 := h3 (i + (d + 1)) hd (by omega)
    rw [show i + (d + 1) - 1 = i + d by omega] at h5
    have h6 := ordN_q (h2 _ (el_mem (by omega))) (h2 _ (el_mem hd)) h5
    grind
theorem badG_no {t : List Tempo} {n : Note} (h : badG t n = false) : (sampB t n.at_).2 = 0 ∧ (sampB t n.fin).2 = 0 ∧ (sampB t n.fin).1 ≤ 4000 := by
  simp only [badG, Bool.or_eq_false_iff, decide_eq_false_iff_not] at h
  omega
theorem gatesF_ok {l : List Note} {t : List Tempo} (hs : scoreB l = true) (hb : ∀ n, n ∈ l → badG t n = false) : okG (gatesF t l) = true := by
  obtain ⟨h1, h2, -⟩ := scoreB_iff.1 hs
  have hp : l.Pairwise fun a b => a.at_.q ≤ b.at_.q := by
    rw [List.pairwise_iff_getElem]
    intro i j hi hj hij
    rw [el_eq hi, el_eq hj]
    have := score_up hs (j - i) i (by omega)
    rwa [show i + (j - i) = j by omega] at this
  have hp2 : (gatesF t l).Pairwise fun a b => a.s ≤ b.s := by
    unfold gatesF
    rw [List.pairwise_map]
    refine List.Pairwise.imp_of_mem (fun {a b} ha hb' hab => ?_) (hp.filter _)
    have ma := (List.mem_filter.1 ha).1
    have mb := (List.mem_filter.1 hb').1
    exact sampB_mono (badG_no (hb a ma)).1 (badG_no (hb b mb)).1 hab
  have hg : ∀ g, g ∈ gatesF t l → gateB g = true := by
    intro g hg
    obtain ⟨n, hn, rfl⟩ := List.mem_map.1 hg
    obtain ⟨hn, hl⟩ := List.mem_filter.1 hn
    obtain ⟨b1, b2, b3⟩ := badG_no (hb n hn)
    have hp := sampB_pos b1
    obtain ⟨-, -, -, -, k1, k2, -⟩ := noteB_iff.1 (h2 n hn)
    have hlt : (sampB t n.at_).1 < (sampB t n.fin).1 := by simpa [longG] using hl
    simp only [gateB, Bool.and_eq_true, decide_eq_true_eq, inB_iff]
    exact ⟨⟨⟨⟨⟨⟨Int.le_refl 0, show (0 : Int) ≤ 3 by omega⟩, hp⟩, hlt⟩, b3⟩, k1⟩, k2⟩
  rw [okG_of fun i hi => ⟨hg _ (el_mem hi), fun h0 => ?_⟩]
  · have := gatesF_len t l
    exact decide_eq_true (by omega)
  · rw [List.pairwise_iff_getElem] at hp2
    have := hp2 (i - 1) i (by omega) hi (by omega)
    rwa [el_eq (by omega), el_eq hi] at this
end Go.Proofs.YtimijeeihicohaaGreat

namespace Go.Proofs.YtimijeeihicohaaGreat
open Go.RowKit
set_option linter.unusedVariables false
set_option linter.unusedSimpArgs false
set_option maxRecDepth 100000
attribute [local simp] List.getElem?_cons_zero
attribute [local irreducible] awCond awCall awLoop awDraw ow retQ retC resQ Keeps
theorem okG_el {l : List Gate} (h : okG l = true) {a : Gate} (ha : a ∈ l) : 0 ≤ a.s ∧ a.s < a.e ∧ a.e ≤ 4000 ∧ 0 ≤ a.o ∧ a.o ≤ 3 := by
  obtain ⟨i, hi, rfl⟩ := List.getElem_of_mem ha
  unfold okG at h
  simp only [Bool.and_eq_true, decide_eq_true_eq] at h
  have := (h.1 i hi).1
  rw [el_eq hi]
  simp [gateB, inB] at this
  omega
end Go.Proofs.YtimijeeihicohaaGreat

namespace Go.Proofs.YtimijeeihicohaaGreat
open Go.RowKit
set_option linter.unusedVariables false
set_option linter.unusedSimpArgs false
set_option maxRecDepth 100000
attribute [local simp] List.getElem?_cons_zero
attribute [local irreducible] awCond awCall awLoop awDraw ow retQ retC resQ Keeps
theorem gate_one (l : List Gate) : (cellsL gateR l).all (fun u => u.oneCell') = true := by
  induction l with
  | nil => rfl
  | cons a l ih => rw [cellsL_cons, List.all_append, ih]; rfl
end Go.Proofs.YtimijeeihicohaaGreat

namespace Go.Proofs.YtimijeeihicohaaGreat
open Go.RowKit
set_option linter.unusedVariables false
set_option linter.unusedSimpArgs false
set_option maxRecDepth 100000
attribute [local simp] List.getElem?_cons_zero
attribute [local irreducible] awCond awCall awLoop awDraw ow retQ retC resQ Keeps
/-- The index of the last gate of a voice, -1 if there is none. -/
def lastI (v : Int) : List Gate → Int
  | [] => -1
  | g :: l => if 0 ≤ lastI v l then lastI v l + 1 else if g.o = v then 0 else -1
theorem el_zero (g : Gate) (l : List Gate) : el (g :: l) 0 = g := rfl
theorem el_succ (g : Gate) (l : List Gate) (i : Nat) : el (g :: l) (i + 1) = el l i := rfl
theorem lastI_spec (v : Int) : ∀ l : List Gate, (lastI v l = -1 ∧ ∀ i, i < l.length → (el l i).o ≠ v) ∨ (∃ i : Nat, lastI v l = i ∧ i < l.length ∧ (el l i).o = v ∧ ∀ j, i < j → j < l.length → (el l j).o ≠ v)
  | [] => .inl ⟨rfl, fun i hi => by simp at hi⟩
  | g :: l => by
    rcases lastI_spec v l with ⟨h1, h2⟩ | ⟨i, h1, h2, h3, h4⟩
    · have e : lastI v (g :: l) = if g.o = v then 0 else -1 := by rw [lastI, h1]; rfl
      by_cases hg : g.o = v
      · refine .inr ⟨0, by rw [e, if_pos hg]; rfl, by simp, hg, fun j hj hl => ?_⟩
        obtain ⟨j, rfl⟩ : ∃ j', j = j' + 1 := ⟨j - 1, by omega⟩
        rw [el_succ]
        exact h2 j (by simpa using hl)
      · refine .inl ⟨by rw [e, if_neg hg], fun j hl => ?_⟩
        rcases j with _ | j
        · exact hg
        · rw [el_succ]; exact h2 j (by simpa using hl)
    · refine .inr ⟨i + 1, by rw [lastI, h1, if_pos (by omega)]; rfl, by simpa using h2, by rw [el_succ]; exact h3, fun j hj hl => ?_⟩
      obtain ⟨j, rfl⟩ : ∃ j', j = j' + 1 := ⟨j - 1, by omega⟩
      rw [el_succ]
      exact h4 j (by omega) (by simpa using hl)
theorem lastI_none {v : Int} {l : List Gate} (h : ∀ i, i < l.length → (el l i).o ≠ v) : lastI v l = -1 := by
  rcases lastI_spec v l with ⟨h1, _⟩ | ⟨i, _, h2, h3, _⟩
  · exact h1
  · exact absurd h3 (h i h2)
theorem lastI_some {v : Int} {l : List Gate} {i : Nat} (hi : i < l.length) (h : (el l i).o = v) (hj : ∀ j, i < j → j < l.length → (el l j).o ≠ v) : lastI v l = i := by
  rcases lastI_spec v l with ⟨_, h2⟩ | ⟨k, h1, h2, h3, h4⟩
  · exact absurd h (h2 i hi)
  · rcases Nat.lt_trichotomy k i with hlt | rfl | hgt
    · exact absurd h (h4 i hlt hi)
    · exact h1
    · exact absurd h3 (hj k hgt h2)
/-- The free voice with the least number (-1), and the voice whose last gate began first, of v voices. -/
def scanS (out : List Gate) (s : Int) : Nat → Int × Int
  | 0 => (-1, 0)
  | v + 1 =>
    let f := if (scanS out s v).1 < 0 ∧ (lastI v out < 0 ∨ (el out (lastI v out).toNat).e ≤ s) then (v : Int) else (scanS out s v).1
    (f, if 0 ≤ lastI v out ∧ f < 0 ∧ (el out (lastI v out).toNat).s < (el out (lastI (scanS out s v).2 out).toNat).s then (v : Int) else (scanS out s v).2)
theorem scanS_bd (out : List Gate) (s : Int) : ∀ v, (-1 ≤ (scanS out s v).1 ∧ (scanS out s v).1 < v) ∧ 0 ≤ (scanS out s v).2 ∧ ((scanS out s v).2 < v ∨ (scanS out s v).2 = 0) ∧ ((scanS out s v).1 < 0 → ∀ u : Nat, u < v → 0 ≤ lastI u out)
  | 0 => by simp [scanS]
  | v + 1 => by
    obtain ⟨h1, h2, h3, h4⟩ := scanS_bd out s v
    simp only [scanS]
    refine ⟨by split <;> omega, by split <;> omega, by split <;> omega, fun h u hu => ?_⟩
    split at h
    · omega
    · rename_i hc
      rcases Nat.lt_or_ge u v with h' | h'
      · exact h4 h u h'
      · obtain rfl : u = v := by omega
        by_cases hl : 0 ≤ lastI u out
        · exact hl
        · exact absurd ⟨h, .inl (by omega)⟩ hc
/-- One gate more is given to a voice. -/
def stepS (voices : Nat) (st : List Gate × Int) (g : Gate) : List Gate × Int :=
  if (scanS st.1 g.s voices).1 < 0 then
    ((if (el st.1 (lastI (scanS st.1 g.s voices).2 st.1).toNat).s = g.s then st.1.eraseIdx (lastI (scanS st.1 g.s voices).2 st.1).toNat
      else st.1.set (lastI (scanS st.1 g.s voices).2 st.1).toNat { el st.1 (lastI (scanS st.1 g.s voices).2 st.1).toNat with e := g.s }) ++ [{ g with o := (scanS st.1 g.s voices).2 }], st.2 + 1)
  else (st.1 ++ [{ g with o := (scanS st.1 g.s voices).1 }], st.2)
def allocP (voices : Nat) (l : List Gate) : List Gate × Int := l.foldl (stepS voices) ([], 0)
theorem allocP_snoc (voices : Nat) (l : List Gate) (g : Gate) : allocP voices (l ++ [g]) = stepS voices (allocP voices l) g := by simp [allocP]
theorem stepS_len (voices : Nat) (st : List Gate × Int) (g : Gate) : (stepS voices st g).1.length ≤ st.1.length + 1 ∧ st.2 ≤ (stepS voices st g).2 ∧ (stepS voices st g).2 ≤ st.2 + 1 := by
  unfold stepS
  split
  · refine ⟨?_, by simp only; omega, by simp only; omega⟩
    simp only [List.length_append, List.length_cons, List.length_nil]
    split
    · have := List.length_eraseIdx_le st.1 (lastI (scanS st.1 g.s voices).2 st.1).toNat
      omega
    · simp
  · simp
    omega
theorem allocP_len (voices : Nat) : ∀ (l : List Gate) (st : List Gate × Int), (l.foldl (stepS voices) st).1.length ≤ st.1.length + l.length ∧ st.2 ≤ (l.foldl (stepS voices) st).2 ∧ (l.foldl (stepS voices) st).2 ≤ st.2 + l.length
  | [], st => by simp
  | g :: l, st => by
    have h1 := stepS_len voices st g
    have h2 := allocP_len voices l (stepS voices st g)
    simp only [List.foldl_cons, List.length_cons]
    omega
theorem l21Last_a {M : Mem} {A : Option Addr} {n c : Nat} {l : List Gate} (v : Int) (h : Sl gateR M A n l) (hn : n ≤ 1048576) : Det Tryz.prog M.length 114 [.slice A n c, iv v] M (iv (lastI v l)) M := by
  have hl := h.1
  first | (refine det_fn Tryz.func114 rfl Tryz.ntmps114 Tryz.results114 rfl rfl rfl (by simp) ?_) | (refine det_fnC Tryz.func114 rfl Tryz.ntmps114 Tryz.results114 rfl rfl (by simp) ?_)
  simp (disch := omega) [wrap_in]
  refine awLoop_T (fun m T M' => M = M' ∧ m ≤ n ∧ (∀ j, m ≤ j → j < n → (el l j).o ≠ v) ∧ look T 5 = some (iv (m - 1)) ∧ look T 0 = some (.slice A n c) ∧ look T 1 = some (iv v)) n ⟨rfl, by omega, fun j h1 h2 => by omega, by simp, by simp, by simp⟩ ?_
  rintro m T M' ⟨rfl, hm, hj, h5, h0, h1⟩
  rcases m with _ | m
  · simp [h5, h0, h1]
    rw [lastI_none (by intro i hi; exact hj i (by omega) (by omega))]
    simp [Keeps.refl]
  · obtain ⟨id, off, rfl, he, hc⟩ := h.at_ (i := m) (by omega)
    obtain ⟨c0, c1, c2, c3, c4⟩ := gate_cells hc
    have e1 : ((m + 1 : Nat) : Int) - 1 = m := by omega
    rw [e1] at h5
    simp (disch := omega) [h5, h0, h1, he, c0, wrap_in]
    refine ⟨by omega, ?_⟩
    by_cases hv : (el l m).o = v
    · simp (disch := omega) [hv, h5]
      rw [lastI_some (by omega) hv (by intro j h1 h2; exact hj j (by omega) (by omega))]
      simp [Keeps.refl]
    · simp (disch := omega) [hv, h5, wrap_in]
      refine lpI m (by omega) ?_
      exact ⟨rfl, by omega, fun j h1 h2 => by
        by_cases e : j = m
        · subst e; exact hv
        · exact hj j (by omega) h2, by simp, by simp [h0], by simp [h1]⟩
theorem cells_set_e {l : List Gate} {j : Nat} {x : Int} (h : j < l.length) : (cellsL gateR l).set (j * 5 + 2) (iv x) = cellsL gateR (l.set j { el l j with e := x }) := by
  have e1 : l = l.take j ++ (el l j :: l.drop (j + 1)) := by
    conv => lhs; rw [← List.take_append_drop j l, drop_el h]
  have hl : (l.take j).length = j := by simp; omega
  have e2 : l.set j { el l j with e := x } = l.take j ++ ({ el l j with e := x } :: l.drop (j + 1)) := by
    conv => lhs; rw [e1]
    rw [List.set_append_right _ _ (by omega), hl, Nat.sub_self]
    simp [hl, el_append_right]
    rw [show el (el l j :: List.drop (j + 1) l) 0 = el l j from rfl]
    exact ⟨rfl, rfl, rfl, rfl⟩
  rw [e2]
  conv => lhs; rw [e1]
  have e3 : (cellsL gateR (l.take j)).length = j * 5 := by rw [cellsL_len, hl]
  rw [cellsL_append, cellsL_append, cellsL_cons, cellsL_cons, List.set_append_right _ _ (by omega), e3, show j * 5 + 2 - j * 5 = 2 by omega]
  rfl
theorem el_set_self {l : List Gate} {j : Nat} {g : Gate} (h : j < l.length) : el (l.set j g) j = g := by simp [el, h]
theorem append_newG {P : Program} {α : Type} {k : Nat} {R : RecV α k} {e t tx : TypeId} {b by_ id : Nat} {S : St} {x : Value} {ls : List α} {K : Value → Mem → Prop} (hr : S.M[id]? = some (.live ⟨[], true, true, e, k⟩)) (hq : qSlice P t = some (e, k, by_))
    (hz : (P.info? e).any (fun i => i.zero.any fun z => z.cells.size == k) = true) (hs : srcOf P S.M k tx x = some (ls.length, cellsL R ls)) (h1 : (cellsL R ls).all (fun u => u.oneCell') = true) (hn : ls.length * by_ ≤ 140737488355328) (hm : ls.length ≤ maxLen)
    (hK0 : ls = [] → K (.slice (some ⟨id, 0, none⟩) 0 0) S.M) (hK1 : ls ≠ [] → K (.slice (some ⟨S.M.length, 0, none⟩) ls.length ls.length) (S.M ++ [.live ⟨cellsL R ls, true, false, e, k⟩])) : appendK P b S K t tx (.slice (some ⟨id, 0, none⟩) 0 0) x := by
  unfold appendK
  rw [hq]
  simp only [ow_some]
  rw [hs]
  simp only [ow_some]
  refine ⟨hz, h1, ?_⟩
  simp only [hr]
  refine ⟨⟨trivial, by simp, trivial, trivial⟩, by simpa using hn, by simpa using hm, fun h => ?_, fun h => ?_⟩
  · exact hK0 (List.eq_nil_of_length_eq_zero h)
  · rw [if_pos trivial]
    have := hK1 (fun e => h (by simp [e]))
    simpa using this
theorem Sl.take {α : Type} {k : Nat} {R : RecV α k} {M : Mem} {id off n m : Nat} {l : List α} (h : Sl R M (some ⟨id, off, none⟩) n l) (hm : m ≤ n) : Sl R M (some ⟨id, off, none⟩) m (l.take m) := by
  refine ⟨by rw [List.length_take, h.1]; omega, fun hp => ?_⟩
  obtain ⟨_, _, e, he, hc⟩ := h.2 (by omega)
  cases e
  refine ⟨id, off, rfl, he, fun j x hx => hc j x ?_⟩
  rw [cellsL_take] at hx
  rw [List.getElem?_take] at hx
  split at hx
  · exact hx
  · cases hx
theorem Sl.drop {α : Type} {k : Nat} {R : RecV α k} {M : Mem} {id off n m : Nat} {l : List α} (h : Sl R M (some ⟨id, off, none⟩) n l) (hm : m ≤ n) : Sl R M (some ⟨id, off + m * k, none⟩) (n - m) (l.drop m) := by
  refine ⟨by rw [List.length_drop, h.1], fun hp => ?_⟩
  obtain ⟨_, _, e, he, hc⟩ := h.2 (by omega)
  cases e
  refine ⟨id, off + m * k, rfl, he, fun j x hx => ?_⟩
  rw [cellsL_drop, List.getElem?_drop] at hx
  rw [Nat.add_assoc]
  exact hc _ x hx
end Go.Proofs.YtimijeeihicohaaGreat

namespace Go.Proofs.YtimijeeihicohaaGreat
open Go.RowKit
set_option linter.unusedVariables false
set_option linter.unusedSimpArgs false
set_option maxRecDepth 100000
attribute [local simp] List.getElem?_cons_zero
attribute [local irreducible] awCond awCall awLoop awDraw ow retQ retC resQ Keeps
set_option maxHeartbeats 4000000 in
theorem l21Allocate_a {M : Mem} {A : Option Addr} {n c : Nat} {l : List Gate} (V : Nat) (h : Sl gateR M A n l) (hok : okG l = true) (hn : n ≤ 60) (hV : 1 ≤ V ∧ V ≤ 4) : Ctr Tryz.prog M.length 64 [.slice A n c, iv V] M fun r M' => ∃ v0, r = .tuple #[v0, iv (allocP V l).2] ∧ Fresh gateR M v0 M' (allocP V l).1 := by
  have hl := h.1
  first | (refine ctr_fn Tryz.func64 rfl Tryz.ntmps64 Tryz.results64 rfl rfl (by simp) ?_) | (refine ctr_fnC Tryz.func64 rfl Tryz.ntmps64 Tryz.results64 rfl (by simp) ?_)
  simp
  refine awLoop_T (fun m T M' => ∃ (i : Nat) (u : Value), i + m = n ∧ Keeps M M' ∧ Acc gateR 90 M.length M' u (allocP V (l.take i)).1 ∧ look T 8 = some (iv i) ∧ look T 6 = some u ∧ look T 7 = some (iv (allocP V (l.take i)).2) ∧ look T 0 = some (.slice A n c) ∧ look T 1 = some (iv V)) n ⟨0, .slice (some ⟨M.length, 0, none⟩) 0 0, by omega, keeps_app _, ⟨some ⟨M.length, 0, none⟩, 0, 0, rfl, by simp [allocP], .inr ⟨M.length, true, rfl, Nat.le_refl _, by simp [allocP, cellsL]⟩⟩, by simp, by simp, by simp [allocP], by simp, by simp⟩ ?_
  rintro m T M' ⟨i, u, hm, hK, hA, h8, h6, h7, h0, h1⟩
  have hKl := hK.len
  have hal := allocP_len V (l.take i) ([], 0)
  have hal2 : (allocP V (l.take i)).1.length ≤ i ∧ 0 ≤ (allocP V (l.take i)).2 ∧ (allocP V (l.take i)).2 ≤ i := by
    have e : (l.take i).length ≤ i := by simp; omega
    unfold allocP
    simp only [List.length_nil] at hal
    omega
  by_cases hlt : i < n
  · obtain ⟨id, off, rfl, he, hc⟩ := h.at_ hlt
    have hst : allocP V (l.take (i + 1)) = stepS V (allocP V (l.take i)) (el l i) := by rw [take_el (by omega), allocP_snoc]
    rcases hP : allocP V (l.take i) with ⟨out, sh⟩
    rw [hP] at hst hA h7 hal2
    simp only at hA h7 hal2
    obtain ⟨A', n', c', rfl, hln, hsl, hone⟩ := hA.sl
    have hb := okG_el hok (el_mem (l := l) (i := i) (by omega))
    simp (disch := omega) [h8, h0, hlt, wrap_in, rowEsz_keeps hK he, gate_load (hc.keeps hK)]
    refine awLoop_T (fun m2 T M2 => ∃ v : Nat, v + m2 = V ∧ M2 = M' ++ [.live ⟨[iv (el l i).o, iv (el l i).s, iv (el l i).e, iv (el l i).k, iv (el l i).u], true, true, 90, 5⟩] ∧ look T 12 = some (iv v) ∧ look T 10 = some (iv (scanS out (el l i).s v).1) ∧ look T 11 = some (iv (scanS out (el l i).s v).2) ∧ look T 9 = some (.pointer (some ⟨M'.length, 0, none⟩)) ∧ look T 8 = some (iv i) ∧ look T 6 = some (.slice A' n' c') ∧ look T 7 = some (iv sh) ∧ look T 0 = some (.slice (some ⟨id, off, none⟩) n c) ∧ look T 1 = some (iv V)) V ⟨0, by omega, rfl, by simp, by simp [scanS], by simp [scanS], by simp, by simp [h8], by simp [h6], by simp [h7], by simp [h0], by simp [h1]⟩ ?_
    rintro m2 T2 M2 ⟨v, hm2, rfl, g12, g10, g11, g9, g8, g6, g7, g0, g1⟩
    have hslb : Sl gateR (M' ++ [.live ⟨[iv (el l i).o, iv (el l i).s, iv (el l i).e, iv (el l i).k, iv (el l i).u], true, true, 90, 5⟩]) A' n' out := hsl.app _
    obtain ⟨s1, s2, s3, s4⟩ := scanS_bd out (el l i).s v
    by_cases hlv : v < V
    · have hlv' : (v : Int) < V := by omega
      simp (disch := omega) [g12, g6, g1, hlv', wrap_in]
      refine awCall_det' (l21Last_a (v : Int) hslb (by omega)) (by simp; omega) ?_
      refine awDraw_E 13 [[],[0],[1,0],[2,1,0],[3,2,1,0],[4,3,2,1,0],[5,4,3,2,1,0],[5,4,3,2,1,0],[6,5,4,3,2,1,0,7],[8,6,5,4,3,2,1,0,7],[9,8,6,5,4,3,2,1,0,7],[5,4,3,2,1,0],[11,5,4,3,2,1,0],[10,9,8,6,5,4,3,2,1,0,7,12,11],[5,4,3,2,1,0,13,10,9,8,6,7,12,11],[2,1,0,14,5,4,3,13,10,9,8,6,7,12,11]] (by kernel_rfl) (by kernel_rfl) ?_
      have hsc : scanS out (el l i).s (v + 1) = (if (scanS out (el l i).s v).1 < 0 ∧ (lastI v out < 0 ∨ (el out (lastI v out).toNat).e ≤ (el l i).s) then (v : Int) else (scanS out (el l i).s v).1, if 0 ≤ lastI v out ∧ (if (scanS out (el l i).s v).1 < 0 ∧ (lastI v out < 0 ∨ (el out (lastI v out).toNat).e ≤ (el l i).s) then (v : Int) else (scanS out (el l i).s v).1) < 0 ∧ (el out (lastI v out).toNat).s < (el out (lastI (scanS out (el l i).s v).2 out).toNat).s then (v : Int) else (scanS out (el l i).s v).2) := rfl
      rcases hR : scanS out (el l i).s v with ⟨f0, o0⟩
      rw [hR] at g10 g11 s1 s2 s3 s4 hsc
      simp only at g10 g11 s1 s2 s3 s4 hsc
      rcases lastI_spec (v : Int) out with ⟨hk, hnone⟩ | ⟨j, hk, hjl, hjo, hjm⟩
      · rw [hk] at hsc
        have hng : ¬ (0 : Int) ≤ -1 := by omega
        by_cases hf : f0 < 0
        · have hS : scanS out (el l i).s (v + 1) = ((v : Int), o0) := by rw [hsc]; simp [hf]
          simp (disch := omega) [hk, hf, g12, g10, g11, g9, g8, g6, wrap_in]
          refine awDraw_E 19 [[],[0],[1,0],[2,1,0],[3,2,1,0],[2,1,0,4,3],[5,2,1,0,4,3],[6,5,2,1,0,4,3],[6,5,2,1,0,4,3],[7,6,5,2,1,0,4,3,8],[9,7,6,5,2,1,0,4,3,8],[10,9,7,6,5,2,1,0,4,3,8],[6,5,2,1,0,4,3],[6,5,2,1,0,4,3],[6,5,2,1,0,4,3],[13,6,5,2,1,0,4,3,14],[12,6,5,2,1,0,4,3,15,13,14],[16,12,6,5,2,1,0,4,3,15,13,14],[17,16,12,6,5,2,1,0,4,3,15,13,14],[11,10,9,7,6,5,2,1,0,4,3,8,18,17,16,12,15,13,14],[6,5,2,1,0,4,3,19,11,10,9,7,8,18,17,16,12,15,13,14]] (by kernel_rfl) (by kernel_rfl) ?_
          simp (disch := omega) [hk, g12, g10, g11, g9, g8, g6, wrap_in]
          refine lpI (m2 - 1) (by omega) ?_
          exact ⟨v + 1, by omega, rfl, by simp, by simp [hS, g10], by simp [hS, g11], by simp [g9], by simp [g8], by simp [g6], by simp [g7], by simp [g0], by simp [g1]⟩
        · have hS : scanS out (el l i).s (v + 1) = (f0, o0) := by rw [hsc]; simp [hf]
          simp (disch := omega) [hk, hf, g12, g10, g11, g9, g8, g6, wrap_in]
          refine awDraw_E 19 [[],[0],[1,0],[2,1,0],[3,2,1,0],[2,1,0,4,3],[5,2,1,0,4,3],[6,5,2,1,0,4,3],[6,5,2,1,0,4,3],[7,6,5,2,1,0,4,3,8],[9,7,6,5,2,1,0,4,3,8],[10,9,7,6,5,2,1,0,4,3,8],[6,5,2,1,0,4,3],[6,5,2,1,0,4,3],[6,5,2,1,0,4,3],[13,6,5,2,1,0,4,3,14],[12,6,5,2,1,0,4,3,15,13,14],[16,12,6,5,2,1,0,4,3,15,13,14],[17,16,12,6,5,2,1,0,4,3,15,13,14],[11,10,9,7,6,5,2,1,0,4,3,8,18,17,16,12,15,13,14],[6,5,2,1,0,4,3,19,11,10,9,7,8,18,17,16,12,15,13,14]] (by kernel_rfl) (by kernel_rfl) ?_
          simp (disch := omega) [hk, g12, g10, g11, g9, g8, g6, wrap_in]
          refine lpI (m2 - 1) (by omega) ?_
          exact ⟨v + 1, by omega, rfl, by simp, by simp [hS, g10], by simp [hS, g11], by simp [g9], by simp [g8], by simp [g6], by simp [g7], by simp [g0], by simp [g1]⟩
      · obtain ⟨oid, ooff, rfl, hoe, hoc⟩ := hslb.at_ (i := j) (by omega)
        obtain ⟨d0, d1, d2, d3, d4⟩ := gate_cells hoc
        rw [hk] at hsc
        have hkn : (j : Int).toNat = j := by omega
        rw [hkn] at hsc
        have hjn : ¬ ((j : Int) < 0) := by omega
        have hjp : (0 : Int) ≤ j := by omega
        by_cases hf : f0 < 0
        · by_cases he2 : (el out j).e ≤ (el l i).s
          · have hvn : ¬ ((v : Int) < 0) := by omega
            have hS : scanS out (el l i).s (v + 1) = ((v : Int), o0) := by rw [hsc]; simp [hf, he2, hvn]
            simp (disch := omega) [hk, hf, hjn, hoe, d2, he2, g12, g10, g11, g9, g8, g6, wrap_in]
            refine ⟨by omega, ?_⟩
            refine awDraw_E 19 [[],[0],[1,0],[2,1,0],[3,2,1,0],[2,1,0,4,3],[5,2,1,0,4,3],[6,5,2,1,0,4,3],[6,5,2,1,0,4,3],[7,6,5,2,1,0,4,3,8],[9,7,6,5,2,1,0,4,3,8],[10,9,7,6,5,2,1,0,4,3,8],[6,5,2,1,0,4,3],[6,5,2,1,0,4,3],[6,5,2,1,0,4,3],[13,6,5,2,1,0,4,3,14],[12,6,5,2,1,0,4,3,15,13,14],[16,12,6,5,2,1,0,4,3,15,13,14],[17,16,12,6,5,2,1,0,4,3,15,13,14],[11,10,9,7,6,5,2,1,0,4,3,8,18,17,16,12,15,13,14],[6,5,2,1,0,4,3,19,11,10,9,7,8,18,17,16,12,15,13,14]] (by kernel_rfl) (by kernel_rfl) ?_
            simp (disch := omega) [hk, hjp, hvn, g12, g10, g11, g9, g8, g6, wrap_in]
            refine lpI (m2 - 1) (by omega) ?_
            exact ⟨v + 1, by omega, rfl, by simp, by simp [hS, g10], by simp [hS, g11], by simp [g9], by simp [g8], by simp [g6], by simp [g7], by simp [g0], by simp [g1]⟩
          · obtain ⟨j2, hk2, hj2⟩ : ∃ j2 : Nat, lastI o0 out = j2 ∧ j2 < out.length := by
              rcases lastI_spec o0 out with ⟨h3, h4⟩ | ⟨j2, h3, h4, -⟩
              · exfalso
                rcases s3 with s3 | s3
                · have := s4 hf o0.toNat (by omega)
                  rw [show ((o0.toNat : Nat) : Int) = o0 by omega] at this
                  omega
                · subst s3
                  rcases Nat.eq_zero_or_pos v with hv0 | hv0
                  · subst hv0
                    have e0 : ((0 : Nat) : Int) = 0 := rfl
                    rw [e0] at hk
                    rw [hk] at h3
                    omega
                  · have := s4 hf 0 hv0
                    have e0 : ((0 : Nat) : Int) = 0 := rfl
                    rw [e0, h3] at this
                    omega
              · exact ⟨j2, h3, h4⟩
            obtain ⟨_, _, e', hoe2, hoc2⟩ := hslb.at_ (i := j2) (by omega)
            cases e'
            obtain ⟨f0', f1, f2, f3, f4⟩ := gate_cells hoc2
            rw [hk2, show (j2 : Int).toNat = j2 by omega] at hsc
            simp (disch := omega) [hk, hf, hjn, hoe, d2, he2, g12, g10, g11, g9, g8, g6, wrap_in]
            refine ⟨by omega, ?_⟩
            refine awDraw_E 19 [[],[0],[1,0],[2,1,0],[3,2,1,0],[2,1,0,4,3],[5,2,1,0,4,3],[6,5,2,1,0,4,3],[6,5,2,1,0,4,3],[7,6,5,2,1,0,4,3,8],[9,7,6,5,2,1,0,4,3,8],[10,9,7,6,5,2,1,0,4,3,8],[6,5,2,1,0,4,3],[6,5,2,1,0,4,3],[6,5,2,1,0,4,3],[13,6,5,2,1,0,4,3,14],[12,6,5,2,1,0,4,3,15,13,14],[16,12,6,5,2,1,0,4,3,15,13,14],[17,16,12,6,5,2,1,0,4,3,15,13,14],[11,10,9,7,6,5,2,1,0,4,3,8,18,17,16,12,15,13,14],[6,5,2,1,0,4,3,19,11,10,9,7,8,18,17,16,12,15,13,14]] (by kernel_rfl) (by kernel_rfl) ?_
            simp (disch := omega) [hk, hjp, hf, hoe, d1, g12, g10, g11, g9, g8, g6, wrap_in]
            refine ⟨by omega, ?_⟩
            refine awCall_det' (l21Last_a o0 hslb (by omega)) (by simp <;> omega) ?_
            by_cases hlt2 : (el out j).s < (el out j2).s
            · have hS : scanS out (el l i).s (v + 1) = (f0, (v : Int)) := by rw [hsc]; simp [hf, he2, hlt2, hjn, show ¬ (0 : Int) ≤ f0 by omega]
              simp (disch := omega) [hk2, hoe, f1, hlt2, g12, g10, g11, g9, g8, g6, wrap_in]
              refine ⟨by omega, ?_⟩
              refine lpI (m2 - 1) (by omega) ?_
              exact ⟨v + 1, by omega, rfl, by simp, by simp [hS, g10], by simp [hS, g11], by simp [g9], by simp [g8], by simp [g6], by simp [g7], by simp [g0], by simp [g1]⟩
            · have hS : scanS out (el l i).s (v + 1) = (f0, o0) := by rw [hsc]; simp [hf, he2, hlt2, hjn, show ¬ (0 : Int) ≤ f0 by omega]
              simp (disch := omega) [hk2, hoe, f1, hlt2, g12, g10, g11, g9, g8, g6, wrap_in]
              refine ⟨by omega, ?_⟩
              refine lpI (m2 - 1) (by omega) ?_
              exact ⟨v + 1, by omega, rfl, by simp, by simp [hS, g10], by simp [hS, g11], by simp [g9], by simp [g8], by simp [g6], by simp [g7], by simp [g0], by simp [g1]⟩
        · have hS : scanS out (el l i).s (v + 1) = (f0, o0) := by rw [hsc]; simp [hf]
          simp (disch := omega) [hk, hf, g12, g10, g11, g9, g8, g6, wrap_in]
          refine awDraw_E 19 [[],[0],[1,0],[2,1,0],[3,2,1,0],[2,1,0,4,3],[5,2,1,0,4,3],[6,5,2,1,0,4,3],[6,5,2,1,0,4,3],[7,6,5,2,1,0,4,3,8],[9,7,6,5,2,1,0,4,3,8],[10,9,7,6,5,2,1,0,4,3,8],[6,5,2,1,0,4,3],[6,5,2,1,0,4,3],[6,5,2,1,0,4,3],[13,6,5,2,1,0,4,3,14],[12,6,5,2,1,0,4,3,15,13,14],[16,12,6,5,2,1,0,4,3,15,13,14],[17,16,12,6,5,2,1,0,4,3,15,13,14],[11,10,9,7,6,5,2,1,0,4,3,8,18,17,16,12,15,13,14],[6,5,2,1,0,4,3,19,11,10,9,7,8,18,17,16,12,15,13,14]] (by kernel_rfl) (by kernel_rfl) ?_
          simp (disch := omega) [hk, hjp, hf, g12, g10, g11, g9, g8, g6, wrap_in]
          refine lpI (m2 - 1) (by omega) ?_
          exact ⟨v + 1, by omega, rfl, by simp, by simp [hS, g10], by simp [hS, g11], by simp [g9], by simp [g8], by simp [g6], by simp [g7], by simp [g0], by simp [g1]⟩
    · obtain rfl : v = V := by omega
      have hvv : ¬ (v : Int) < v := by omega
      rcases hR : scanS out (el l i).s v with ⟨f0, o0⟩
      rw [hR] at g10 g11 s1 s2 s3 s4
      simp only at g10 g11 s1 s2 s3 s4
      simp (disch := omega) [g12, g1, g10, g9]
      by_cases hf : f0 < 0
      · obtain ⟨j, hk, hjl⟩ : ∃ j : Nat, lastI o0 out = j ∧ j < out.length := by
          rcases lastI_spec o0 out with ⟨h3, h4⟩ | ⟨j2, h3, h4, -⟩
          · exfalso
            have := s4 hf o0.toNat (by omega)
            rw [show ((o0.toNat : Nat) : Int) = o0 by omega] at this
            omega
          · exact ⟨j2, h3, h4⟩
        simp (disch := omega) [hf, g7, g6, g11, wrap_in]
        refine awCall_det' (l21Last_a o0 (hsl.app _) (by omega)) (by simp; omega) ?_
        have hAx := hA
        obtain ⟨A2, n2, c2, e2, hl2, hA2⟩ := hAx
        injection e2 with e3 e4 e5
        subst e3; subst e4; subst e5
        rcases hA2 with ⟨-, hz0, -⟩ | ⟨oid, tt, rfl, hoid, hor⟩
        · omega
        have hol := (List.getElem?_eq_some_iff.1 hor).1
        obtain ⟨N, hN⟩ : ∃ N : Mem, N = M' ++ [.live ⟨[iv f0, iv (el l i).s, iv (el l i).e, iv (el l i).k, iv (el l i).u], true, true, 90, 5⟩] := ⟨_, rfl⟩
        rw [← hN]
        have hlN : N.length = M'.length + 1 := by rw [hN]; simp
        have hb0 : N[M'.length]? = some (.live ⟨[iv f0, iv (el l i).s, iv (el l i).e, iv (el l i).k, iv (el l i).u], true, true, 90, 5⟩) := by rw [hN]; simp
        have hor' : N[oid]? = some (.live ⟨cellsL gateR out, true, tt, 90, 5⟩) := by rw [hN, List.getElem?_append_left hol]; exact hor
        have hKN : Keeps M N := by rw [hN]; exact hK.app _
        clear hN
        have q1 : cellAt N M'.length 1 = some (iv (el l i).s) := by simp [cellAt, hb0]
        have q2 : rowEsz N oid = some 5 := by simp [rowEsz, hor']
        obtain ⟨N2, hN2⟩ : ∃ N2 : Mem, N2 = N.set oid (.live ⟨cellsL gateR (out.set j { el out j with e := (el l i).s }), true, tt, 90, 5⟩) := ⟨_, rfl⟩
        have hput : putCells M.length N oid (j * 5 + 2) [iv (el l i).s] = some N2 := by
          have := put_set (b := M.length) (M := N) (id := oid) (p := j * 5 + 2) (v := iv (el l i).s) (cs := cellsL gateR out) (t := tt) (e := 90) (z := 5) (by omega) hoid (by rw [cellsL_len]; omega) rfl
          rw [set_self hor', cells_set_e hjl] at this
          rw [this, hN2]
        have hr2 : N2[oid]? = some (.live ⟨cellsL gateR (out.set j { el out j with e := (el l i).s }), true, tt, 90, 5⟩) := by rw [hN2, List.getElem?_set_self (by omega)]
        have hb2 : N2[M'.length]? = some (.live ⟨[iv f0, iv (el l i).s, iv (el l i).e, iv (el l i).k, iv (el l i).u], true, true, 90, 5⟩) := by rw [hN2, List.getElem?_set_ne (by omega)]; exact hb0
        have hK2 : Keeps M N2 := by rw [hN2]; exact keeps_set hKN hoid
        have hl2' : N2.length = N.length := by rw [hN2]; simp
        clear hN2
        have hlo : (out.set j { el out j with e := (el l i).s }).length = n' := by simp; omega
        have hacc2 : Acc gateR 90 M.length N2 (.slice (some ⟨oid, 0, none⟩) n' c') (out.set j { el out j with e := (el l i).s }) := ⟨_, _, _, rfl, hlo, .inr ⟨oid, tt, rfl, hoid, hr2⟩⟩
        obtain ⟨_, _, _, ez, _, hsl2, _⟩ := hacc2.sl
        injection ez with ez1 ez2 ez3
        subst ez1; subst ez2; subst ez3
        obtain ⟨_, _, ey, hy1, hy2⟩ := hsl2.at_ (i := j) (by omega)
        cases ey
        rw [el_set_self hjl] at hy2
        obtain ⟨w0, w1, w2, w3, w4⟩ := gate_cells hy2
        simp only [Nat.zero_add] at w0 w1 w2 w3 w4
        have z1 : cellAt N2 M'.length 1 = some (iv (el l i).s) := by simp [cellAt, hb2]
        have z2 : rowEsz N2 oid = some 5 := by simp [rowEsz, hr2]
        simp (disch := omega) [g9, hk, q1, q2, hput]
        refine ⟨by omega, ?_⟩
        refine awDraw_E 7 [[],[],[0,1],[2,0,1],[3,2,0,1],[],[5],[4,3,2,0,1,6,5]] (by kernel_rfl) (by kernel_rfl) ?_
        simp (disch := omega) [g6, g9, z1, z2, w1]
        refine ⟨by omega, ?_⟩
        by_cases hs : (el out j).s = (el l i).s
        · have hstep : allocP v (l.take (i + 1)) = (out.eraseIdx j ++ [{ el l i with o := o0 }], sh + 1) := by rw [hst]; simp [stepS, hR, hf, hk, hs]
          simp (disch := omega) [hs]
          refine awDraw_D 9 [[],[],[],[1,2],[0,3,1,2],[],[],[6],[5,7,6],[4,0,3,1,2,8,5,7,6],[9,4,0,3,1,2,8,5,7,6]] (by kernel_rfl) (by decide +kernel) ?_
          have etn : ((j : Int) + 1).toNat = j + 1 := by omega
          have hol2 := (List.getElem?_eq_some_iff.1 hr2).1
          simp (disch := omega) [g6, z2, wrap_in, etn]
          refine ⟨by omega, by simp [rowEsz, List.getElem?_append_left hol2, hr2], ?_⟩
          obtain ⟨out1, ho1⟩ : ∃ out1, out1 = out.set j { el out j with e := (el l i).s } := ⟨_, rfl⟩
          have hel : out1.take j ++ out1.drop (j + 1) = out.eraseIdx j := by rw [← List.eraseIdx_eq_take_drop_succ, ho1, List.eraseIdx_set_eq]
          rw [← ho1] at hsl2 hlo
          have hlt1 : (out1.take j).length = j := by rw [List.length_take]; omega
          have hld1 : (out1.drop (j + 1)).length = n' - (j + 1) := by rw [List.length_drop]; omega
          have hle1 : (out.eraseIdx j).length ≤ 60 := by have := List.length_eraseIdx_le out j; omega
          refine append_newG (R := gateR) (e := 90) (by_ := 40) (ls := out1.take j) (by simp) (by simp) (by kernel_rfl) (((hsl2.take (m := j) (by omega)).app _).src (by omega) ⟨_, Tryz.underlying46⟩) (gate_one _) (by omega) (by unfold maxLen; omega) (fun h0 => ?_) (fun h0 => ?_)
          · skip
            refine ⟨[], by simp, ⟨by omega, by omega⟩, by simp [rowEsz, List.getElem?_append_left hol2, hr2], ?_⟩
            refine Acc.extend (R := gateR) (e := 90) (B := N2.length) (by_ := 40) (l := out1.take j) (ls := out1.drop (j + 1)) (by rw [h0]; exact ⟨_, 0, 0, rfl, rfl, .inr ⟨N2.length, true, rfl, Nat.le_refl _, by simp [cellsL]⟩⟩) (by omega) (by simp) (by simp) (by kernel_rfl) ?_ (gate_one _) (by omega) (by unfold maxLen; omega) ?_
            · have hd2 := (hsl2.drop (m := j + 1) (by omega)).app (.live ⟨[], true, true, 90, 5⟩ :: [])
              rw [Nat.zero_add] at hd2
              exact hd2.src (by omega) ⟨_, Tryz.underlying46⟩
            · intro v4 M4 hA4 hS4
              rw [hel] at hA4
              have hb4 := hS4.2 M'.length _ (by omega) (by rw [List.getElem?_append_left (by omega)]; exact hb2)
              have hK4 := hS4.keeps (hK2.app _) (by omega)
              have hl4 := hS4.1
              simp only [List.length_append] at hl4
              try simp (disch := omega)
              have pl := (List.getElem?_eq_some_iff.1 hb4).1
              obtain ⟨Q3, hQ3⟩ : ∃ Q3 : Mem, Q3 = M4.set M'.length (.live ⟨[iv o0, iv (el l i).s, iv (el l i).e, iv (el l i).k, iv (el l i).u], true, true, 90, 5⟩) := ⟨_, rfl⟩
              have hput3 : putCells M.length M4 M'.length 0 [iv o0] = some Q3 := by
                have := put_set (b := M.length) (M := M4) (id := M'.length) (p := 0) (v := iv o0) (cs := [iv f0, iv (el l i).s, iv (el l i).e, iv (el l i).k, iv (el l i).u]) (t := true) (e := 90) (z := 5) pl (by omega) (by simp) rfl
                rw [set_self hb4] at this
                rw [this, hQ3]
                rfl
              have hq5 : cellsAt Q3 M'.length 0 5 = some [iv o0, iv (el l i).s, iv (el l i).e, iv (el l i).k, iv (el l i).u] := by rw [hQ3]; simp [cellsAt, pl]
              have hQK : Keeps M Q3 := by rw [hQ3]; exact keeps_set hK4 hKl
              have hQl : Q3.length = M4.length := by rw [hQ3]; simp
              have hQA : Acc gateR 90 M.length Q3 v4 (out.eraseIdx j) := by rw [hQ3]; exact ((hA4.set_ne (by omega)).low (by omega))
              clear hQ3
              simp (disch := omega) [g11, g9, g6, hput3, hq5, wrap_in]
              refine Acc.append (R := gateR) (e := 90) (by_ := 40) (a := { el l i with o := o0 }) (hQA.keeps (keeps_app _)) (Nat.le_refl _) (by simp; omega) (by omega) (by simp) (by kernel_rfl) (by simp [srcOf, gateR, Gate.row]) (by rfl) (by first | omega | (simp; omega)) (by unfold maxLen; first | omega | (simp; omega)) ?_
              intro v' M3 hA3 hS3
              try simp (disch := omega) [g8, wrap_in]
              refine lpI (m - 1) (by omega) ?_
              exact ⟨i + 1, v', by omega, hS3.keeps (hQK.app _) (Nat.le_refl _), by rw [hstep]; exact hA3, by simp, by simp, by rw [hstep]; simp, by simp [g0], by simp [g1]⟩
          · rw [hlt1]
            refine ⟨[.live ⟨cellsL gateR (out1.take j), true, false, 90, 5⟩], by simp, ⟨by omega, by omega⟩, by simp [rowEsz, List.getElem?_append_left hol2, hr2], ?_⟩
            refine Acc.extend (R := gateR) (e := 90) (B := N2.length) (by_ := 40) (l := out1.take j) (ls := out1.drop (j + 1)) ⟨_, j, j, rfl, hlt1, .inr ⟨N2.length + 1, false, by simp, by omega, by simp⟩⟩ (by omega) (by simp) (by simp) (by kernel_rfl) ?_ (gate_one _) (by omega) (by unfold maxLen; omega) ?_
            · have hd2 := (hsl2.drop (m := j + 1) (by omega)).app (.live ⟨[], true, true, 90, 5⟩ :: [.live ⟨cellsL gateR (out1.take j), true, false, 90, 5⟩])
              rw [Nat.zero_add] at hd2
              exact hd2.src (by omega) ⟨_, Tryz.underlying46⟩
            · intro v4 M4 hA4 hS4
              rw [hel] at hA4
              have hb4 := hS4.2 M'.length _ (by omega) (by rw [List.getElem?_append_left (by omega)]; exact hb2)
              have hK4 := hS4.keeps (hK2.app _) (by omega)
              have hl4 := hS4.1
              simp only [List.length_append] at hl4
              try simp (disch := omega)
              have pl := (List.getElem?_eq_some_iff.1 hb4).1
              obtain ⟨Q3, hQ3⟩ : ∃ Q3 : Mem, Q3 = M4.set M'.length (.live ⟨[iv o0, iv (el l i).s, iv (el l i).e, iv (el l i).k, iv (el l i).u], true, true, 90, 5⟩) := ⟨_, rfl⟩
              have hput3 : putCells M.length M4 M'.length 0 [iv o0] = some Q3 := by
                have := put_set (b := M.length) (M := M4) (id := M'.length) (p := 0) (v := iv o0) (cs := [iv f0, iv (el l i).s, iv (el l i).e, iv (el l i).k, iv (el l i).u]) (t := true) (e := 90) (z := 5) pl (by omega) (by simp) rfl
                rw [set_self hb4] at this
                rw [this, hQ3]
                rfl
              have hq5 : cellsAt Q3 M'.length 0 5 = some [iv o0, iv (el l i).s, iv (el l i).e, iv (el l i).k, iv (el l i).u] := by rw [hQ3]; simp [cellsAt, pl]
              have hQK : Keeps M Q3 := by rw [hQ3]; exact keeps_set hK4 hKl
              have hQl : Q3.length = M4.length := by rw [hQ3]; simp
              have hQA : Acc gateR 90 M.length Q3 v4 (out.eraseIdx j) := by rw [hQ3]; exact ((hA4.set_ne (by omega)).low (by omega))
              clear hQ3
              simp (disch := omega) [g11, g9, g6, hput3, hq5, wrap_in]
              refine Acc.append (R := gateR) (e := 90) (by_ := 40) (a := { el l i with o := o0 }) (hQA.keeps (keeps_app _)) (Nat.le_refl _) (by simp; omega) (by omega) (by simp) (by kernel_rfl) (by simp [srcOf, gateR, Gate.row]) (by rfl) (by first | omega | (simp; omega)) (by unfold maxLen; first | omega | (simp; omega)) ?_
              intro v' M3 hA3 hS3
              try simp (disch := omega) [g8, wrap_in]
              refine lpI (m - 1) (by omega) ?_
              exact ⟨i + 1, v', by omega, hS3.keeps (hQK.app _) (Nat.le_refl _), by rw [hstep]; exact hA3, by simp, by simp, by rw [hstep]; simp, by simp [g0], by simp [g1]⟩
        · have hstep : allocP v (l.take (i + 1)) = (out.set j { el out j with e := (el l i).s } ++ [{ el l i with o := o0 }], sh + 1) := by rw [hst]; simp [stepS, hR, hf, hk, hs]
          simp (disch := omega) [hs]
          have pl := (List.getElem?_eq_some_iff.1 hb2).1
          obtain ⟨Q3, hQ3⟩ : ∃ Q3 : Mem, Q3 = N2.set M'.length (.live ⟨[iv o0, iv (el l i).s, iv (el l i).e, iv (el l i).k, iv (el l i).u], true, true, 90, 5⟩) := ⟨_, rfl⟩
          have hput3 : putCells M.length N2 M'.length 0 [iv o0] = some Q3 := by
            have := put_set (b := M.length) (M := N2) (id := M'.length) (p := 0) (v := iv o0) (cs := [iv f0, iv (el l i).s, iv (el l i).e, iv (el l i).k, iv (el l i).u]) (t := true) (e := 90) (z := 5) pl (by omega) (by simp) rfl
            rw [set_self hb2] at this
            rw [this, hQ3]
            rfl
          have hq5 : cellsAt Q3 M'.length 0 5 = some [iv o0, iv (el l i).s, iv (el l i).e, iv (el l i).k, iv (el l i).u] := by rw [hQ3]; simp [cellsAt, pl]
          have hQK : Keeps M Q3 := by rw [hQ3]; exact keeps_set hK2 hKl
          have hQl : Q3.length = N2.length := by rw [hQ3]; simp
          have hQA : Acc gateR 90 M.length Q3 (.slice (some ⟨oid, 0, none⟩) n' c') (out.set j { el out j with e := (el l i).s }) := by rw [hQ3]; exact (⟨_, _, _, rfl, hlo, .inr ⟨oid, tt, rfl, hoid, by rw [List.getElem?_set_ne (by omega)]; exact hr2⟩⟩)
          clear hQ3
          simp (disch := omega) [g11, g9, g6, hput3, hq5, wrap_in]
          refine Acc.append (R := gateR) (e := 90) (by_ := 40) (a := { el l i with o := o0 }) (hQA.keeps (keeps_app _)) (Nat.le_refl _) (by simp; omega) (by omega) (by simp) (by kernel_rfl) (by simp [srcOf, gateR, Gate.row]) (by rfl) (by simp; omega) (by simp [maxLen]; omega) ?_
          intro v' M3 hA3 hS3
          try simp (disch := omega) [g8, wrap_in]
          refine lpI (m - 1) (by omega) ?_
          exact ⟨i + 1, v', by omega, hS3.keeps (hQK.app _) (Nat.le_refl _), by rw [hstep]; exact hA3, by simp, by simp, by rw [hstep]; simp, by simp [g0], by simp [g1]⟩
      · have hstep : allocP v (l.take (i + 1)) = (out ++ [{ el l i with o := f0 }], sh) := by rw [hst]; simp [stepS, hR, hf]
        simp (disch := omega) [hf, g6, g9]
        refine Acc.append (R := gateR) (e := 90) (by_ := 40) (a := { el l i with o := f0 }) (hA.keeps (keeps_app _)) (Nat.le_refl _) (by simp; omega) (by omega) (by simp) (by kernel_rfl) (by simp [srcOf, gateR, Gate.row]) (by rfl) (by first | omega | (simp; omega)) (by unfold maxLen; first | omega | (simp; omega)) ?_
        intro v' M3 hA3 hS3
        try simp (disch := omega) [g8, wrap_in]
        refine lpI (m - 1) (by omega) ?_
        exact ⟨i + 1, v', by omega, hS3.keeps (hK.app _) (Nat.le_refl _), by rw [hstep]; exact hA3, by simp, by simp, by rw [hstep]; simp [g7], by simp [g0], by simp [g1]⟩
  · obtain rfl : i = n := by omega
    rw [List.take_of_length_le (by omega)] at hA h7 hal2
    have hf := hA.fresh (by omega) hK
    simp [h8, h6, h7, h0]
    exact hf
end Go.Proofs.YtimijeeihicohaaGreat
