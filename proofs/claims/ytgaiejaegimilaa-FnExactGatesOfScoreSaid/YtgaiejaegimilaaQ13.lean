/- The gates of a score. No conditions. -/
import Derived.Test.YtgaiejaegimilaaQ12
import Derived.Test.YtgaiejaegimilaaHGate
import Derived.Test.YtgaiejaegimilaaL1
namespace Go.Proofs.Ytgaiejaegimilaa
open Go.RowKit
set_option linter.unusedVariables false
set_option linter.unusedSimpArgs false
set_option maxRecDepth 100000
attribute [local simp] List.getElem?_cons_zero
attribute [local irreducible] awCond awCall awLoop awDraw ow retQ retC resQ Keeps
def noteG (t : List Tempo) (n : Note) : Gate := ⟨0, (sampB t n.at_).1, (sampB t n.fin).1, n.k, n.u⟩
def badG (t : List Tempo) (n : Note) : Bool := decide ((sampB t n.at_).2 ≠ 0) || decide ((sampB t n.fin).2 ≠ 0) || decide (4000 < (sampB t n.fin).1)
def longG (t : List Tempo) (n : Note) : Bool := decide ((sampB t n.at_).1 < (sampB t n.fin).1)
def gatesF (t : List Tempo) (l : List Note) : List Gate := (l.filter (longG t)).map (noteG t)
def gatesV (l : List Note) (t : List Tempo) : List Gate × Int := if scoreB l = true ∧ tempB t = true then (if l.any (badG t) = true then ([], 2) else (gatesF t l, 0)) else ([], 1)
theorem gatesF_len (t : List Tempo) (l : List Note) : (gatesF t l).length ≤ l.length := by
  unfold gatesF
  rw [List.length_map]
  exact List.length_filter_le _ _
theorem gatesF_take {t : List Tempo} {l : List Note} {k : Nat} (hk : k < l.length) : gatesF t (l.take (k + 1)) = gatesF t (l.take k) ++ if longG t (el l k) = true then [noteG t (el l k)] else [] := by
  rw [take_el hk]
  unfold gatesF
  rw [List.filter_append, List.map_append]
  by_cases h : longG t (el l k) = true
  · simp [h]
  · simp [h]
theorem any_el {l : List Note} {p : Note → Bool} {k : Nat} (hk : k < l.length) (h : p (el l k) = true) : l.any p = true := List.any_eq_true.2 ⟨_, el_mem hk, h⟩
theorem any_no {l : List Note} {p : Note → Bool} (h : ∀ i, i < l.length → p (el l i) = false) : l.any p = false := by
  rw [List.any_eq_false]
  intro x hx
  obtain ⟨i, hi, rfl⟩ := List.getElem_of_mem hx
  rw [el_eq hi, h i hi]
  simp
def GatesR (M : Mem) (w : List Gate × Int) (r : Value) (M' : Mem) : Prop := ∃ v0, r = .tuple #[v0, iv w.2] ∧ OwL gateR M.length M'.length M' v0 w.1 ∧ Keeps M M'
theorem GatesR.no {M M' : Mem} {e : Int} (h : Keeps M M') : GatesR M ([], e) (.tuple #[.slice none 0 0, iv e]) M' := ⟨_, rfl, OwL.nil, h⟩
def gF (t : List Tempo) (l : List Note) : List Gate × Int := if l.any (badG t) = true then ([], 2) else (gatesF t l, 0)
theorem gate_build (x0 x1 x2 x3 x4 : Int) : Instr.fill (fun x => [(0, 1), (1, 1), (2, 1), (3, 1), (4, 1)][x]?) #[iv 0, iv 0, iv 0, iv 0, iv 0] [(0, iv x0), (1, iv x1), (2, iv x2), (3, iv x3), (4, iv x4)] = some #[iv x0, iv x1, iv x2, iv x3, iv x4] := by rfl
theorem gate_build4 (x1 x2 x3 x4 : Int) : Instr.fill (fun x => [(0, 1), (1, 1), (2, 1), (3, 1), (4, 1)][x]?) #[iv 0, iv 0, iv 0, iv 0, iv 0] [(1, iv x1), (2, iv x2), (3, iv x3), (4, iv x4)] = some #[iv 0, iv x1, iv x2, iv x3, iv x4] := by rfl
set_option maxHeartbeats 2000000 in
theorem gatesOf_i {M : Mem} {A A2 : Option Addr} {n c n2 c2 : Nat} {l : List Note} {t : List Tempo} (h : Sl noteR M A n l) (hn : n ≤ 1048576) (ht : Sl tempoR M A2 n2 t) (hn2 : n2 ≤ 1048576) :
    Ctr Try.prog M.length 58 [.agg #[.slice A n c], .agg #[.slice A2 n2 c2]] M (GatesR M (gF t l)) := by
  have hl := h.1
  first | (refine ctr_fn Try.func58 rfl Try.ntmps58 Try.results58 rfl rfl (by simp) ?_) | (refine ctr_fnC Try.func58 rfl Try.ntmps58 Try.results58 rfl (by simp) ?_)
  simp
  obtain ⟨M0, hM0⟩ : ∃ M0 : Mem, M0 = M ++ [.live ⟨[.slice A n c], true, true, 30, 1⟩, .live ⟨[.slice A2 n2 c2], true, true, 43, 1⟩] := ⟨_, rfl⟩
  have hML : M0.length = M.length + 2 := by rw [hM0]; simp
  have hMk : Keeps M M0 := by rw [hM0]; exact keeps_app _
  have hMb : cellsAt M0 (M.length + 1) 0 1 = some [.slice A2 n2 c2] := by rw [hM0]; simp
  have h0 := h.keeps hMk
  refine awLoop_T (fun m T M' => ∃ (k : Nat) (u : Value), k + m = n ∧ Keeps M0 M' ∧ Acc gateR 65 M0.length M' u (gatesF t (l.take k)) ∧ (∀ i, i < k → badG t (el l i) = false) ∧ look T 17 = some (iv k) ∧ look T 16 = some (iv n) ∧ look T 15 = some (.slice A n c) ∧ look T 6 = some u ∧ look T 3 = some (.pointer (some ⟨M.length + 1, 0, none⟩))) n
    ⟨0, .slice (some ⟨M0.length, 0, none⟩) 0 0, by omega, ?_, ?_, fun i hi => by omega, by simp, by simp, by simp, by simp [hML], by simp⟩ ?_
  · rw [hM0]
    have := keeps_app (M := M ++ [.live ⟨[.slice A n c], true, true, 30, 1⟩, .live ⟨[.slice A2 n2 c2], true, true, 43, 1⟩]) [.live ⟨[], true, true, 65, 5⟩]
    simpa using this
  · refine ⟨_, _, _, rfl, rfl, .inr ⟨M0.length, true, rfl, Nat.le_refl _, ?_⟩⟩
    rw [hML]
    simp [gatesF, cellsL_nil]
  rintro m T M1 ⟨k, u, hm, hK, hA, hb, t17, t16, t15, t6, t3⟩
  have hKl := hK.len
  by_cases hlt : k < n
  · obtain ⟨id, off, rfl, he, hc⟩ := (h0.keeps hK).at_ hlt
    have hld := note_load hc
    simp (disch := omega) [t17, t16, t15, t6, t3, hlt, he, hld, cellsAt_app (cellsAt_keeps hK hMb)]
    have htk := fun L => (ht.keeps (hMk.trans hK)).app L
    refine awCall_det' (SampleOfBeat_i (c := c2) (el l k).at_ (htk _) (by omega)) (by simp; omega) ?_
    simp (disch := omega)
    refine awDraw_E 8 [[],[],[1],[0,2,1],[3,0,2,1],[4,3,0,2,1],[4,3,0,2,1],[5,4,3,0,2,1],[6,4,3,0,2,1,7,5]] (by kernel_rfl) (by kernel_rfl) ?_
    simp (disch := omega) [t17, t16, t15, t6, t3, cellsAt_app (cellsAt_keeps hK hMb)]
    refine awCall_det' (end_i (el l k)) (by simp) ?_
    simp (disch := omega)
    refine awCall_det' (SampleOfBeat_i (c := c2) (el l k).fin (htk _) (by omega)) (by simp) ?_
    have hbad : badG t (el l k) = true → gF t l = ([], 2) := fun h => by unfold gF; rw [if_pos (any_el (by omega) h)]
    have hno : ∀ M', Keeps M M' → badG t (el l k) = true → GatesR M (gF t l) (.tuple #[.slice none 0 0, iv 2]) M' := fun M' hk h => by rw [hbad h]; exact GatesR.no hk
    have hkk := hMk.trans hK
    by_cases f1 : (sampB t (el l k).at_).2 = 0
    case neg =>
      simp (disch := omega) [f1]
      exact hno _ (hkk.app _) (by simp [badG, f1])
    by_cases f2 : (sampB t (el l k).fin).2 = 0
    case neg =>
      simp (disch := omega) [f1, f2]
      exact hno _ (hkk.app _) (by simp [badG, f2])
    by_cases f3 : 4000 < (sampB t (el l k).fin).1
    case pos =>
      simp (disch := omega) [f1, f2, f3]
      exact hno _ (hkk.app _) (by simp [badG, f3])
    have hg : badG t (el l k) = false := by simp [badG, f1, f2, f3]
    have htake := gatesF_take (t := t) (l := l) (k := k) (by omega)
    by_cases f4 : (sampB t (el l k).at_).1 < (sampB t (el l k).fin).1
    · rw [if_pos (by simp [longG, f4])] at htake
      simp (disch := omega) [f1, f2, f3, f4, t17, t6, gate_build]
      have hle := gatesF_len t (l.take k)
      rw [List.length_take] at hle
      refine Acc.append (R := gateR) (e := 65) (by_ := 40) (a := noteG t (el l k)) (hA.keeps (keeps_app _)) (by omega) (by simp; omega) (by omega) (by simp) (by kernel_rfl) (by simp [srcOf, gateR, Gate.row, noteG]) (by rfl) (by omega) (by unfold maxLen; omega) ?_
      intro v' M2 hA2 hS
      try simp (disch := omega) [t17, wrap_in]
      refine lpI (m - 1) (by omega) ⟨k + 1, v', by omega, hS.keeps (hK.app _) (Nat.le_refl _), by rw [htake]; exact hA2, ?_, by simp, by simp [t16], by simp [t15], by simp, by simp [t3]⟩
      intro i hi
      by_cases hik : i = k
      · rw [hik]; exact hg
      · exact hb i (by omega)
    · rw [if_neg (by simp [longG, f4]), List.append_nil] at htake
      simp (disch := omega) [f1, f2, f3, f4, t17, t6, wrap_in]
      refine lpI (m - 1) (by omega) ⟨k + 1, u, by omega, hK.app _, by rw [htake]; exact hA.keeps (keeps_app _), ?_, by simp, by simp [t16], by simp [t15], by simp [t6], by simp [t3]⟩
      intro i hi
      by_cases hik : i = k
      · rw [hik]; exact hg
      · exact hb i (by omega)
  · obtain rfl : k = n := by omega
    rw [List.take_of_length_le (by omega)] at hA
    simp [t17, t16, t15, t6]
    have e : gF t l = (gatesF t l, 0) := by unfold gF; rw [if_neg (by rw [any_no (fun i hi => hb i (by omega))]; simp)]
    have hf := (hA.low (B' := M.length) (by omega)).fresh (by have := gatesF_len t l; omega) (hMk.trans hK)
    rw [e]
    exact ⟨u, rfl, hf.ow.1, hf.ow.2⟩
theorem gatesV_ok {l : List Note} {t : List Tempo} (h1 : scoreB l = true) (h2 : tempB t = true) : gatesV l t = gF t l := by unfold gatesV gF; rw [if_pos ⟨h1, h2⟩]
theorem gatesV_no {l : List Note} {t : List Tempo} (h : scoreB l = true → tempB t = true → False) : gatesV l t = ([], 1) := by unfold gatesV; rw [if_neg (fun hh => h hh.1 hh.2)]
theorem GatesOfScore_i {M : Mem} {A A2 : Option Addr} {n c n2 c2 : Nat} {l : List Note} {t : List Tempo} (h : Sl noteR M A n l) (hn : n ≤ 1048576) (ht : Sl tempoR M A2 n2 t) (hn2 : n2 ≤ 1048576) :
    Ctr Try.prog M.length 18 [.agg #[.slice A n c], .agg #[.slice A2 n2 c2]] M (GatesR M (gatesV l t)) := by
  first | (refine ctr_fn Try.func18 rfl Try.ntmps18 Try.results18 rfl rfl (by simp) ?_) | (refine ctr_fnC Try.func18 rfl Try.ntmps18 Try.results18 rfl (by simp) ?_)
  simp
  refine awCall_det' (isScore_i (c := c) (h.app _) (by omega)) (by simp) ?_
  by_cases h1 : scoreB l = true
  case neg =>
    rw [gatesV_no (fun hh _ => h1 hh)]
    simp [h1]
    exact GatesR.no (keeps_app _)
  simp [h1]
  refine awCall_det' (isTempos_i (c := c2) (ht.app _) (by omega)) (by simp) ?_
  by_cases h2 : tempB t = true
  case neg =>
    rw [gatesV_no (fun _ hh => h2 hh)]
    simp [h2]
    exact GatesR.no (keeps_app _)
  rw [gatesV_ok h1 h2]
  simp [h2]
  refine awCall_ctr ((gatesOf_i (c := c) (c2 := c2) (h.app _) hn (ht.app _) hn2).weaken (by simp)) ?_
  rintro _ M1 ⟨v0, rfl, ho, hk⟩
  simp
  exact ⟨v0, rfl, ho.wide (by simp) (Nat.le_refl _), (keeps_app _).trans hk⟩
set_option maxHeartbeats 2000000 in
theorem GatesOfScore_s {M : Mem} {A A2 : Option Addr} {n c n2 c2 : Nat} {l : List Note} {t : List Tempo} (h : Sl noteR M A n l) (hn : n ≤ 1048576) (ht : Sl tempoR M A2 n2 t) (hn2 : n2 ≤ 1048576) :
    Ctr Try.prog M.length 16 [.agg #[.slice A n c], .agg #[.slice A2 n2 c2]] M (GatesR M (gatesV l t)) := by
  have hl := h.1
  first | (refine ctr_fn Try.func16 rfl Try.ntmps16 Try.results16 rfl rfl (by simp) ?_) | (refine ctr_fnC Try.func16 rfl Try.ntmps16 Try.results16 rfl (by simp) ?_)
  simp
  refine awCall_det' (l18Ok_a (c := c) (h.app _) (by simp) (by omega)) (by simp) ?_
  by_cases h1 : scoreB l = true
  case neg =>
    rw [gatesV_no (fun hh _ => h1 hh)]
    simp [h1]
    exact GatesR.no (keeps_app _)
  simp [h1]
  refine awCall_det' (l17Ok_a (c := c2) (ht.app _) (by simp) (by omega)) (by simp) ?_
  by_cases h2 : tempB t = true
  case neg =>
    rw [gatesV_no (fun _ hh => h2 hh)]
    simp [h2]
    exact GatesR.no (keeps_app _)
  rw [gatesV_ok h1 h2]
  simp [h2]
  obtain ⟨M0, hM0⟩ : ∃ M0 : Mem, M0 = M ++ [.live ⟨[.slice A n c], true, true, 30, 1⟩, .live ⟨[.slice A2 n2 c2], true, true, 43, 1⟩] := ⟨_, rfl⟩
  have hML : M0.length = M.length + 2 := by rw [hM0]; simp
  have hMk : Keeps M M0 := by rw [hM0]; exact keeps_app _
  have hMb : cellsAt M0 (M.length + 1) 0 1 = some [.slice A2 n2 c2] := by rw [hM0]; simp
  have hMs : cellAt M0 M.length 0 = some (.slice A n c) := by rw [hM0]; simp
  have h0 := h.keeps hMk
  refine awLoop_T (fun m T M' => ∃ (k : Nat) (u : Value), k + m = n ∧ Keeps M0 M' ∧ Acc gateR 65 M0.length M' u (gatesF t (l.take k)) ∧ (∀ i, i < k → badG t (el l i) = false) ∧ look T 7 = some (iv k) ∧ look T 6 = some u ∧ look T 3 = some (.pointer (some ⟨M.length + 1, 0, none⟩)) ∧ look T 2 = some (.pointer (some ⟨M.length, 0, none⟩))) n
    ⟨0, .slice (some ⟨M0.length, 0, none⟩) 0 0, by omega, ?_, ?_, fun i hi => by omega, by simp, by simp [hML], by simp, by simp⟩ ?_
  · rw [hM0]
    have := keeps_app (M := M ++ [.live ⟨[.slice A n c], true, true, 30, 1⟩, .live ⟨[.slice A2 n2 c2], true, true, 43, 1⟩]) [.live ⟨[], true, true, 65, 5⟩]
    simpa using this
  · refine ⟨_, _, _, rfl, rfl, .inr ⟨M0.length, true, rfl, Nat.le_refl _, ?_⟩⟩
    rw [hML]
    simp [gatesF, cellsL_nil]
  rintro m T M1 ⟨k, u, hm, hK, hA, hb, t7, t6, t3, t2⟩
  have hKl := hK.len
  have hr1 := cellAt_keeps hK hMs
  by_cases hlt : k < n
  · obtain ⟨id, off, rfl, he, hc⟩ := (h0.keeps hK).at_ hlt
    obtain ⟨c0, c1, c2', c3, c4, c5, c6⟩ := note_cells hc
    obtain ⟨g0, g2⟩ := note_cellsN hc
    simp (disch := omega) [t7, t6, t3, t2, hlt, he, hr1]
    refine awDraw_M 13 [[],[0],[1,0],[2,1,0],[],[4],[5,4],[6,5,4],[3,2,1,0,7,6,5,4],[8,3,2,1,0,7,6,5,4],[9,8,3,2,1,0,7,6,5,4],[9,8,3,2,1,0,7,6,5,4],[],[12,10,9,8,3,2,1,0,7,6,5,4],[11,9,8,3,2,1,0,7,6,5,4,13,12,10]] [11] (by kernel_rfl) (by decide +kernel) (by decide +kernel) ?_
    simp (disch := omega) [t7, t6, t3, t2, g0, g2]
    refine awCall_det' (AddFrac_s (el l k).at_ (el l k).len) (by omega) ?_
    have hfin : (addF (el l k).at_ (el l k).len).1 = (el l k).fin := rfl
    rw [hfin]
    simp (disch := omega) [t7, t6, t3, t2]
    refine awDraw_E 10 [[],[],[1],[2,1],[3,2,1],[0,4,3,2,1],[5,0,4,3,2,1],[6,5,0,4,3,2,1],[6,5,0,4,3,2,1],[7,6,5,0,4,3,2,1],[8,6,5,0,4,3,2,1,9,7]] (by kernel_rfl) (by kernel_rfl) ?_
    have g0' := fun L => cellsAt_app g0 L
    have x3 := fun L => cellsAt_app (cellsAt_keeps hK hMb) L
    have htk := fun L => (ht.keeps (hMk.trans hK)).app L
    simp (disch := omega) [t7, t6, t3, t2, g0', x3]
    refine awCall_det' (SampleOfBeat_s (c := c2) (el l k).at_ (htk _) (by omega)) (by simp) ?_
    simp (disch := omega) [t7, t6, t3, t2, g0', x3]
    refine awCall_det' (SampleOfBeat_s (c := c2) (el l k).fin (htk _) (by omega)) (by simp <;> omega) ?_
    have hbad : badG t (el l k) = true → gF t l = ([], 2) := fun h => by unfold gF; rw [if_pos (any_el (by omega) h)]
    have hno : ∀ M', Keeps M M' → badG t (el l k) = true → GatesR M (gF t l) (.tuple #[.slice none 0 0, iv 2]) M' := fun M' hk h => by rw [hbad h]; exact GatesR.no hk
    have hkk := hMk.trans hK
    by_cases f1 : (sampB t (el l k).at_).2 = 0
    case neg =>
      simp (disch := omega) [f1]
      exact hno _ (hkk.app _) (by simp [badG, f1])
    by_cases f2 : (sampB t (el l k).fin).2 = 0
    case neg =>
      simp (disch := omega) [f1, f2]
      exact hno _ (hkk.app _) (by simp [badG, f2])
    by_cases f3 : 4000 < (sampB t (el l k).fin).1
    case pos =>
      simp (disch := omega) [f1, f2, f3]
      exact hno _ (hkk.app _) (by simp [badG, f3])
    have hg : badG t (el l k) = false := by simp [badG, f1, f2, f3]
    have htake := gatesF_take (t := t) (l := l) (k := k) (by omega)
    have hb' : ∀ i, i < k + 1 → badG t (el l i) = false := by
      intro i hi
      by_cases hik : i = k
      · rw [hik]; exact hg
      · exact hb i (by omega)
    by_cases f4 : (sampB t (el l k).at_).1 < (sampB t (el l k).fin).1
    · rw [if_pos (by simp [longG, f4])] at htake
      simp (disch := omega) [f1, f2, f3, f4]
      refine awDraw_D 13 [[],[],[],[],[3],[4,3],[5,4,3],[],[7],[8,7],[9,8,7],[1,2,6,5,4,3,10,9,8,7],[11,1,2,6,5,4,3,10,9,8,7],[0,12,11,1,2,6,5,4,3,10,9,8,7],[13,0,12,11,1,2,6,5,4,3,10,9,8,7]] (by kernel_rfl) (by decide +kernel) ?_
      simp (disch := omega) [f1, f2, f3, f4, t7, t6, c4, c5, cellAt_app c4, cellAt_app c5, gate_build4]
      have hle := gatesF_len t (l.take k)
      rw [List.length_take] at hle
      refine Acc.append (R := gateR) (e := 65) (by_ := 40) (a := noteG t (el l k)) (hA.keeps (keeps_app _)) (by omega) (by simp; omega) (by omega) (by simp) (by kernel_rfl) (by simp [srcOf, gateR, Gate.row, noteG]) (by rfl) (by omega) (by unfold maxLen; omega) ?_
      intro v' M2 hA2 hS
      try simp (disch := omega) [t7, wrap_in]
      exact lpI (m - 1) (by omega) ⟨k + 1, v', by omega, hS.keeps (hK.app _) (Nat.le_refl _), by rw [htake]; exact hA2, hb', by simp, by simp, by simp [t3], by simp [t2]⟩
    · rw [if_neg (by simp [longG, f4]), List.append_nil] at htake
      simp (disch := omega) [f1, f2, f3, f4, t7, t6, wrap_in]
      exact lpI (m - 1) (by omega) ⟨k + 1, u, by omega, hK.app _, by rw [htake]; exact hA.keeps (keeps_app _), hb', by simp, by simp [t6], by simp [t3], by simp [t2]⟩
  · obtain rfl : k = n := by omega
    rw [List.take_of_length_le (by omega)] at hA
    simp [t7, t6, t2, hr1]
    have e : gF t l = (gatesF t l, 0) := by unfold gF; rw [if_neg (by rw [any_no (fun i hi => hb i (by omega))]; simp)]
    have hf := (hA.low (B' := M.length) (by omega)).fresh (by have := gatesF_len t l; omega) (hMk.trans hK)
    rw [e]
    exact ⟨u, rfl, hf.ow.1, hf.ow.2⟩
end Go.Proofs.Ytgaiejaegimilaa
