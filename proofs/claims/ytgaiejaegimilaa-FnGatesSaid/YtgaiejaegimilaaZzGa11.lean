/- Parts of the proof, together: Tempo maps: how the program comes to a position, in plain words. Tempo maps: the reference's position of a beat. A region that draws its order: an invariant over what has been done and what each operation gave. Beats and tempo maps that are drawn. Rows of records in which one is set; boxes whose fields are set. Notes that are drawn. (under way) No conditions. -/
import Derived.Test.YtgaiejaegimilaaZzGa10
import Derived.Test.YtgaiejaegimilaaZzGa5
import Derived.Test.YtgaiejaegimilaaZzGa7
import Derived.Test.YtgaiejaegimilaaZzGa9
namespace Go.Proofs.Ytgaiejaegimilaa
open Go.RowKit
set_option linter.unusedVariables false
set_option linter.unusedSimpArgs false
set_option maxRecDepth 100000
attribute [local simp] List.getElem?_cons_zero
attribute [local irreducible] awCond awCall awLoop awDraw ow retQ retC resQ Keeps
def lastB (l : List Tempo) (b : Frac) (i : Nat) : Bool := decide (i + 1 = l.length) || decide (0 < cmpF (el l (i + 1)).beat b)
def goF (l : List Tempo) (b : Frac) : Nat → Nat → Frac → Frac × Int
  | 0, _, a => (a, 0)
  | f + 1, i, a =>
    if lastB l b i = true then onF (el l i).beat b (el l i).s a else
    if (onF (el l i).beat (el l (i + 1)).beat (el l i).s a).2 ≠ 0 then onF (el l i).beat (el l (i + 1)).beat (el l i).s a else goF l b f (i + 1) (onF (el l i).beat (el l (i + 1)).beat (el l i).s a).1
theorem posK_succ {l : List Tempo} {i : Nat} {a : Frac} (h : posK l i = some a) : posK l (i + 1) = if (onF (el l i).beat (el l (i + 1)).beat (el l i).s a).2 = 0 then some (onF (el l i).beat (el l (i + 1)).beat (el l i).s a).1 else none := by
  rw [posK, h]
  rfl
theorem posK_none {l : List Tempo} {i : Nat} (h : posK l i = none) : ∀ d, posK l (i + d) = none
  | 0 => h
  | d + 1 => by rw [← Nat.add_assoc, posK, posK_none h d]; rfl
theorem go_some {l : List Tempo} {b x : Frac} {K : Nat} (hK : K < l.length) (hl : lastB l b K = true) (hn : ∀ i, i < K → lastB l b i = false) (hx : posK l K = some x) :
    ∀ (d i : Nat) (a : Frac), i + d = K → posK l i = some a → goF l b (l.length - i) i a = onF (el l K).beat b (el l K).s x
  | 0, i, a, hi, ha => by
    obtain rfl : i = K := by omega
    rw [ha] at hx
    injection hx with hx
    subst hx
    rw [show l.length - i = (l.length - i - 1) + 1 by omega, goF, if_pos hl]
  | d + 1, i, a, hi, ha => by
    have hs := posK_succ ha
    rw [show l.length - i = (l.length - (i + 1)) + 1 by omega, goF, if_neg (by rw [hn i (by omega)]; simp)]
    by_cases hc : (onF (el l i).beat (el l (i + 1)).beat (el l i).s a).2 = 0
    · rw [if_pos hc] at hs
      rw [if_neg (by omega)]
      exact go_some hK hl hn hx d (i + 1) _ (by omega) hs
    · rw [if_neg hc] at hs
      have := posK_none hs (K - (i + 1))
      rw [show i + 1 + (K - (i + 1)) = K by omega, hx] at this
      cases this
theorem go_none {l : List Tempo} {b : Frac} {K : Nat} (hK : K < l.length) (hl : lastB l b K = true) (hn : ∀ i, i < K → lastB l b i = false) (hx : posK l K = none) :
    ∀ (d i : Nat) (a : Frac), i + d = K → posK l i = some a → (goF l b (l.length - i) i a).2 ≠ 0
  | 0, i, a, hi, ha => by
    obtain rfl : i = K := by omega
    rw [ha] at hx
    cases hx
  | d + 1, i, a, hi, ha => by
    have hs := posK_succ ha
    rw [show l.length - i = (l.length - (i + 1)) + 1 by omega, goF, if_neg (by rw [hn i (by omega)]; simp)]
    by_cases hc : (onF (el l i).beat (el l (i + 1)).beat (el l i).s a).2 = 0
    · rw [if_pos hc] at hs
      rw [if_neg (by omega)]
      exact go_none hK hl hn hx d (i + 1) _ (by omega) hs
    · rw [if_pos hc]
      exact hc
theorem last_ex {l : List Tempo} {b : Frac} (h : 0 < l.length) : ∃ K, K < l.length ∧ lastB l b K = true ∧ ∀ i, i < K → lastB l b i = false := by
  obtain ⟨K, h1, h2, h3⟩ := least_false (p := fun i => !lastB l b i) l.length ⟨l.length - 1, by omega, by
    have : lastB l b (l.length - 1) = true := by unfold lastB; rw [decide_eq_true (by omega)]; rfl
    simp [this]⟩
  exact ⟨K, h1, by simpa using h2, fun i hi => by simpa using h3 i hi⟩
theorem last_not {l : List Tempo} {b : Frac} {i : Nat} (h : lastB l b i = false) : i + 1 ≠ l.length ∧ cmpF (el l (i + 1)).beat b ≤ 0 := by
  unfold lastB at h
  simp only [Bool.or_eq_false_iff, decide_eq_false_iff_not] at h
  omega
/-- At the beat of a tempo: a code of 0 where the tempo has a position. -/
theorem go_self {l : List Tempo} (hl : tempA l = true) {j : Nat} (hj : j < l.length) : (goF l (el l j).beat l.length 0 ⟨0, 1⟩).2 = 0 ↔ (posK l j).isSome = true := by
  obtain ⟨⟨l1, l2⟩, ha, h0, hs⟩ := tempA_iff.1 hl
  have pos : ∀ i, i < l.length → fracB (el l i).beat = true := fun i hi => (beatB_iff.1 (tempoB_iff.1 (ha i hi)).1).1
  have lt : ∀ d i, i + (d + 1) < l.length → cmpF (el l i).beat (el l (i + (d + 1))).beat < 0 := by
    intro d
    induction d with
    | zero => intro i hi; have := hs (i + 1) hi (by omega); simpa using this
    | succ d ih =>
      intro i hi
      have h1 := ih i (by omega)
      have h2 := hs (i + (d + 1 + 1)) hi (by omega)
      rw [show i + (d + 1 + 1) - 1 = i + (d + 1) by omega] at h2
      exact cmpF_trans (fracB_iff.1 (pos _ (by omega))).1.1 (fracB_iff.1 (pos (i + (d + 1)) (by omega))).1.1 (fracB_iff.1 (pos _ hi)).1.1 h1 (by omega)
  have hlast : lastB l (el l j).beat j = true := by
    unfold lastB
    by_cases h : j + 1 = l.length
    · rw [decide_eq_true h]; rfl
    · have h1 := lt 0 j (by omega)
      rw [cmpF_lt] at h1
      have : 0 < cmpF (el l (j + 1)).beat (el l j).beat := by
        have : ¬ cmpF (el l (j + 1)).beat (el l j).beat ≤ 0 := by
          rw [cmpF_le]
          simp only [Nat.zero_add] at h1
          omega
        omega
      rw [decide_eq_true this]
      simp
  have hnot : ∀ i, i < j → lastB l (el l j).beat i = false := by
    intro i hi
    unfold lastB
    rw [decide_eq_false (by omega), Bool.false_or, decide_eq_false]
    by_cases h : i + 1 = j
    · rw [h]
      have : cmpF (el l j).beat (el l j).beat ≤ 0 := by rw [cmpF_le]; omega
      omega
    · have := lt (j - (i + 1) - 1) (i + 1) (by omega)
      rw [show i + 1 + (j - (i + 1) - 1 + 1) = j by omega] at this
      omega
  have hs0 : (1 ≤ (el l j).s ∧ (el l j).s ≤ 1000) := (tempoB_iff.1 (ha j hj)).2
  cases hp : posK l j with
  | none =>
    have := go_none hj hlast hnot hp j 0 ⟨0, 1⟩ (by omega) rfl
    rw [Nat.sub_zero] at this
    simp [this]
  | some x =>
    have := go_some hj hlast hnot hp j 0 ⟨0, 1⟩ (by omega) rfl
    rw [Nat.sub_zero] at this
    rw [this, onF_self (pos j hj) (posK_ok l hp) hs0]
    simp
/-- At any beat of a valid map: from the position of its tempo. -/
theorem go_beat {l : List Tempo} {b : Frac} (hl : tempB l = true) (hb : beatB b = true) : ∃ k a, idxT l b l.length = k ∧ k < l.length ∧ posK l k = some a ∧ goF l b l.length 0 ⟨0, 1⟩ = onF (el l k).beat b (el l k).s a := by
  have hA : tempA l = true := by simp only [tempB, Bool.and_eq_true] at hl; exact hl.1
  have hP : ∀ k, k < l.length → (posK l k).isSome = true := by simp only [tempB, Bool.and_eq_true, decide_eq_true_eq] at hl; exact hl.2
  obtain ⟨⟨l1, l2⟩, ha, h0, hs⟩ := tempA_iff.1 hA
  obtain ⟨hbf, hb0, -⟩ := beatB_iff.1 hb
  have hbd := (fracB_iff.1 hbf).1.1
  obtain ⟨K, k1, k2, k3⟩ := last_ex (l := l) (b := b) (by omega)
  obtain ⟨a, hpa⟩ := Option.isSome_iff_exists.1 (hP K k1)
  have h00 : cmpF (el l 0).beat b ≤ 0 := by
    rw [cmpF_le]
    have hz : (el l 0).beat.n = 0 := h0
    have hd0 := (fracB_iff.1 (beatB_iff.1 (tempoB_iff.1 (ha 0 (by omega))).1).1).1.1
    rw [hz, Int.zero_mul]
    exact Int.mul_nonneg hb0 (by omega)
  refine ⟨K, a, idx_last hA hbd k1 (fun i hi hi0 => ?_) h00 ?_, k1, hpa, ?_⟩
  · have := (last_not (k3 (i - 1) (by omega))).2
    rwa [show i - 1 + 1 = i by omega] at this
  · unfold lastB at k2
    simp only [Bool.or_eq_true, decide_eq_true_eq] at k2
    omega
  · have := go_some k1 k2 k3 hpa K 0 ⟨0, 1⟩ (by omega) rfl
    rwa [Nat.sub_zero] at this
end Go.Proofs.Ytgaiejaegimilaa

namespace Go.Proofs.Ytgaiejaegimilaa
open Go.RowKit
set_option linter.unusedVariables false
set_option linter.unusedSimpArgs false
set_option maxRecDepth 100000
attribute [local simp] List.getElem?_cons_zero
attribute [local irreducible] awCond awCall awLoop awDraw ow retQ retC resQ Keeps
def askC (l : List Tempo) (b : Frac) : Int := if tempB l = true ∧ fracB b = true then (if beatB b = true then 0 else 2) else 1
def posB (l : List Tempo) (b : Frac) : Frac × Int :=
  if askC l b = 0 then
    if (onF (el l (idxT l b l.length)).beat b (el l (idxT l b l.length)).s (el (posAll l) (idxT l b l.length))).2 = 0 then
      (onF (el l (idxT l b l.length)).beat b (el l (idxT l b l.length)).s (el (posAll l) (idxT l b l.length))) else (⟨0, 0⟩, 2)
  else (⟨0, 0⟩, askC l b)
def sampB (l : List Tempo) (b : Frac) : Int × Int := if (posB l b).2 = 0 then ((posB l b).1.n / (posB l b).1.d, 0) else (0, (posB l b).2)
theorem askC_zero {l : List Tempo} {b : Frac} : askC l b = 0 ↔ tempB l = true ∧ beatB b = true := by
  unfold askC
  constructor
  · intro h
    by_cases h1 : tempB l = true ∧ fracB b = true
    · rw [if_pos h1] at h
      by_cases h2 : beatB b = true
      · exact ⟨h1.1, h2⟩
      · rw [if_neg h2] at h; omega
    · rw [if_neg h1] at h; omega
  · rintro ⟨h1, h2⟩
    rw [if_pos ⟨h1, (beatB_iff.1 h2).1⟩, if_pos h2]
theorem posB_ok {l : List Tempo} {b : Frac} (h : (posB l b).2 = 0) : fracB (posB l b).1 = true := by
  unfold posB at h ⊢
  by_cases h1 : askC l b = 0
  · rw [if_pos h1] at h ⊢
    generalize hx : onF (el l (idxT l b l.length)).beat b (el l (idxT l b l.length)).s (el (posAll l) (idxT l b l.length)) = x at h ⊢
    by_cases h2 : x.2 = 0
    · rw [if_pos h2]
      rw [← hx] at h2 ⊢
      exact onF_ok h2
    · rw [if_neg h2] at h
      cases h
  · rw [if_neg h1] at h
    exact absurd h h1
theorem l17Ok_a {M : Mem} {A : Option Addr} {n c id0 off0 : Nat} {l : List Tempo} (h : Sl tempoR M A n l) (hr : cellAt M id0 off0 = some (.slice A n c)) (hn : n ≤ 1099511627776) :
    Det Try.prog M.length 55 [.pointer (some ⟨id0, off0, none⟩)] M (.bool (tempB l)) M := by
  refine Ctr.pure ?_ rfl
  first | (refine ctr_fn Try.func55 rfl Try.ntmps55 Try.results55 rfl rfl (by simp) ?_) | (refine ctr_fnC Try.func55 rfl Try.ntmps55 Try.results55 rfl (by simp) ?_)
  simp
  refine awCall_ctr (l17Positions_a h hr hn) ?_
  rintro _ M' ⟨v, rfl, -, hk⟩
  simp [hk]
theorem l17Ask_a {M : Mem} {A : Option Addr} {n c id0 off0 : Nat} {l : List Tempo} {b : Frac} (h : Sl tempoR M A n l) (hr : cellAt M id0 off0 = some (.slice A n c)) (hn : n ≤ 1099511627776) :
    Det Try.prog M.length 114 [.pointer (some ⟨id0, off0, none⟩), b.v] M (iv (askC l b)) M := by
  first | (refine det_fn Try.func114 rfl Try.ntmps114 Try.results114 rfl rfl rfl (by simp) ?_) | (refine det_fnC Try.func114 rfl Try.ntmps114 Try.results114 rfl rfl (by simp) ?_)
  simp
  refine awCall_det' (l17Ok_a (h.app _) (cellAt_app hr _) hn) (by simp) ?_
  by_cases h1 : tempB l = true
  · simp [h1]
    refine awCall_det' (l02Ok_a b) (by simp) ?_
    by_cases h2 : fracB b = true
    · simp [h2]
      refine awCall_det' (l17Beat_a b h2) (by simp) ?_
      by_cases h3 : beatB b = true
      · simp [askC, h1, h2, h3, keeps_app]
      · simp [askC, h1, h2, h3, keeps_app]
    · simp [askC, h1, h2, keeps_app]
  · simp [askC, h1, keeps_app]
theorem l17Index_a {M : Mem} {A : Option Addr} {n c id0 off0 : Nat} {l : List Tempo} {b : Frac} (h : Sl tempoR M A n l) (hr : cellAt M id0 off0 = some (.slice A n c)) (hn : n ≤ 1099511627776) (hb : fracB b = true) (ha : ∀ i, i < l.length → fracB (el l i).beat = true) :
    Det Try.prog M.length 115 [.pointer (some ⟨id0, off0, none⟩), b.v] M (iv (idxT l b l.length)) M := by
  have hl := h.1
  first | (refine det_fn Try.func115 rfl Try.ntmps115 Try.results115 rfl rfl rfl (by simp) ?_) | (refine det_fnC Try.func115 rfl Try.ntmps115 Try.results115 rfl rfl (by simp) ?_)
  simp
  refine awLoop_T (fun m T M' => ∃ k : Nat, k + m = n ∧ M' = M ++ [.live ⟨[iv b.n, iv b.d], true, true, 58, 2⟩] ∧ look T 6 = some (iv k) ∧ look T 5 = some (iv (idxT l b k)) ∧ look T 3 = some (.pointer (some ⟨M.length, 0, none⟩)) ∧ look T 0 = some (.pointer (some ⟨id0, off0, none⟩))) n ⟨0, by omega, rfl, by simp, by simp [idxT], by simp, by simp⟩ ?_
  rintro m T M' ⟨k, hm, rfl, t6, t5, t3, t0⟩
  have hr1 := fun L => cellAt_app hr L
  by_cases hlt : k < n
  · obtain ⟨id, off, rfl, he, hc⟩ := h.at_ hlt
    have he1 := fun L : Mem => rowEsz_keeps (keeps_app (M := M) L) he
    have hld := fun L => cellsAt_app (tempo_cellsN hc) L
    simp (disch := omega) [t6, t5, t3, t0, hr1, hlt]
    refine awDraw_E 9 [[],[0],[1,0],[2,1,0],[],[3,2,1,0,4],[5,3,2,1,0,4],[6,5,3,2,1,0,4],[],[7,6,5,3,2,1,0,4,8],[9,7,6,5,3,2,1,0,4,8]] (by kernel_rfl) (by kernel_rfl) ?_
    simp (disch := omega) [t6, t5, t3, t0, hr1, hlt, he1, hld]
    refine awCall_det' (compare_s (el l k).beat b (ha k (by omega)) hb) (by simp) ?_
    have hx : idxT l b (k + 1) = if cmpF (el l k).beat b ≤ 0 then k else idxT l b k := rfl
    by_cases h1 : cmpF (el l k).beat b ≤ 0
    · rw [if_pos h1] at hx
      simp (disch := omega) [h1, t6, wrap_in]
      exact lpI (m - 1) (by omega) ⟨k + 1, by omega, rfl, by simp, by simp [hx], by simp [t3], by simp [t0]⟩
    · rw [if_neg h1] at hx
      simp (disch := omega) [h1, t6, wrap_in]
      exact lpI (m - 1) (by omega) ⟨k + 1, by omega, rfl, by simp, by simp [hx, t5], by simp [t3], by simp [t0]⟩
  · obtain rfl : k = n := by omega
    simp [t6, t5, t3, t0, hr1, hl, keeps_app]
theorem Tempo.fill0 : Instr.fill (fun x => [(0, 1), (1, 1)][x]?) #[iv 0, iv 0] [] = some #[iv 0, iv 0] := by rfl
/-- A value is stored in a whole box and loaded again at the return. -/
theorem ret_box {M M1 L : Mem} {b g : Nat} {cs vs : List Value} {t : Bool} {e : TypeId} {z n : Nat} {w : Value} (hg : M1[g]? = some (.live ⟨cs, true, t, e, z⟩)) (hk : Keeps M M1) (hb : M.length ≤ g) (hl : vs.length = cs.length) (hn : n = cs.length) (hw : Value.agg vs.toArray = w ∧ True) (h1 : vs.all oneV = true := by simp) (hbb : b ≤ g := by omega) :
    ow (putCells b (M1 ++ L) g 0 vs) fun M' => ow (cellsAt M' g 0 n) fun cs => Value.agg cs.toArray = w ∧ Keeps M M' := by
  have hlt := (List.getElem?_eq_some_iff.1 hg).1
  have hg' : (M1 ++ L)[g]? = some (.live ⟨cs, true, t, e, z⟩) := by rw [List.getElem?_append_left hlt]; exact hg
  rw [put_whole hg' hbb hl h1, ow_some, cells_hrq (List.getElem?_set_self (by rw [List.length_append]; omega)) (by rw [hn]; exact hl.symm), ow_some]
  exact ⟨hw.1, keeps_set (hk.app _) hb⟩
set_option maxHeartbeats 2000000 in
theorem PositionOfBeat_s {M : Mem} {A : Option Addr} {n c : Nat} {l : List Tempo} (b : Frac) (h : Sl tempoR M A n l) (hn : n ≤ 1099511627776) :
    Det Try.prog M.length 71 [.agg #[.slice A n c], b.v] M (.tuple #[(posB l b).1.v, iv (posB l b).2]) M := by
  have hl := h.1
  refine Ctr.pure ?_ rfl
  first | (refine ctr_fn Try.func71 rfl Try.ntmps71 Try.results71 rfl rfl (by simp) ?_) | (refine ctr_fnC Try.func71 rfl Try.ntmps71 Try.results71 rfl (by simp) ?_)
  simp
  refine awCall_det' (l17Ask_a (c := c) (h.app _) (by simp) hn) (by simp) ?_
  by_cases h0 : askC l b = 0
  case neg =>
    have e : posB l b = (⟨0, 0⟩, askC l b) := by unfold posB; rw [if_neg h0]
    simp [h0, e, keeps_app]
  obtain ⟨hT, hB⟩ := askC_zero.1 h0
  obtain ⟨⟨l1, l2⟩, ha, -, -⟩ := tempA_iff.1 (tempB_iff.1 hT).1
  have hlt : idxT l b l.length < l.length := idx_le _ (by omega)
  have hfr : ∀ i, i < l.length → fracB (el l i).beat = true := fun i hi => (beatB_iff.1 (tempoB_iff.1 (ha i hi)).1).1
  simp [h0]
  refine awCall_ctr ((l17Positions_a (c := c) (id0 := M.length) (off0 := 0) (h.app _) (by simp) hn).weaken (by simp)) ?_
  rintro _ M1 ⟨v, rfl, hv, hk⟩
  obtain ⟨A2, c2, rfl, hs2⟩ := hv hT
  have hkM : Keeps M M1 := (keeps_app _).trans hk
  have hS1 := h.keeps hkM
  have hr1 : cellAt M1 M.length 0 = some (.slice A n c) := cellAt_keeps hk (by simp)
  have hb1 : cellsAt M1 (M.length + 1) 0 2 = some [iv b.n, iv b.d] := cellsAt_keeps hk (by simp)
  have hg1 : M1[M.length + 2]? = some (.live ⟨[iv 0, iv 0], true, true, 58, 2⟩) := hk.get (by simp)
  have hlen := (List.getElem?_eq_some_iff.1 hg1).1
  obtain ⟨k, hk'⟩ : ∃ k, k = idxT l b l.length := ⟨_, rfl⟩
  rw [← hk'] at hlt
  obtain ⟨id, off, rfl, he, hc⟩ := hS1.at_ (show k < n by omega)
  obtain ⟨id2, off2, rfl, he2, hc2⟩ := hs2.at_ (show k < n by omega)
  have hld := tempo_cellsN hc
  obtain ⟨-, -, hcs⟩ := tempo_cells hc
  have hlp := frac_load hc2
  simp (disch := omega) [hT, hb1, hr1]
  refine awCall_det' (l17Index_a (b := b) hS1 hr1 hn (beatB_iff.1 hB).1 hfr) (by omega) ?_
  rw [← hk']
  refine awDraw_M 22 [[],[0],[],[1,0,2],[3,1,0,2],[4,3,1,0,2],[],[],[7],[],[8,7,9],[10,8,7,9],[11,10,8,7,9],[],[],[13,14],[15,13,14],[5,4,3,1,0,2,6,12,11,10,8,7,9,16,15,13,14],[17,5,4,3,1,0,2,6,12,11,10,8,7,9,16,15,13,14],[18,17,5,4,3,1,0,2,6,12,11,10,8,7,9,16,15,13,14],[18,17,5,4,3,1,0,2,6,12,11,10,8,7,9,16,15,13,14],[],[21,19,18,17,5,4,3,1,0,2,6,12,11,10,8,7,9,16,15,13,14],[20,18,17,5,4,3,1,0,2,6,12,11,10,8,7,9,16,15,13,14,22,21,19]] [20] (by kernel_rfl) (by decide +kernel) (by decide +kernel) ?_
  have hkn : k < n := by omega
  simp (disch := omega) [hr1, hb1, he, he2, hcs, hld, hlp, hkn]
  refine awCall_det' (l17On_a (el l k).beat b (el (posAll l) k) (el l k).s) (by omega) ?_
  have hon := @onOk_iff (el l k).beat b (el (posAll l) k) (el l k).s
  by_cases h5 : onOk (el l k).beat b (el l k).s (el (posAll l) k) = true
  case neg =>
    have e : posB l b = (⟨0, 0⟩, 2) := by unfold posB; rw [if_pos h0, ← hk', if_neg (fun h => h5 (hon.2 h))]
    simp (disch := omega) [h5, e]
    exact ret_box hg1 hkM (by omega) rfl rfl ⟨rfl, trivial⟩
  have e : posB l b = (onY (el l k).beat b (el l k).s (el (posAll l) k), 0) := by
    unfold posB
    rw [if_pos h0, ← hk', if_pos (hon.1 h5), onY_eq (hon.1 h5)]
    exact Prod.ext rfl (hon.1 h5)
  simp (disch := omega) [h5, e]
  exact ret_box hg1 hkM (by omega) rfl rfl ⟨rfl, trivial⟩
theorem SampleOfBeat_s {M : Mem} {A : Option Addr} {n c : Nat} {l : List Tempo} (b : Frac) (h : Sl tempoR M A n l) (hn : n ≤ 1099511627776) :
    Det Try.prog M.length 32 [.agg #[.slice A n c], b.v] M (.tuple #[iv (sampB l b).1, iv (sampB l b).2]) M := by
  first | (refine det_fn Try.func32 rfl Try.ntmps32 Try.results32 rfl rfl rfl (by simp) ?_) | (refine det_fnC Try.func32 rfl Try.ntmps32 Try.results32 rfl rfl (by simp) ?_)
  simp
  refine awCall_det' (PositionOfBeat_s (c := c) b (h.app _) hn) (by simp) ?_
  by_cases h0 : (posB l b).2 = 0
  · have hf := fracB_iff.1 (posB_ok h0)
    simp (disch := omega) [h0]
    refine awCall_det' (floorDiv_s (posB l b).1.n (posB l b).1.d (by omega) (by omega) (by omega)) (by simp) ?_
    simp [sampB, h0, keeps_app]
  · simp [h0, sampB, keeps_app]
end Go.Proofs.Ytgaiejaegimilaa

namespace Go.Proofs.Ytgaiejaegimilaa
open Go.RowKit
set_option linter.unusedVariables false
def upG (γ : Nat → Value) (k : Nat) (v : Value) : Nat → Value := fun j => if j = k then v else γ j
@[simp] theorem upG_same (γ : Nat → Value) (k : Nat) (v : Value) : upG γ k v k = v := if_pos rfl
theorem upG_ne {γ : Nat → Value} {j k : Nat} {v : Value} (h : j ≠ k) : upG γ k v j = γ j := if_neg h
/-- No temporary is set twice. -/
def dstOnce (ops : Array Oper) : Bool := (List.range ops.size).all fun k => (List.range ops.size).all fun j => decide (j = k) || (dstOf ops j).isNone || dstOf ops j != dstOf ops k
theorem dstOnce_spec {ops : Array Oper} (h : dstOnce ops = true) {j k : Nat} {t : Nat} (hj : dstOf ops j = some t) (hk : dstOf ops k = some t) : j = k := by
  have lt : ∀ i, dstOf ops i = some t → i < ops.size := by
    intro i hi
    unfold dstOf at hi
    obtain ⟨o, ho, -⟩ := Option.bind_eq_some_iff.1 hi
    exact (Array.getElem?_eq_some_iff.1 ho).1
  have h1 := List.all_eq_true.1 h k (List.mem_range.2 (lt k hk))
  have h2 := List.all_eq_true.1 h1 j (List.mem_range.2 (lt j hj))
  rw [hj, hk] at h2
  simpa using h2
/-- What the temporaries hold: what has been done gave its value, the others are as they were. -/
structure TS (ops : Array Oper) (T0 : List (Nat × Value)) (X : Nat → Bool) (γ : Nat → Value) (T : List (Nat × Value)) : Prop where
  done : ∀ j d, X j = true → dstOf ops j = some d → look T d = some (γ j)
  frame : ∀ t, (∀ j, X j = true → dstOf ops j ≠ some t) → look T t = look T0 t
def noDst (ops : Array Oper) (t : Nat) : Bool := (List.range ops.size).all fun j => decide (dstOf ops j ≠ some t)
theorem TS.frame' {ops : Array Oper} {T0 T : List (Nat × Value)} {X : Nat → Bool} {γ : Nat → Value} (h : TS ops T0 X γ T) (t : Nat) (hn : noDst ops t = true) : look T t = look T0 t :=
  h.frame t fun j _ hj => by
    have hl : j < ops.size := by
      unfold dstOf at hj
      obtain ⟨o, ho, -⟩ := Option.bind_eq_some_iff.1 hj
      exact (Array.getElem?_eq_some_iff.1 ho).1
    have := List.all_eq_true.1 hn j (List.mem_range.2 hl)
    exact (of_decide_eq_true this) hj
/-- What has been done is closed under what must come ahead. -/
def Closed (ops : List Oper) (X : Nat → Bool) : Prop := ∀ k o, X k = true → ops[k]? = some o → ∀ e ∈ o.after.toList, Region.binds .any e = true → X e.on = true
def edge (ops : List Oper) (k j : Nat) : Bool := match ops[k]? with
  | some o => o.after.toList.any fun e => Region.binds .any e && decide (e.on = j)
  | none => false
theorem Closed.at_ {ops : List Oper} {X : Nat → Bool} (h : Closed ops X) {k : Nat} (j : Nat) (hk : X k = true) (he : edge ops k j = true) : X j = true := by
  unfold edge at he
  split at he
  · rename_i o ho
    obtain ⟨e, h1, h2⟩ := List.any_eq_true.1 he
    simp only [Bool.and_eq_true, decide_eq_true_eq] at h2
    have := h k o hk ho e h1 h2.1
    rwa [h2.2] at this
  · cases he
theorem edge_ahead {ops : List Oper} {X : Nat → Bool} {k : Nat} {o : Oper} (ho : ops[k]? = some o) (ha : ∀ e ∈ o.after.toList, Region.binds .any e = true → X e.on = true) (j : Nat) (he : edge ops k j = true) : X j = true := by
  unfold edge at he
  rw [ho] at he
  obtain ⟨e, h1, h2⟩ := List.any_eq_true.1 he
  simp only [Bool.and_eq_true, decide_eq_true_eq] at h2
  have := ha e h1 h2.1
  rwa [h2.2] at this
theorem awDraw_G {P : Program} {b : Nat} {ops : List Oper} {Q : St → Prop} {S : St} (G : (Nat → Bool) → (Nat → Value) → Mem → Prop) (h1 : P.follows .mixedOrders = true) (h2 : drawBack ⟨ops⟩ = true) (h3 : dstOnce ⟨ops⟩ = true)
    (h0 : ∀ γ, G (fun _ => false) γ S.M)
    (hstep : ∀ X γ T M k o (K : Value → Mem → Prop), Closed ops X → TS ⟨ops⟩ S.T X γ T → G X γ M → ops[k]? = some o → X k = false → (∀ e ∈ o.after.toList, Region.binds .any e = true → X e.on = true) → (∀ v M', G (upX X k) (upG γ k v) M' → K v M') → sOp P false b o ⟨S.n, T, M⟩ K)
    (hend : ∀ X γ T M, (∀ k, k < ops.length → X k = true) → TS ⟨ops⟩ S.T X γ T → G X γ M → Q ⟨S.n, T, M⟩) : awDraw P b ⟨ops⟩ Q S := by
  refine awDraw_I (fun X S' => S'.n = S.n ∧ Closed ops X ∧ ∃ γ, TS ⟨ops⟩ S.T X γ S'.T ∧ G X γ S'.M) h1 h2 ⟨rfl, fun k o h => (by cases h), fun _ => undef, ⟨(fun j d h => by cases h), fun t _ => rfl⟩, h0 _⟩ ?_ ?_
  · rintro X ⟨n, T, M⟩ k o ⟨hn, hC, γ, hT, hG⟩ ho hX ha
    simp only at hn hT hG
    subst hn
    refine hstep X γ T M k o _ hC hT hG ho hX ha fun v M' hG' => ⟨by cases o.dst <;> rfl, fun i o' hi ho' e he hb => ?_, upG γ k v, ?_, by cases o.dst <;> exact hG'⟩
    · by_cases e1 : e.on = k
      · rw [e1]; simp
      · rw [upX_ne e1]
        by_cases e2 : i = k
        · subst e2
          rw [ho] at ho'
          injection ho' with ho'
          subst ho'
          exact ha e he hb
        · rw [upX_ne e2] at hi
          exact hC i o' hi ho' e he hb
    have hdk : dstOf ⟨ops⟩ k = o.dst := by simp [dstOf, ho]
    refine ⟨fun j d hj hd => ?_, fun t ht => ?_⟩
    · by_cases e : j = k
      · subst e
        rw [hdk] at hd
        rw [hd]
        simp [St.put, look]
      · rw [upX_ne e] at hj
        rw [upG_ne e]
        have := hT.done j d hj hd
        cases hod : o.dst with
        | none => exact this
        | some d' =>
          simp only [St.put, look]
          rw [if_neg (fun e' => e (dstOnce_spec h3 hd (by rw [hdk, hod, e'])))]
          exact this
    · have hf := hT.frame t fun j hj => ht j (by
        by_cases e : j = k
        · subst e; simp
        · rw [upX_ne e]; exact hj)
      cases hod : o.dst with
      | none => exact hf
      | some d' =>
        have := ht k (by simp)
        rw [hdk, hod] at this
        simp only [St.put, look]
        rw [if_neg (fun e' => this (by rw [e']))]
        exact hf
  · rintro X ⟨n, T, M⟩ hX ⟨hn, hC, γ, hT, hG⟩
    simp only at hn hT hG
    subst hn
    exact hend X γ T M hX hT hG
end Go.Proofs.Ytgaiejaegimilaa

namespace Go.Proofs.Ytgaiejaegimilaa
open Go.RowKit
set_option linter.unusedVariables false
set_option linter.unusedSimpArgs false
set_option maxRecDepth 100000
attribute [local simp] List.getElem?_cons_zero
attribute [local irreducible] awCond awCall awLoop awDraw ow retQ retC resQ Keeps
theorem mkF_small {n d : Int} (h1 : -1000000000 ≤ n) (h2 : n ≤ 1000000000) (h3 : 1 ≤ d) (h4 : d ≤ 1000000) : (mkF n d).2 = 0 := by
  unfold mkF
  rw [if_neg (by omega)]
  have e1 : n.natAbs / n.natAbs.gcd d.natAbs ≤ n.natAbs := Nat.div_le_self _ _
  have e2 : d.natAbs / n.natAbs.gcd d.natAbs ≤ d.natAbs := Nat.div_le_self _ _
  rw [if_neg (by omega)]
theorem mkF_fst {n d : Int} (h0 : 0 ≤ n) (h2 : n ≤ 1000000000) (h3 : 1 ≤ d) (h4 : d ≤ 1000000) : ∃ g a b : Int, 0 < g ∧ n = g * a ∧ d = g * b ∧ 0 ≤ a ∧ 1 ≤ b ∧ (mkF n d).1 = ⟨a, b⟩ := by
  have e1 : n.natAbs / n.natAbs.gcd d.natAbs ≤ n.natAbs := Nat.div_le_self _ _
  have e2 : d.natAbs / n.natAbs.gcd d.natAbs ≤ d.natAbs := Nat.div_le_self _ _
  have hg : 0 < n.natAbs.gcd d.natAbs := Nat.gcd_pos_of_pos_right _ (by omega)
  unfold mkF
  rw [if_neg (by omega), if_neg (by omega)]
  clear e1 e2
  generalize hgg : n.natAbs.gcd d.natAbs = g at hg
  obtain ⟨a, ha⟩ : g ∣ n.natAbs := by rw [← hgg]; exact Nat.gcd_dvd_left _ _
  obtain ⟨b, hb⟩ : g ∣ d.natAbs := by rw [← hgg]; exact Nat.gcd_dvd_right _ _
  rw [ha, hb, Nat.mul_div_cancel_left _ hg, Nat.mul_div_cancel_left _ hg]
  have hn : ¬ n < 0 := by omega
  have hd : ¬ d < 0 := by omega
  have hb0 : 0 < b := by
    rcases Nat.eq_zero_or_pos b with h | h
    · rw [h] at hb; omega
    · exact h
  refine ⟨g, a, b, by omega, by rw [← Int.natCast_mul, ← ha]; omega, by rw [← Int.natCast_mul, ← hb]; omega, by omega, by omega, ?_⟩
  simp [hn, hd]
/-- A small beat. -/
structure SmallB (m : Int) (f : Frac) : Prop where
  frac : fracB f = true
  pos : 0 ≤ f.n
  le : f.n ≤ m * f.d
  den : f.d ≤ 8
theorem small_mk {m n d : Int} (hm : 0 ≤ m) (hm' : m ≤ 10) (h1 : 0 ≤ n) (h2 : n ≤ m * d) (h3 : 1 ≤ d) (h4 : d ≤ 8) : SmallB m (mkF n d).1 := by
  have hmd : m * d ≤ 10 * 8 := Int.mul_le_mul hm' h4 (by omega) (by omega)
  obtain ⟨g, a, b, hg, ea, eb, ha, hb, e⟩ := mkF_fst h1 (by omega) h3 (by omega)
  have hok := mkF_ok (mkF_small (n := n) (d := d) (by omega) (by omega) h3 (by omega))
  rw [e] at hok ⊢
  refine ⟨hok, ha, ?_, ?_⟩
  · show a ≤ m * b
    have h : g * a ≤ g * (m * b) := by
      have : g * (m * b) = m * (g * b) := by rw [← Int.mul_assoc, Int.mul_comm g m, Int.mul_assoc]
      rw [this, ← ea, ← eb]
      exact h2
    exact Int.le_of_mul_le_mul_left h hg
  · show b ≤ 8
    have : 1 * b ≤ g * b := Int.mul_le_mul_of_nonneg_right (by omega) (by omega)
    omega
set_option maxHeartbeats 2000000 in
theorem l02Beat_a {M : Mem} {b g k B : Nat} (m : Int) (hm : 0 ≤ m) (hm' : m ≤ 10) (h : Src g B M k) (hb : b ≤ g) (hB : B ≤ M.length) (hk : k ≤ 1000000) :
    Ctr Try.prog b 110 [.pointer (some ⟨g, 0, none⟩), iv m] M fun r M' => ∃ (f : Frac) (k' : Nat), r = f.v ∧ SmallB m f ∧ k' ≤ k + 4 ∧ Src g B M' k' ∧ Grow g M M' := by
  have hg := h.lt
  first | (refine ctr_fn Try.func110 rfl Try.ntmps110 Try.results110 rfl rfl (by simp) ?_) | (refine ctr_fnC Try.func110 rfl Try.ntmps110 Try.results110 rfl (by simp) ?_)
  simp (disch := omega) [fill9]
  have hc := among_new (b := b) (M := M ++ [.live ⟨[iv 0, iv 0], true, true, 58, 2⟩]) (n := 9) [1, 1, 2, 2, 3, 4, 4, 6, 8] rfl (h.app _) hb (by omega) (by omega) (by omega) rfl (by simp; omega)
  rw [List.append_assoc, List.length_append] at hc
  refine awCall_ctr hc ?_
  rintro r M1 ⟨d, k1, rfl, hd, hk1, h1, g1⟩
  have r1 : M1[M.length]? = some (.live ⟨[iv 0, iv 0], true, true, 58, 2⟩) := g1.2 _ _ (by omega) getElem?_snoc_eq
  have n1 := g1.1
  simp only [List.length_append, List.length_cons, List.length_nil] at n1
  have hd1 : 1 ≤ d ∧ d ≤ 8 := by simp at hd; omega
  have hmd : 0 ≤ m * d ∧ m * d ≤ 10 * 8 := ⟨Int.mul_nonneg hm (by omega), Int.mul_le_mul hm' hd1.2 (by omega) (by omega)⟩
  simp (disch := omega) [wrap_in]
  refine awCall_ctr (h1.pick (m * d + 1) hb (by omega) (by omega)) ?_
  rintro r M2 ⟨x, k2, rfl, x0, x1, hk2, h2, u2⟩
  have n2 := u2.1
  have r2 := u2.2 _ _ (show M.length ≠ g by omega) r1
  refine awCall_det' (MakeFrac_s x d (by omega) (by omega) (by omega) (by omega)) (by omega) ?_
  have hS : SmallB m (mkF x d).1 := small_mk hm hm' x0 (by omega) hd1.1 hd1.2
  generalize (mkF x d).1 = f at hS ⊢
  have g2 : Grow g M M2 := ((Grow.app g M _).trans g1).trans u2.grow
  have rr : ∀ L : Mem, (M2 ++ L)[M.length]? = some (.live ⟨[iv 0, iv 0], true, true, 58, 2⟩) := fun L => by rw [List.getElem?_append_left (List.getElem?_eq_some_iff.1 r2).1]; exact r2
  simp (disch := omega)
  have l2 := (List.getElem?_eq_some_iff.1 (rr [.live ⟨[iv f.n, iv f.d], true, true, 58, 2⟩])).1
  rw [put_whole (vs := [iv f.n, iv f.d]) (rr _) (by omega) rfl (by simp), ow_some, cells_hr (r := ⟨[iv f.n, iv f.d], true, true, 58, 2⟩) (n := 2) (set_get l2) rfl, ow_some]
  have g3 := g2.trans (Grow.app g M2 [.live ⟨[iv f.n, iv f.d], true, true, 58, 2⟩])
  refine ⟨f, rfl, hS, k2, by omega, (h2.app _).same (Same.set hB), by simpa using g3.1, fun i s hi hs => ?_⟩
  rw [List.getElem?_set_ne (by have := (List.getElem?_eq_some_iff.1 hs).1; omega)]
  exact g3.2 i s hi hs
theorem Acc.keep_from {α : Type} {q : Nat} {R : RecV α q} {e : TypeId} {B : Nat} {M M' : Mem} {v : Value} {l : List α} (h : Acc R e B M v l) (hm : ∀ (i : Nat) s, B ≤ i → M[i]? = some s → M'[i]? = some s) : Acc R e B M' v l := by
  obtain ⟨A, n, c, h1, h2, h3⟩ := h
  refine ⟨A, n, c, h1, h2, ?_⟩
  rcases h3 with h3 | ⟨id, t, h4, h5, h6⟩
  · exact .inl h3
  · exact .inr ⟨id, t, h4, h5, hm _ _ h5 h6⟩
def PV6 (lo g : Nat) (v : Value) (a : Frac) (j : Nat) (u : Value) : Prop :=
  match j with
  | 0 => u = .pointer (some ⟨lo + 1, 0, none⟩)
  | 1 => u = v
  | 2 => u = a.v
  | 3 => u = .pointer (some ⟨g, 0, none⟩)
  | 5 => ∃ x : Int, u = iv x
  | 6 => ∃ x : Int, u = .agg #[iv a.n, iv a.d, iv x]
  | 9 => u = .pointer (some ⟨lo + 1, 0, none⟩)
  | _ => True
def am8 : List Int := [1, 7, 12, 24, 48, 60, 100, 1000]
structure R6 (g B lo k2 : Nat) (v : Value) (a : Frac) (l : List Tempo) (M2 : Mem) (X : Nat → Bool) (γ : Nat → Value) (M' : Mem) : Prop where
  same : Same g M2 M'
  r0 : M'[lo]? = some (.live ⟨[.slice none 0 0], true, true, 43, 1⟩)
  r1 : ∃ u, (X 10 = false → u = v) ∧ (X 10 = true → u = γ 8) ∧ M'[lo + 1]? = some (.live ⟨[u], true, true, 43, 1⟩)
  r2 : M'[lo + 2]? = some (.live ⟨[iv a.n, iv a.d], true, true, 58, 2⟩)
  src : ∃ k', k' ≤ k2 + 2 ∧ (X 5 = false → k' ≤ k2) ∧ Src g B M' k'
  pure : ∀ j, X j = true → PV6 lo g v a j (γ j)
  c4 : X 4 = true → ∃ id, M2.length ≤ id ∧ γ 4 = .slice (some ⟨id, 0, none⟩) 8 8 ∧ M'[id]? = some (.live ⟨cellsL intR am8, true, true, 2, 1⟩)
  c7 : X 7 = true → ∃ (id : Nat) (x : Int), M2.length ≤ id ∧ γ 7 = .slice (some ⟨id, 0, none⟩) 1 1 ∧ M'[id]? = some (.live ⟨[iv a.n, iv a.d, iv x], true, true, 148, 3⟩)
  a0 : X 8 = false → Acc tempoR 148 (lo + 3) M' v l
  a1 : X 8 = true → ∃ t, Acc tempoR 148 (lo + 3) M' (γ 8) (l ++ [t])
/-- What an operation gave. -/
def N6 (lo g : Nat) (v : Value) (a : Frac) (l : List Tempo) (M2 : Mem) (j : Nat) (u : Value) (M' : Mem) : Prop :=
  match j with
  | 4 => ∃ id, M2.length ≤ id ∧ u = .slice (some ⟨id, 0, none⟩) 8 8 ∧ M'[id]? = some (.live ⟨cellsL intR am8, true, true, 2, 1⟩)
  | 7 => ∃ (id : Nat) (x : Int), M2.length ≤ id ∧ u = .slice (some ⟨id, 0, none⟩) 1 1 ∧ M'[id]? = some (.live ⟨[iv a.n, iv a.d, iv x], true, true, 148, 3⟩)
  | 8 => ∃ t, Acc tempoR 148 (lo + 3) M' u (l ++ [t])
  | j => PV6 lo g v a j u
theorem upX_t {X : Nat → Bool} {j k : Nat} (h : upX X k j = true) (e : j ≠ k) : X j = true := by rwa [upX_ne e] at h
theorem upX_no {X : Nat → Bool} {j k : Nat} (h : upX X k j = false) : j ≠ k ∧ X j = false := by
  by_cases e : j = k
  · subst e; simp at h
  · exact ⟨e, by rwa [upX_ne e] at h⟩
theorem R6.step {g B lo k2 k : Nat} {v u : Value} {a : Frac} {l : List Tempo} {M2 M' M'' : Mem} {X : Nat → Bool} {γ : Nat → Value} (h : R6 g B lo k2 v a l M2 X γ M') (hlo : lo + 3 ≤ M2.length) (hgl : g < lo) (hgB : B ≤ lo) (hk : k < 11) (hX : X k = false) (h10 : X 10 = true → X 8 = true)
    (hlen : M'.length ≤ M''.length) (hm : ∀ (i : Nat) s, (k = 5 → i ≠ g) → (k = 10 → i ≠ lo + 1) → (k = 8 → i < lo + 3 ∨ M2.length ≤ i) → M'[i]? = some s → M''[i]? = some s)
    (hs : k = 5 → ∃ k', k' ≤ k2 + 2 ∧ Src g B M'' k') (hN : N6 lo g v a l M2 k u M'') (hw : k = 10 → M''[lo + 1]? = some (.live ⟨[γ 8], true, true, 43, 1⟩)) : R6 g B lo k2 v a l M2 (upX X k) (upG γ k u) M'' := by
  have hsame : Same g M' M'' := ⟨hlen, fun i s hi hs' => hm i s (fun _ => by omega) (fun _ => by omega) (fun _ => .inl (by omega)) hs'⟩
  refine ⟨h.same.trans hsame, hm _ _ (fun _ => by omega) (fun _ => by omega) (fun _ => .inl (by omega)) h.r0, ?_, hm _ _ (fun _ => by omega) (fun _ => by omega) (fun _ => .inl (by omega)) h.r2, ?_, fun j hj => ?_, fun hj => ?_, fun hj => ?_, fun hj => ?_, fun hj => ?_⟩
  · by_cases e : k = 10
    · subst e
      exact ⟨γ 8, fun h => absurd rfl (upX_no h).1, fun _ => (upG_ne (by omega)).symm, hw rfl⟩
    · obtain ⟨w, w0, w1, w2⟩ := h.r1
      by_cases e8 : k = 8
      · subst e8
        refine ⟨w, fun h => w0 (upX_no h).2, fun h => ?_, hm _ _ (fun _ => by omega) (fun h => absurd h e) (fun _ => .inl (by omega)) w2⟩
        have := h10 (upX_t h (by omega))
        rw [hX] at this; cases this
      · exact ⟨w, fun h => w0 (upX_no h).2, fun h => by rw [upG_ne (Ne.symm e8)]; exact w1 (upX_t h (Ne.symm e)), hm _ _ (fun _ => by omega) (fun h => absurd h e) (fun h => absurd h e8) w2⟩
  · by_cases e : k = 5
    · obtain ⟨k', h1, h2⟩ := hs e
      exact ⟨k', h1, fun h => absurd e.symm (upX_no h).1, h2⟩
    · obtain ⟨k', h1, h2, h3⟩ := h.src
      exact ⟨k', h1, fun h => h2 (upX_no h).2, h3.same ⟨hlen, fun i s hi hs' => hm i s (fun h => absurd h e) (fun _ => by omega) (fun _ => .inl (by omega)) hs'⟩⟩
  · by_cases e : j = k
    · subst e
      rw [upG_same]
      unfold N6 at hN
      split at hN <;> first | exact hN | trivial
    · rw [upG_ne e]; exact h.pure j (upX_t hj e)
  · by_cases e : 4 = k
    · subst e; rw [upG_same]; exact hN
    · obtain ⟨id, h1, h2, h3⟩ := h.c4 (upX_t hj e)
      exact ⟨id, h1, by rw [upG_ne e]; exact h2, hm _ _ (fun _ => by omega) (fun _ => by omega) (fun _ => .inr h1) h3⟩
  · by_cases e : 7 = k
    · subst e; rw [upG_same]; exact hN
    · obtain ⟨id, x, h1, h2, h3⟩ := h.c7 (upX_t hj e)
      exact ⟨id, x, h1, by rw [upG_ne e]; exact h2, hm _ _ (fun _ => by omega) (fun _ => by omega) (fun _ => .inr h1) h3⟩
  · obtain ⟨e8, hx⟩ := upX_no hj
    exact (h.a0 hx).keep_from fun i s hi hs' => hm i s (fun _ => by omega) (fun _ => by omega) (fun h => absurd h.symm e8) hs'
  · by_cases e : 8 = k
    · subst e; rw [upG_same]; exact hN
    · rw [upG_ne e]
      obtain ⟨t, ht⟩ := h.a1 (upX_t hj e)
      exact ⟨t, ht.keep_from fun i s hi hs' => hm i s (fun _ => by omega) (fun _ => by omega) (fun h => absurd h.symm e) hs'⟩
theorem tm_build0 : Instr.fill (fun x => [(0, 1)][x]?) #[.slice none 0 0] [] = some #[.slice none 0 0] := by rfl
theorem at_build1 (x : Int) : Instr.fill (fun x => [(0, 1), (1, 1)][x]?) #[iv 0, iv 0] [(1, iv x)] = some #[iv 0, iv x] := by rfl
theorem fr_build2 (x y : Int) : Instr.fill (fun x => [(0, 1), (1, 1)][x]?) #[iv 0, iv 0] [(0, iv x), (1, iv y)] = some #[iv x, iv y] := by rfl
theorem tb_build (x y z : Int) : Instr.fill (fun x => [(0, 2), (2, 1)][x]?) #[iv 0, iv 0, iv 0] [(0, .agg #[iv x, iv y]), (1, iv z)] = some #[iv x, iv y, iv z] := by rfl
set_option maxHeartbeats 2000000 in
theorem l17Draw_a {M : Mem} {b g k B : Nat} (h : Src g B M k) (hb : b ≤ g) (hB : B ≤ M.length) (hk : k ≤ 1000) :
    Ctr Try.prog b 67 [.pointer (some ⟨g, 0, none⟩)] M fun r M' => ∃ (l : List Tempo) (v : Value), r = .agg #[v] ∧ Acc tempoR 148 M.length M' v l ∧ l.length ≤ 4 ∧ Same g M M' := by
  have hg := h.lt
  first | (refine ctr_fn Try.func67 rfl Try.ntmps67 Try.results67 rfl rfl (by simp) ?_) | (refine ctr_fnC Try.func67 rfl Try.ntmps67 Try.results67 rfl (by simp) ?_)
  simp (disch := omega) [tm_build0, at_build1]
  refine awCall_ctr ((h.app _).pick 4 hb (by omega) (by omega)) ?_
  rintro r M1 ⟨ct, k1, rfl, ct0, ct1, hk1, h1, u1⟩
  obtain ⟨cn, rfl⟩ := Int.eq_ofNat_of_zero_le ct0
  have n1 := u1.1
  simp only [List.length_append, List.length_cons, List.length_nil] at n1
  have e0 : M1[M.length]? = some (.live ⟨[.slice none 0 0], true, true, 43, 1⟩) := u1.2 _ _ (by omega) (by simp)
  have e1 : M1[M.length + 1]? = some (.live ⟨[.slice none 0 0], true, true, 43, 1⟩) := u1.2 _ _ (by omega) (by simp)
  have e2 : M1[M.length + 2]? = some (.live ⟨[iv 0, iv 1], true, true, 58, 2⟩) := u1.2 _ _ (by omega) (by simp)
  have s1 : Same g M M1 := (Same.app g M _).trans (u1.same (Nat.le_refl _))
  simp (disch := omega) [wrap_in]
  refine awLoop_T (fun m T M' => ∃ (l : List Tempo) (v : Value) (a : Frac) (k' : Nat), l.length + m = cn + 1 ∧ M'[M.length]? = some (.live ⟨[.slice none 0 0], true, true, 43, 1⟩) ∧ M'[M.length + 1]? = some (.live ⟨[v], true, true, 43, 1⟩) ∧ M'[M.length + 2]? = some (.live ⟨[iv a.n, iv a.d], true, true, 58, 2⟩) ∧ Acc tempoR 148 (M.length + 3) M' v l ∧ Src g B M' k' ∧ k' ≤ k + 2 + 20 * l.length ∧ Same g M M' ∧ look T 5 = some (iv m) ∧ look T 4 = some (.pointer (some ⟨M.length + 2, 0, none⟩)) ∧ look T 3 = some (.pointer (some ⟨M.length + 1, 0, none⟩)) ∧ look T 2 = some (.pointer (some ⟨M.length, 0, none⟩)) ∧ look T 0 = some (.pointer (some ⟨g, 0, none⟩))) (cn + 1)
    ⟨[], .slice none 0 0, ⟨0, 1⟩, k1, by simp, e0, e1, e2, .nil, h1, by simp; omega, s1, by simp; omega, by simp, by simp, by simp, by simp⟩ ?_
  rintro m T M2 ⟨l, v, a, k2, hl, r0, r1, r2, hA, h2, hk2, s2, t5, t4, t3, t2, t0⟩
  have l2 := (List.getElem?_eq_some_iff.1 r2).1
  rcases m with _ | m
  · have c1 : cellsAt M2 (M.length + 1) 0 1 = some [v] := cells_hr r1 rfl
    simp (disch := omega) [t5, t3, t2, c1]
    have hA' := (hA.set_ne (i := M.length) (s := .live ⟨[v], true, true, 43, 1⟩) (by omega)).low (B' := M.length) (by omega)
    obtain ⟨A, q, c, rfl, hq, -⟩ := hA
    rw [put_whole (vs := [.slice A q c]) r0 (by omega) rfl (by simp), ow_some, cells_hr (r := ⟨[.slice A q c], true, true, 43, 1⟩) (n := 1) (set_get (by omega)) rfl, ow_some]
    exact ⟨l, _, rfl, hA', by omega, s2.trans (Same.set (by omega))⟩
  · have e : (0 : Int) < (m : Int) + 1 := by omega
    simp (disch := omega) [t5, t4, t3, t2, t0]
    have hgl : g < M.length := by omega
    refine awDraw_G (R6 g B M.length k2 v a l M2) (by kernel_rfl) (by decide +kernel) (by decide +kernel) (fun γ => ⟨.refl _ _, r0, ⟨v, fun _ => rfl, (fun h => by cases h), r1⟩, r2, ⟨k2, by omega, fun _ => by omega, h2⟩, (fun j h => by cases h), (fun h => by cases h), (fun h => by cases h), fun _ => hA, (fun h => by cases h)⟩) ?_ ?_
    · intro X γ T' M' k o K hC hT hG ho hX ha hK
      have hk11 : k < 11 := by have := (List.getElem?_eq_some_iff.1 ho).1; simpa using this
      have h10 : X 10 = true → X 8 = true := fun h => hC.at_ 8 h (by decide +kernel)
      have f0 := (hT.frame' 0 (by decide +kernel)).trans ((look_other (by omega)).trans ((look_other (by omega)).trans t0))
      have f3 := (hT.frame' 3 (by decide +kernel)).trans ((look_other (by omega)).trans ((look_other (by omega)).trans t3))
      have f4 := (hT.frame' 4 (by decide +kernel)).trans ((look_other (by omega)).trans ((look_other (by omega)).trans t4))
      have l3 : M.length + 3 ≤ M2.length := l2
      have st := fun {u : Value} {M'' : Mem} => hG.step (k := k) (u := u) (M'' := M'') l3 hgl hB hk11 hX h10
      obtain ⟨q0, q1⟩ : M2.length ≤ M'.length ∧ True := ⟨hG.same.1, trivial⟩
      have app : ∀ L : Mem, M'.length ≤ (M' ++ L).length ∧ ∀ (i : Nat) s, M'[i]? = some s → (M' ++ L)[i]? = some s := fun L => ⟨by simp, fun i s hs => by rw [List.getElem?_append_left (List.getElem?_eq_some_iff.1 hs).1]; exact hs⟩
      have ah := fun j he => edge_ahead ho ha j he
      have dn := fun j d hj hd => hT.done j d hj hd
      rcases k with _ | _ | _ | _ | _ | _ | _ | _ | _ | _ | _ | k
      · simp at ho; subst ho
        simp [f3]
        exact hK _ _ (st (Nat.le_refl _) (fun i s _ _ _ h => h) (fun h => by cases h) rfl (fun h => by cases h))
      · have x0 := ah 0 (by decide +kernel)
        have d0 := dn 0 16 x0 rfl
        rw [show γ 0 = _ from hG.pure 0 x0] at d0
        obtain ⟨w, w0, -, w2⟩ := hG.r1
        have x10 : X 10 = false := by
          cases h : X 10 with
          | false => rfl
          | true => rw [hC.at_ 1 (hC.at_ 8 h (by decide +kernel)) (by decide +kernel)] at hX; cases hX
        obtain rfl := w0 x10
        simp at ho; subst ho
        simp [d0, cell_hr w2 0]
        exact hK _ _ (st (Nat.le_refl _) (fun i s _ _ _ h => h) (fun h => by cases h) rfl (fun h => by cases h))
      · simp at ho; subst ho
        simp [f4, cells_hr (n := 2) hG.r2 rfl]
        exact hK _ _ (st (Nat.le_refl _) (fun i s _ _ _ h => h) (fun h => by cases h) rfl (fun h => by cases h))
      · simp at ho; subst ho
        simp [f0]
        exact hK _ _ (st (Nat.le_refl _) (fun i s _ _ _ h => h) (fun h => by cases h) rfl (fun h => by cases h))
      · simp at ho; subst ho
        simp [fill8]
        exact hK _ _ (st (app _).1 (fun i s _ _ _ h => (app _).2 i s h) (fun h => by cases h) ⟨M'.length, q0, rfl, getElem?_snoc_eq⟩ (fun h => by cases h))
      · have x3 := ah 3 (by decide +kernel)
        have x4 := ah 4 (by decide +kernel)
        have d3 := dn 3 19 x3 rfl
        have d4 := dn 4 20 x4 rfl
        rw [show γ 3 = _ from hG.pure 3 x3] at d3
        obtain ⟨id, g1, g2, g3⟩ := hG.c4 x4
        rw [g2] at d4
        obtain ⟨k', hk1, hk2', hsrc⟩ := hG.src
        simp at ho; subst ho
        simp [d3, d4]
        have hsl : Sl intR M' (some ⟨id, 0, none⟩) 8 am8 := ⟨rfl, fun _ => ⟨id, 0, rfl, by simp [rowEsz, g3], fun j x hx => by simp [cellAt, g3, hx]⟩⟩
        refine awCall_ctr (among_s (c := 8) hsrc hb (by omega) hsl (fun a e _ => by injection e with e; subst e; show id ≠ g; omega) (by omega) (by omega)) ?_
        rintro r M3 ⟨x, k3, rfl, -, hk3, h3, u3⟩
        have := hk2' hX
        exact hK _ _ (st (Nat.le_of_eq u3.1.symm) (fun i s h _ _ hs => u3.2 i s (h rfl) hs) (fun _ => ⟨k3, by omega, h3⟩) ⟨x, rfl⟩ (fun h => by cases h))
      · have x2 := ah 2 (by decide +kernel)
        have x5 := ah 5 (by decide +kernel)
        have d2 := dn 2 18 x2 rfl
        have d5 := dn 5 21 x5 rfl
        rw [show γ 2 = _ from hG.pure 2 x2] at d2
        obtain ⟨x, hx⟩ : ∃ x : Int, γ 5 = iv x := hG.pure 5 x5
        rw [hx] at d5
        simp at ho; subst ho
        simp [d2, d5, tb_build]
        exact hK _ _ (st (Nat.le_refl _) (fun i s _ _ _ h => h) (fun h => by cases h) ⟨x, rfl⟩ (fun h => by cases h))
      · have x6 := ah 6 (by decide +kernel)
        have d6 := dn 6 22 x6 rfl
        obtain ⟨x, hx⟩ : ∃ x : Int, γ 6 = .agg #[iv a.n, iv a.d, iv x] := hG.pure 6 x6
        rw [hx] at d6
        simp at ho; subst ho
        simp [d6]
        exact hK _ _ (st (app _).1 (fun i s _ _ _ h => (app _).2 i s h) (fun h => by cases h) ⟨M'.length, x, q0, rfl, getElem?_snoc_eq⟩ (fun h => by cases h))
      · have x1 := ah 1 (by decide +kernel)
        have x7 := ah 7 (by decide +kernel)
        have d1 := dn 1 17 x1 rfl
        have d7 := dn 7 23 x7 rfl
        rw [show γ 1 = _ from hG.pure 1 x1] at d1
        obtain ⟨id, x, g1, g2, g3⟩ := hG.c7 x7
        rw [g2] at d7
        have hA' := hG.a0 hX
        simp at ho; subst ho
        simp [d1, d7]
        refine hA'.append2 (a := ⟨a.n, a.d, x⟩) (e := 148) (by_ := 24) (by omega) (show _ ≤ M'.length by omega) (by omega) (by simp) (by kernel_rfl) (by have := cells_hr g3 (n := 3) rfl; simp [srcOf, tempoR, Tempo.row, this]) (by rfl) (by omega) (by unfold maxLen; omega) ?_
        · intro v' M'' a1 a2 a3
          exact hK _ _ (st a2.1 (fun i s _ _ h hs => by
            rcases h rfl with h | h
            · exact a2.2 i s h hs
            · exact (a3 i s (hA.apart h) hs).1) (fun h => by cases h) ⟨_, a1⟩ (fun h => by cases h))
      · simp at ho; subst ho
        simp [f3]
        exact hK _ _ (st (Nat.le_refl _) (fun i s _ _ _ h => h) (fun h => by cases h) rfl (fun h => by cases h))
      · have x8 := ah 8 (by decide +kernel)
        have x9 := ah 9 (by decide +kernel)
        have d8 := dn 8 24 x8 rfl
        have d9 := dn 9 25 x9 rfl
        rw [show γ 9 = _ from hG.pure 9 x9] at d9
        obtain ⟨w, w0, -, w2⟩ := hG.r1
        obtain ⟨t, ht⟩ := hG.a1 x8
        obtain ⟨A, q, c, hq, -, -, h1⟩ := ht.sl
        rw [hq] at h1
        simp at ho; subst ho
        simp [d8, d9, hq]
        rw [put_row (p := 0) (v := .slice A q c) w2 (by omega) (by simp) h1, ow_some]
        refine hK _ _ (st (by simp) (fun i s _ h _ hs => by rw [List.getElem?_set_ne (Ne.symm (h rfl))]; exact hs) (fun h => by cases h) trivial (fun _ => ?_))
        rw [set_get (List.getElem?_eq_some_iff.1 w2).1, hq]
        rfl
      · omega
    · intro X γ T' M3 hX hT hG
      have f0 := (hT.frame' 0 (by decide +kernel)).trans ((look_other (by omega)).trans ((look_other (by omega)).trans t0))
      have f2 := (hT.frame' 2 (by decide +kernel)).trans ((look_other (by omega)).trans ((look_other (by omega)).trans t2))
      have f3 := (hT.frame' 3 (by decide +kernel)).trans ((look_other (by omega)).trans ((look_other (by omega)).trans t3))
      have f4 := (hT.frame' 4 (by decide +kernel)).trans ((look_other (by omega)).trans ((look_other (by omega)).trans t4))
      have f5 := (hT.frame' 5 (by decide +kernel)).trans ((look_other (by omega)).trans ((look_other (by omega)).trans t5))
      have hXX : ∀ j, j < 11 → X j = true := fun j hj => hX j (by simpa using hj)
      obtain ⟨w, -, w1, w2⟩ := hG.r1
      obtain rfl := w1 (hXX 10 (by omega))
      obtain ⟨tt, ht⟩ := hG.a1 (hXX 8 (by omega))
      obtain ⟨k3, hk3, -, h3⟩ := hG.src
      have q0 := hG.r0
      have q2 := hG.r2
      have s3 := hG.same
      generalize γ 8 = v' at ht w2
      clear hG hT hX
      simp [f0]
      refine awCall_ctr (l02Beat_a 3 (by omega) (by omega) h3 hb (by have := s3.1; omega) (by omega)) ?_
      rintro r M4 ⟨f, k4, rfl, hf, hk4, h4, g4⟩
      have n4 := g4.1
      have q0' := g4.2 _ _ (by omega) q0
      have q1' := g4.2 _ _ (by omega) w2
      have q2' := g4.2 _ _ (by omega) q2
      have ht' := g4.acc ht (by omega)
      have s4 : Same g M M4 := (s2.trans s3).trans (g4.same (Nat.le_refl _))
      have nn := s3.1
      have box : ∀ z : Frac, cellsAt (M4 ++ [.live ⟨[iv z.n, iv z.d], true, true, 58, 2⟩]) (M.length + 2) 0 2 = some [iv a.n, iv a.d] := fun z => cellsAt_app (cells_hr q2' rfl) _
      have r4 : ∀ z : Frac, (M4 ++ [Slot.live ⟨[iv z.n, iv z.d], true, true, 58, 2⟩])[M4.length]? = some (.live ⟨[iv z.n, iv z.d], true, true, 58, 2⟩) := fun z => getElem?_snoc_eq
      have box2 : ∀ z : Frac, cellsAt (M4 ++ [Slot.live ⟨[iv z.n, iv z.d], true, true, 58, 2⟩]) M4.length 0 2 = some [iv z.n, iv z.d] := fun z => cells_hr (r4 z) rfl
      have put : ∀ (z y : Frac), putCells b (M4 ++ [Slot.live ⟨[iv z.n, iv z.d], true, true, 58, 2⟩]) (M.length + 2) 0 [iv y.n, iv y.d] = some ((M4 ++ [Slot.live ⟨[iv z.n, iv z.d], true, true, 58, 2⟩]).set (M.length + 2) (.live ⟨[iv y.n, iv y.d], true, true, 58, 2⟩)) := fun z y =>
        put_whole (cs := [iv a.n, iv a.d]) (by rw [List.getElem?_append_left (List.getElem?_eq_some_iff.1 q2').1]; exact q2') (by omega) rfl (by simp)
      have fin : ∀ (z y : Frac) (L : Mem), (∃ M5 : Mem, M5 = (M4 ++ [Slot.live ⟨[iv z.n, iv z.d], true, true, 58, 2⟩]).set (M.length + 2) (.live ⟨[iv y.n, iv y.d], true, true, 58, 2⟩) ∧
          M5[M.length]? = some (.live ⟨[.slice none 0 0], true, true, 43, 1⟩) ∧ M5[M.length + 1]? = some (.live ⟨[v'], true, true, 43, 1⟩) ∧ M5[M.length + 2]? = some (.live ⟨[iv y.n, iv y.d], true, true, 58, 2⟩) ∧ Acc tempoR 148 (M.length + 3) M5 v' (l ++ [tt]) ∧ Src g B M5 k4 ∧ Same g M M5) := by
        intro z y L
        have lf := (List.getElem?_eq_some_iff.1 q2').1
        refine ⟨_, rfl, ?_, ?_, set_get (by simp; omega), (ht'.keeps (keeps_app _)).set_ne (by omega), (h4.app _).same (Same.set (by omega)), s4.trans ((Same.app _ _ _).trans (Same.set (by omega)))⟩
        · rw [List.getElem?_set_ne (by omega), List.getElem?_append_left (by omega)]; exact q0'
        · rw [List.getElem?_set_ne (by omega), List.getElem?_append_left (by omega)]; exact q1'
      have e2 : putCells b (M4 ++ [.live ⟨[iv 0, iv 0], true, true, 58, 2⟩]) M4.length 0 [iv f.n, iv f.d] = some (M4 ++ [.live ⟨[iv f.n, iv f.d], true, true, 58, 2⟩]) := put_box (by omega) rfl (by simp)
      refine ⟨rfl, ?_⟩
      rw [show f.v.cells.toList = [iv f.n, iv f.d] from rfl, e2, ow_some]
      simp [f0, f2, f3, f4, f5]
      by_cases z0 : f.n = 0
      · have e3 : putCells b (M4 ++ [.live ⟨[iv f.n, iv f.d], true, true, 58, 2⟩]) M4.length 0 [iv 1, iv 2] = some (M4 ++ [.live ⟨[iv 1, iv 2], true, true, 58, 2⟩]) := put_box (by omega) rfl (by simp)
        simp [z0, fr_build2, f0, f2, f3, f4, f5]
        rw [z0] at e3
        rw [e3, ow_some]
        have hb1 := box ⟨1, 2⟩
        have hb2 := box2 ⟨1, 2⟩
        simp [z0, hb1, hb2, f0, f2, f3, f4, f5]
        refine awCall_det' (AddFrac_s a ⟨1, 2⟩) (by simp; omega) ?_
        obtain ⟨M5, hM5, w0, w1, w2, w3, w4, w5⟩ := fin ⟨1, 2⟩ (addF a ⟨1, 2⟩).1 []
        have hp := put ⟨1, 2⟩ (addF a ⟨1, 2⟩).1
        rw [← hM5] at hp
        generalize (addF a ⟨1, 2⟩).1 = y at hp w2 ⊢
        clear hM5
        simp (disch := omega) [hp, f0, f2, f3, f4, f5, wrap_in]
        exact lpI m (by omega) ⟨l ++ [tt], v', y, k4, by simp; omega, w0, w1, w2, w3, w4, by simp; omega, w5, by simp, by simp [f4], by simp [f3], by simp [f2], by simp [f0]⟩
      · have hb1 := box f
        have hb2 := box2 f
        simp [z0, hb1, hb2, f0, f2, f3, f4, f5]
        refine awCall_det' (AddFrac_s a f) (by simp; omega) ?_
        obtain ⟨M5, hM5, w0, w1, w2, w3, w4, w5⟩ := fin f (addF a f).1 []
        have hp := put f (addF a f).1
        rw [← hM5] at hp
        generalize (addF a f).1 = y at hp w2 ⊢
        clear hM5
        simp (disch := omega) [hp, f0, f2, f3, f4, f5, wrap_in]
        exact lpI m (by omega) ⟨l ++ [tt], v', y, k4, by simp; omega, w0, w1, w2, w3, w4, by simp; omega, w5, by simp, by simp [f4], by simp [f3], by simp [f2], by simp [f0]⟩
end Go.Proofs.Ytgaiejaegimilaa

namespace Go.Proofs.Ytgaiejaegimilaa
open Go.RowKit
set_option linter.unusedVariables false
set_option linter.unusedSimpArgs false
set_option maxRecDepth 100000
attribute [local simp] List.getElem?_cons_zero
attribute [local irreducible] awCond awCall awLoop awDraw ow retQ retC resQ Keeps
section
variable {α : Type} {k : Nat}
theorem put_splice {b : Nat} {M : Mem} {id p : Nat} {vs cs : List Value} {t : Bool} {e : TypeId} {z : Nat} (hr : M[id]? = some (.live ⟨cs, true, t, e, z⟩)) (hb : b ≤ id) (hp : p + vs.length ≤ cs.length) (h1 : vs.all oneV = true) :
    putCells b M id p vs = some (M.set id (.live ⟨splice cs p vs, true, t, e, z⟩)) := by
  unfold putCells
  rw [hr]
  simp only
  rw [if_pos ⟨hb, trivial, hp, h1⟩]
theorem splice_set [Inhabited α] (R : RecV α k) {l : List α} {i : Nat} {a : α} (hi : i < l.length) : splice (cellsL R l) (i * k) (R.row a) = cellsL R (l.set i a) := by
  have h1 : l = l.take i ++ (el l i :: l.drop (i + 1)) := by
    conv => lhs; rw [← List.take_append_drop i l, drop_el hi]
  have hl : (cellsL R (l.take i)).length = i * k := by rw [cellsL_len, List.length_take, Nat.min_eq_left (by omega)]
  have h2 : cellsL R l = cellsL R (l.take i) ++ (R.row (el l i) ++ cellsL R (l.drop (i + 1))) := by
    conv => lhs; rw [h1]
    rw [cellsL_append, cellsL_cons]
  rw [h2, ← hl, splice_app _ _ _ (by rw [List.length_append, R.len, R.len]; omega), R.len, List.drop_append_of_le_length (by rw [R.len]; omega), List.drop_of_length_le (by rw [R.len]; omega), List.nil_append]
  have h3 : l.set i a = l.take i ++ (a :: l.drop (i + 1)) := List.set_eq_take_append_cons_drop .. |>.trans (by rw [if_pos hi])
  rw [h3, cellsL_append, cellsL_cons]
theorem put_rec [Inhabited α] {R : RecV α k} {b : Nat} {M : Mem} {id i off : Nat} {l : List α} {a : α} {t : Bool} {e : TypeId} (hr : M[id]? = some (.live ⟨cellsL R l, true, t, e, k⟩)) (hb : b ≤ id) (hi : i < l.length) (ho : off = i * k) (h1 : (R.row a).all oneV = true) :
    putCells b M id off (R.row a) = some (M.set id (.live ⟨cellsL R (l.set i a), true, t, e, k⟩)) := by
  subst ho
  rw [put_splice hr hb (by rw [R.len, cellsL_len]; have := Nat.mul_le_mul_right k (show i + 1 ≤ l.length from hi); rw [Nat.add_mul, Nat.one_mul] at this; exact this) h1, splice_set R hi]
/-- A box beside a source, one of whose fields is set. -/
theorem put_field {b g B kk : Nat} {M0 M : Mem} {id p : Nat} {vs cs : List Value} {t : Bool} {e : TypeId} {z : Nat} (hr : M[id]? = some (.live ⟨cs, true, t, e, z⟩)) (hb : b ≤ id) (hp : p + vs.length ≤ cs.length) (h1 : vs.all oneV = true) (hB : B ≤ id) (h : Src g B M kk) (h0 : M0.length ≤ id) (hg : Grow g M0 M) :
    ∃ M', putCells b M id p vs = some M' ∧ M'[id]? = some (.live ⟨splice cs p vs, true, t, e, z⟩) ∧ Src g B M' kk ∧ Grow g M0 M' ∧ M'.length = M.length ∧ ∀ (i : Nat) s, i ≠ id → M[i]? = some s → M'[i]? = some s :=
  ⟨_, put_splice hr hb hp h1, set_get (List.getElem?_eq_some_iff.1 hr).1, h.same (Same.set hB), ⟨by simpa using hg.1, fun i s hi hs => by rw [List.getElem?_set_ne (by have := (List.getElem?_eq_some_iff.1 hs).1; omega)]; exact hg.2 i s hi hs⟩, by simp,
    fun i s hi hs => by rw [List.getElem?_set_ne (Ne.symm hi)]; exact hs⟩
end
end Go.Proofs.Ytgaiejaegimilaa

namespace Go.Proofs.Ytgaiejaegimilaa
open Go.RowKit
set_option linter.unusedVariables false
set_option linter.unusedSimpArgs false
set_option maxRecDepth 100000
attribute [local simp] List.getElem?_cons_zero
attribute [local irreducible] awCond awCall awLoop awDraw ow retQ retC resQ Keeps
theorem drawn_ok {f e : Frac} {k u o : Int} (hf : SmallB 6 f) (he : SmallB 3 e) (h0 : e.n ≠ 0) (hk : 0 ≤ k ∧ k ≤ 127) (hu : 1 ≤ u ∧ u ≤ 127) (ho : 0 ≤ o ∧ o ≤ 15) : noteB ⟨f.n, f.d, e.n, e.d, k, u, o⟩ = true := by
  have f1 := (fracB_iff.1 hf.frac).1.1
  have e1 := (fracB_iff.1 he.frac).1.1
  have hfn := hf.le
  have hen := he.le
  have hfd := hf.den
  have hed := he.den
  have fp := hf.pos
  have ep := he.pos
  refine noteB_iff.2 ⟨beatB_iff.2 ⟨hf.frac, fp, show f.n ≤ 1000 * f.d by omega⟩, beatB_iff.2 ⟨he.frac, ep, show e.n ≤ 1000 * e.d by omega⟩, h0, ?_, hk, hu, ho⟩
  show (addF f e).2 = 0
  unfold addF
  rw [if_pos ⟨hf.frac, he.frac⟩]
  have p1 : f.n * e.d ≤ 48 * 8 := Int.mul_le_mul (by omega) hed (by omega) (by omega)
  have p2 : e.n * f.d ≤ 24 * 8 := Int.mul_le_mul (by omega) hfd (by omega) (by omega)
  have p3 : f.d * e.d ≤ 8 * 8 := Int.mul_le_mul hfd hed (by omega) (by omega)
  have q1 : 0 ≤ f.n * e.d := Int.mul_nonneg fp (by omega)
  have q2 : 0 ≤ e.n * f.d := Int.mul_nonneg ep (by omega)
  have q3 : 0 < f.d * e.d := Int.mul_pos (by omega) (by omega)
  exact mkF_small (by omega) (by omega) (by omega) (by omega)
theorem n_build (x y : Int) : Instr.fill (fun x => [(0, 2), (2, 2), (4, 1), (5, 1), (6, 1)][x]?) #[iv 0, iv 0, iv 0, iv 0, iv 0, iv 0, iv 0] [(0, .agg #[iv x, iv y])] = some #[iv x, iv y, iv 0, iv 0, iv 0, iv 0, iv 0] := by rfl
set_option maxHeartbeats 2000000 in
theorem l18DrawNote_a {M : Mem} {b g k B : Nat} (h : Src g B M k) (hb : b ≤ g) (hB : B ≤ M.length) (hk : k ≤ 10000) :
    Ctr Try.prog b 106 [.pointer (some ⟨g, 0, none⟩), iv 6] M fun r M' => ∃ (n : Note) (k' : Nat), r = n.v ∧ noteB n = true ∧ k' ≤ k + 20 ∧ Src g B M' k' ∧ Grow g M M' := by
  have hg := h.lt
  first | (refine ctr_fn Try.func106 rfl Try.ntmps106 Try.results106 rfl rfl (by simp) ?_) | (refine ctr_fnC Try.func106 rfl Try.ntmps106 Try.results106 rfl (by simp) ?_)
  simp
  refine awCall_ctr (l02Beat_a 6 (by omega) (by omega) (h.app _) hb (by simp; omega) (by omega)) ?_
  rintro _ M1 ⟨f, k1, rfl, hf, hk1, h1, g1⟩
  have n1 := g1.1
  have r1 := g1.2 _ _ (show M.length ≠ g by omega) getElem?_snoc_eq
  simp only [List.length_append, List.length_cons, List.length_nil] at n1
  have g1' : Grow g M M1 := (Grow.app g M _).trans g1
  simp (disch := omega) [n_build]
  have g2 : Grow g M (M1 ++ [Slot.live ⟨[iv f.n, iv f.d, iv 0, iv 0, iv 0, iv 0, iv 0], true, true, 62, 7⟩]) := g1'.trans (Grow.app g M1 _)
  have h2 := h1.app [Slot.live ⟨[iv f.n, iv f.d, iv 0, iv 0, iv 0, iv 0, iv 0], true, true, 62, 7⟩]
  have r2 : (M1 ++ [Slot.live ⟨[iv f.n, iv f.d, iv 0, iv 0, iv 0, iv 0, iv 0], true, true, 62, 7⟩])[M1.length]? = some (Slot.live ⟨[iv f.n, iv f.d, iv 0, iv 0, iv 0, iv 0, iv 0], true, true, 62, 7⟩) := getElem?_snoc_eq
  obtain ⟨M2, hM2⟩ : ∃ M' : Mem, M' = M1 ++ [Slot.live ⟨[iv f.n, iv f.d, iv 0, iv 0, iv 0, iv 0, iv 0], true, true, 62, 7⟩] := ⟨_, rfl⟩
  have rr2 : M2[M.length]? = some (Slot.live ⟨[iv 0, iv 0, iv 0, iv 0, iv 0, iv 0, iv 0], true, true, 62, 7⟩) := by rw [hM2, List.getElem?_append_left (List.getElem?_eq_some_iff.1 r1).1]; exact r1
  rw [← hM2] at g2 h2 r2 ⊢
  have n2 : M2.length = M1.length + 1 := by rw [hM2]; simp
  clear hM2 h1 r1 g1 g1'
  generalize hq : M1.length = q at *
  have hMq : M.length < q := by omega
  clear hq
  refine awCall_ctr (l02Beat_a 3 (by omega) (by omega) h2 hb (by omega) (by omega)) ?_
  rintro _ M3 ⟨e, k3, rfl, he, hk3, h3, g3⟩
  have r3 := g3.2 _ _ (by omega) r2
  have rr3 := g3.2 _ _ (by omega) rr2
  have n3 := g3.1
  have g3' := g2.trans g3
  obtain ⟨M4, p4, r4, h4, g4, n4, u4⟩ := put_field (b := b) (vs := [iv e.n, iv e.d]) (p := 2) r3 (by omega) (by simp) (by simp) (by omega) h3 (by omega) g3'
  have rr4 := u4 _ _ (by omega) rr3
  simp only [splice_cons, splice_nil, List.set_cons_succ, List.set_cons_zero] at r4
  refine ⟨rfl, ?_⟩
  rw [show e.v.cells.toList = [iv e.n, iv e.d] from rfl, p4, ow_some, cell_hr r4 2]
  simp
  by_cases z0 : e.n = 0
  · have e14 : SmallB 3 ⟨1, 4⟩ := ⟨by decide, by decide, by decide, by decide⟩
    obtain ⟨M5, p5, r5, h5, g5, n5, u5⟩ := put_field (b := b) (vs := [iv 1, iv 4]) (p := 2) r4 (by omega) (by simp) (by simp) (by omega) h4 (by omega) g4
    simp only [splice_cons, splice_nil, List.set_cons_succ, List.set_cons_zero] at r5
    have rr5 := u5 _ _ (by omega) rr4
    simp [z0, fr_build2, p5]
    refine awCall_ctr (h5.pick 25 hb (by omega) (by omega)) ?_
    rintro _ N1 ⟨ky, c1, rfl, ky0, ky1, hc1, i1, v1⟩
    have rN1 := v1.2 _ _ (by omega) r5
    have rrN1 := v1.2 _ _ (by omega) rr5
    have gN1 := g5.trans v1.grow
    have lN1 := v1.1
    obtain ⟨N2, pN2, rN2, i2, gN2, lN2, w2⟩ := put_field (b := b) (vs := [iv (48 + ky)]) (p := 4) rN1 (by omega) (by simp) (by simp) (by omega) i1 (by omega) gN1
    have rrN2 := w2 _ _ (by omega) rrN1
    simp only [splice_cons, splice_nil, List.set_cons_succ, List.set_cons_zero] at rN2
    simp (disch := omega) [wrap_in, pN2]
    refine awCall_ctr (i2.pick 127 hb (by omega) (by omega)) ?_
    rintro _ N3 ⟨vy, c3, rfl, vy0, vy1, hc3, i3, v3⟩
    have rN3 := v3.2 _ _ (by omega) rN2
    have rrN3 := v3.2 _ _ (by omega) rrN2
    have gN3 := gN2.trans v3.grow
    have lN3 := v3.1
    obtain ⟨N4, pN4, rN4, i4, gN4, lN4, w4⟩ := put_field (b := b) (vs := [iv (1 + vy)]) (p := 5) rN3 (by omega) (by simp) (by simp) (by omega) i3 (by omega) gN3
    have rrN4 := w4 _ _ (by omega) rrN3
    simp only [splice_cons, splice_nil, List.set_cons_succ, List.set_cons_zero] at rN4
    simp (disch := omega) [wrap_in, pN4, fill5]
    refine awCall_ctr (among_new (b := b) (M := N4) (n := 5) [0, 0, 0, 1, 15] rfl i4 hb (by omega) (by omega) (by omega) rfl (by omega)) ?_
    rintro _ N5 ⟨oy, c5, rfl, hoy, hc5, i5, g5⟩
    have rN5 := g5.2 _ _ (by omega) rN4
    have rrN5 := g5.2 _ _ (by omega) rrN4
    have gN5 := gN4.trans g5
    have lN5 := g5.1
    obtain ⟨N6, pN6, rN6, i6, gN6, lN6, w6⟩ := put_field (b := b) (vs := [iv oy]) (p := 6) rN5 (by omega) (by simp) (by simp) (by omega) i5 (by omega) gN5
    have rrN6 := w6 _ _ (by omega) rrN5
    simp only [splice_cons, splice_nil, List.set_cons_succ, List.set_cons_zero] at rN6
    obtain ⟨N7, pN7, rN7, i7, gN7, lN7, w7⟩ := put_field (b := b) (vs := [iv f.n, iv f.d, iv 1, iv 4, iv (48 + ky), iv (1 + vy), iv oy]) (p := 0) rrN6 (by omega) (by simp) (by simp) (by omega) i6 (by omega) gN6
    simp only [splice_cons, splice_nil, List.set_cons_succ, List.set_cons_zero] at rN7
    simp (disch := omega) [pN6, cells_hr (n := 7) rN6 rfl, pN7, cells_hr (n := 7) rN7 rfl]
    have hoy' : 0 ≤ oy ∧ oy ≤ 15 := by simp at hoy; omega
    exact ⟨⟨f.n, f.d, 1, 4, 48 + ky, 1 + vy, oy⟩, ⟨rfl, rfl, rfl, rfl, rfl, rfl, rfl⟩, drawn_ok (e := ⟨1, 4⟩) hf e14 (by decide) (by omega) (by omega) hoy', c5, by omega, i7, gN7⟩
  · simp [z0]
    refine awCall_ctr (h4.pick 25 hb (by omega) (by omega)) ?_
    rintro _ N1 ⟨ky, c1, rfl, ky0, ky1, hc1, i1, v1⟩
    have rN1 := v1.2 _ _ (by omega) r4
    have rrN1 := v1.2 _ _ (by omega) rr4
    have gN1 := g4.trans v1.grow
    have lN1 := v1.1
    obtain ⟨N2, pN2, rN2, i2, gN2, lN2, w2⟩ := put_field (b := b) (vs := [iv (48 + ky)]) (p := 4) rN1 (by omega) (by simp) (by simp) (by omega) i1 (by omega) gN1
    have rrN2 := w2 _ _ (by omega) rrN1
    simp only [splice_cons, splice_nil, List.set_cons_succ, List.set_cons_zero] at rN2
    simp (disch := omega) [wrap_in, pN2]
    refine awCall_ctr (i2.pick 127 hb (by omega) (by omega)) ?_
    rintro _ N3 ⟨vy, c3, rfl, vy0, vy1, hc3, i3, v3⟩
    have rN3 := v3.2 _ _ (by omega) rN2
    have rrN3 := v3.2 _ _ (by omega) rrN2
    have gN3 := gN2.trans v3.grow
    have lN3 := v3.1
    obtain ⟨N4, pN4, rN4, i4, gN4, lN4, w4⟩ := put_field (b := b) (vs := [iv (1 + vy)]) (p := 5) rN3 (by omega) (by simp) (by simp) (by omega) i3 (by omega) gN3
    have rrN4 := w4 _ _ (by omega) rrN3
    simp only [splice_cons, splice_nil, List.set_cons_succ, List.set_cons_zero] at rN4
    simp (disch := omega) [wrap_in, pN4, fill5]
    refine awCall_ctr (among_new (b := b) (M := N4) (n := 5) [0, 0, 0, 1, 15] rfl i4 hb (by omega) (by omega) (by omega) rfl (by omega)) ?_
    rintro _ N5 ⟨oy, c5, rfl, hoy, hc5, i5, g5⟩
    have rN5 := g5.2 _ _ (by omega) rN4
    have rrN5 := g5.2 _ _ (by omega) rrN4
    have gN5 := gN4.trans g5
    have lN5 := g5.1
    obtain ⟨N6, pN6, rN6, i6, gN6, lN6, w6⟩ := put_field (b := b) (vs := [iv oy]) (p := 6) rN5 (by omega) (by simp) (by simp) (by omega) i5 (by omega) gN5
    have rrN6 := w6 _ _ (by omega) rrN5
    simp only [splice_cons, splice_nil, List.set_cons_succ, List.set_cons_zero] at rN6
    obtain ⟨N7, pN7, rN7, i7, gN7, lN7, w7⟩ := put_field (b := b) (vs := [iv f.n, iv f.d, iv e.n, iv e.d, iv (48 + ky), iv (1 + vy), iv oy]) (p := 0) rrN6 (by omega) (by simp) (by simp) (by omega) i6 (by omega) gN6
    simp only [splice_cons, splice_nil, List.set_cons_succ, List.set_cons_zero] at rN7
    simp (disch := omega) [pN6, cells_hr (n := 7) rN6 rfl, pN7, cells_hr (n := 7) rN7 rfl]
    have hoy' : 0 ≤ oy ∧ oy ≤ 15 := by simp at hoy; omega
    exact ⟨⟨f.n, f.d, e.n, e.d, 48 + ky, 1 + vy, oy⟩, ⟨rfl, rfl, rfl, rfl, rfl, rfl, rfl⟩, drawn_ok (e := e) hf he z0 (by omega) (by omega) hoy', c5, by omega, i7, gN7⟩
end Go.Proofs.Ytgaiejaegimilaa
