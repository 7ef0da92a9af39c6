/- Parts of the proof, together: Track: a struct that holds a slice of records. Tracks: is one valid. Sources and samples. The program's controls of a voice. Controls of a voice: plain, and their lists in memory. Tracks are rendered. The program's controls of a voice, walked. The program's ControlsOf. The law of the controls of a voice is walked. Gates: the gates of a voice are good. Rendering a patch: plain. No conditions. -/
import Derived.Test.YtimijeeihicohaaZzL14
import Derived.Test.YtimijeeihicohaaZzL10
import Derived.Test.YtimijeeihicohaaZzL11
import Derived.Test.YtimijeeihicohaaZzL13
namespace Go.Proofs.Ytimijeeihicohaa
open Go.RowKit
set_option linter.unusedVariables false
set_option linter.unusedSimpArgs false
set_option maxRecDepth 100000
attribute [local simp] List.getElem?_cons_zero
attribute [local irreducible] awCond awCall awLoop awDraw ow retQ retC resQ Keeps
end Go.Proofs.Ytimijeeihicohaa

namespace Go.Proofs.Ytimijeeihicohaa
open Go.RowKit
set_option linter.unusedVariables false
set_option linter.unusedSimpArgs false
set_option maxRecDepth 100000
attribute [local simp] List.getElem?_cons_zero
attribute [local irreducible] awCond awCall awLoop awDraw ow retQ retC resQ Keeps
end Go.Proofs.Ytimijeeihicohaa

namespace Go.Proofs.Ytimijeeihicohaa
open Go.RowKit
set_option linter.unusedVariables false
set_option linter.unusedSimpArgs false
set_option maxRecDepth 100000
attribute [local simp] List.getElem?_cons_zero
attribute [local irreducible] awCond awCall awLoop awDraw ow retQ retC resQ Keeps
theorem prod_bd {a b : Int} (h1 : -2147483648 ≤ a) (h2 : a ≤ 2147483647) (h3 : -2147483648 ≤ b) (h4 : b ≤ 2147483647) : -4611686018427387904 ≤ a * b ∧ a * b ≤ 4611686018427387904 := by
  have h : (a * b).natAbs ≤ 2147483648 * 2147483648 := by
    rw [Int.natAbs_mul]
    exact Nat.mul_le_mul (by omega) (by omega)
  omega
def atL (l : List Int) (i : Int) : Int := if 0 ≤ i ∧ i < l.length then el l i.toNat else 0
theorem l01Add_s {M : Mem} (a b : Int) : Det Try.prog M.length 93 [iv a, iv b] M (iv (smp (smp a + smp b))) M := by
  have h1 := smp_bd a
  have h2 := smp_bd b
  first | (refine det_fn Try.func93 rfl Try.ntmps93 Try.results93 rfl rfl rfl (by simp) ?_) | (refine det_fnC Try.func93 rfl Try.ntmps93 Try.results93 rfl rfl (by simp) ?_)
  simp
  refine awCall_det' (l01Wrap_t _) (by simp) ?_
  try simp
  refine awCall_det' (l01Wrap_t _) (by simp) ?_
  simp (disch := omega) [wrap_in]
  refine awCall_det' (l01Wrap_t _) (by simp) ?_
  simp [Keeps.refl]
theorem l01Mul_s {M : Mem} (a b : Int) : Det Try.prog M.length 95 [iv a, iv b] M (iv (smp (smp a * smp b))) M := by
  have h1 := smp_bd a
  have h2 := smp_bd b
  have h3 := prod_bd h1.1 h1.2 h2.1 h2.2
  first | (refine det_fn Try.func95 rfl Try.ntmps95 Try.results95 rfl rfl rfl (by simp) ?_) | (refine det_fnC Try.func95 rfl Try.ntmps95 Try.results95 rfl rfl (by simp) ?_)
  simp
  refine awCall_det' (l01Wrap_t _) (by simp) ?_
  try simp
  refine awCall_det' (l01Wrap_t _) (by simp) ?_
  simp (disch := omega) [wrap_in]
  refine awCall_det' (l01Wrap_t _) (by simp) ?_
  simp [Keeps.refl]
theorem l03At_s {M : Mem} {lo hi : Nat} {u : Value} {l : List Int} (i : Int) (h : SlV intP lo hi M u l) : Det Try.prog M.length 94 [u, iv i] M (iv (atL l i)) M := by
  obtain ⟨A, n, c, rfl, h1, h2, h3⟩ := h
  have hl := h3.1
  replace h3 := h3.sl
  unfold atL
  rw [hl]
  first | (refine det_fn Try.func94 rfl Try.ntmps94 Try.results94 rfl rfl rfl (by simp) ?_) | (refine det_fnC Try.func94 rfl Try.ntmps94 Try.results94 rfl rfl (by simp) ?_)
  simp (disch := omega) [wrap_in]
  refine awCall_det' (l00In_a _ _ _) (by simp) ?_
  by_cases hb : inB i 0 (n - 1) = true
  · have hb' := inB_iff.1 hb
    obtain ⟨k, rfl⟩ := Int.eq_ofNat_of_zero_le hb'.1
    have hlt : k < n := by omega
    obtain ⟨id, off, rfl, he, hc⟩ := h3.at_ hlt
    have c1 := int_cell hc
    simp only [Nat.mul_one] at c1
    simp (disch := omega) [hb, hlt, he, c1, Keeps.refl]
  · have hb' : ¬ (0 ≤ i ∧ i < n) := by
      intro hh
      exact hb (inB_iff.2 ⟨hh.1, by omega⟩)
    simp [hb, hb', Keeps.refl]
theorem size_ia {M : Mem} {A : Option Addr} {n c : Nat} (hn : n ≤ 9223372036854775807) : Det Try.prog M.length 112 [.slice A n c] M (iv n) M := by
  first | (refine det_fn Try.func112 rfl Try.ntmps112 Try.results112 rfl rfl rfl (by simp) ?_) | (refine det_fnC Try.func112 rfl Try.ntmps112 Try.results112 rfl rfl (by simp) ?_)
  simp (disch := omega) [wrap_in, Keeps.refl]
theorem at_i {M : Mem} {lo hi : Nat} {u : Value} {l : List Int} (i : Int) (h0 : 0 ≤ i) (h : SlV intP lo hi M u l) : Det Try.prog M.length 113 [u, iv i] M (iv (atL l i)) M := by
  obtain ⟨A, n, c, rfl, h1, h2, h3⟩ := h
  have hl := h3.1
  replace h3 := h3.sl
  unfold atL
  rw [hl]
  obtain ⟨k, rfl⟩ := Int.eq_ofNat_of_zero_le h0
  first | (refine det_fn Try.func113 rfl Try.ntmps113 Try.results113 rfl rfl rfl (by simp) ?_) | (refine det_fnC Try.func113 rfl Try.ntmps113 Try.results113 rfl rfl (by simp) ?_)
  simp (disch := omega) [wrap_in]
  refine awCall_det' (size_ia (by omega)) (by simp) ?_
  simp (disch := omega) [wrap_in]
  by_cases hlt : k < n
  · obtain ⟨id, off, rfl, he, hc⟩ := h3.at_ hlt
    have c1 := int_cell hc
    simp only [Nat.mul_one] at c1
    have hg : ¬ n ≤ k := by omega
    simp (disch := omega) [hg, hlt, he, c1, Keeps.refl]
  · have hg : n ≤ k := by omega
    simp [hlt, hg, Keeps.refl]
theorem cellsL_rep (n : Nat) (x : Int) : zrow [iv x] n = cellsL intR (List.replicate n x) := by
  induction n with
  | zero => rfl
  | succ n ih => rw [zrow_succ, ih, List.replicate_succ, cellsL_cons]; rfl
theorem zeros_i {M : Mem} (n : Nat) (hn : n ≤ 4000) : Det Try.prog M.length 78 [iv n] M (.slice (some ⟨M.length, 0, none⟩) n n) (M ++ [.live ⟨cellsL intR (List.replicate n 0), true, true, 2, 1⟩]) := by
  refine Ctr.det ?_
  first | (refine ctr_fn Try.func78 rfl Try.ntmps78 Try.results78 rfl rfl (by simp) ?_) | (refine ctr_fnC Try.func78 rfl Try.ntmps78 Try.results78 rfl (by simp) ?_)
  simp
  exact ⟨by omega, by rw [cellsL_rep]⟩
end Go.Proofs.Ytimijeeihicohaa

namespace Go.Proofs.Ytimijeeihicohaa
open Go.RowKit
set_option linter.unusedVariables false
set_option linter.unusedSimpArgs false
set_option maxRecDepth 100000
attribute [local simp] List.getElem?_cons_zero
attribute [local irreducible] awCond awCall awLoop awDraw ow retQ retC resQ Keeps
def oneB (l : List Gate) : Bool := l.all fun g => decide (g.o = (el l 0).o)
def codeV (x : Inst) (l : List Gate) (n : Int) (one : Bool) : Int :=
  if instB x && okG l then (if inB n 0 4000 then (if (one && !oneB l) || !playB l then 6 else 0) else 2) else 1
theorem gatesCode_i {M : Mem} {lo hi : Nat} {us : List Value} {x : Inst} {A : Option Addr} {n c : Nat} {l : List Gate} (N : Int) (one : Bool) (h : instP.rd lo hi M x us) (hg : Sl gateR M A n l) (hn : n ≤ 1099511627776) : Det Try.prog M.length 50 [.agg us.toArray, .slice A n c, iv N, .bool one] M (iv (codeV x l N one)) M := by
  have hl := instP.len h
  have ht : us.take 8 = us := List.take_of_length_le (by omega)
  have hgl := hg.1
  first | (refine det_fn Try.func50 rfl Try.ntmps50 Try.results50 rfl rfl rfl (by simp) ?_) | (refine det_fnC Try.func50 rfl Try.ntmps50 Try.results50 rfl rfl (by simp) ?_)
  simp [hl, ht]
  refine awCall_det' (isInstrument_i (instP.app h _)) (by simp) ?_
  cases e1 : instB x
  · simp [codeV, e1, keeps_app]
  simp
  refine awCall_det' (areGates_a (hg.keeps (keeps_app _)) (by omega)) (by simp) ?_
  cases e2 : okG l
  · simp [codeV, e1, e2, keeps_app]
  simp
  refine awCall_det' (isCount_a N) (by simp) ?_
  cases e3 : inB N 0 4000
  · simp [codeV, e1, e2, e3, keeps_app]
  simp
  refine awLoop_T (fun m T M' => ∃ k : Nat, k + m = n ∧ Keeps M M' ∧ look T 24 = some (iv k) ∧ look T 23 = some (iv n) ∧ look T 22 = some (.slice A n c) ∧ look T 1 = some (.slice A n c) ∧ look T 3 = some (.bool one) ∧ ∀ i, i < k → one = true → (el l i).o = (el l 0).o) n ⟨0, by omega, keeps_app _, by simp, by simp, by simp, by simp, by simp, fun i hi => by omega⟩ ?_
  rintro m T M' ⟨k, hm, hK, t24, t23, t22, t1, t3, hk⟩
  have hKl := hK.len
  by_cases hlt : k < n
  · have hgk := hg.keeps hK
    obtain ⟨id, off, rfl, he, hc⟩ := hgk.at_ hlt
    obtain ⟨_, _, e0, _, hc0⟩ := hgk.at_ (show 0 < n by omega)
    cases e0
    obtain ⟨z0, z1, z2, z3, z4⟩ := gate_cells hc0
    simp only [Nat.zero_mul, Nat.add_zero] at z0 z1 z2 z3 z4
    have hcl := gate_load hc
    simp (disch := omega) [t24, t23, t22, hlt, wrap_in, he, hcl]
    refine awDraw_E 8 [[],[0],[1,0],[2,1,0],[1,0],[4,1,0],[5,4,1,0],[6,5,4,1,0],[3,2,1,0,7,6,5,4],[1,0,8,3,2,7,6,5,4]] (by kernel_rfl) (by kernel_rfl) ?_
    cases one
    · simp (disch := omega) [t24, t23, t22, t1, t3, hlt, wrap_in, rowEsz_keeps (keeps_app _) he, cellAt_app z0]
      refine lpI (m - 1) (by omega) ⟨k + 1, by omega, hK.app _, by simp, by simp [t23], by simp [t22], by simp [t1], by simp [t3], fun i hi h1 => by cases h1⟩
    · simp (disch := omega) [t24, t23, t22, t1, t3, hlt, wrap_in, rowEsz_keeps (keeps_app _) he, cellAt_app z0]
      refine ⟨by omega, ?_⟩
      by_cases hv : (el l k).o = (el l 0).o
      · simp (disch := omega) [hv, t24, wrap_in]
        refine lpI (m - 1) (by omega) ⟨k + 1, by omega, hK.app _, by simp, by simp [t23], by simp [t22], by simp [t1], by simp [t3], fun i hi h1 => ?_⟩
        by_cases hik : i < k
        · exact hk i hik h1
        · obtain rfl : i = k := by omega
          exact hv
      · have e4 : oneB l = false := all_no (k := k) (by omega) (decide_eq_false hv)
        simp (disch := omega) [hv]
        simp [codeV, e1, e2, e3, e4, hK.app]
  · obtain rfl : k = n := by omega
    simp [t24, t23, t22, t1]
    refine awCall_det' (arePlayable_a (hg.keeps hK) hn) (by omega) ?_
    have e4 : (one && !oneB l) = false := by
      cases one
      · rfl
      · have : oneB l = true := all_yes fun i hi => by simp [hk i (by omega) rfl]
        simp [this]
    cases e5 : playB l
    · simp [codeV, e1, e2, e3, e5, hK]
    · simp [codeV, e1, e2, e3, e4, e5, hK]
end Go.Proofs.Ytimijeeihicohaa

namespace Go.Proofs.Ytimijeeihicohaa
open Go.RowKit
set_option linter.unusedVariables false
set_option linter.unusedSimpArgs false
set_option maxRecDepth 100000
attribute [local simp] List.getElem?_cons_zero
attribute [local irreducible] awCond awCall awLoop awDraw ow retQ retC resQ Keeps
def cidx (l : List Gate) (t : Int) : Nat := l.findIdx fun g => decide (t < g.s)
def gateL (l : List Gate) (t : Int) : Gate := el l (cidx l t - 1)
def ctl0 (x : Inst) (l : List Gate) (t : Nat) : Int := incr x.steps (gateL l t).k
def ctl1 (x : Inst) (l : List Gate) (t : Nat) : Int := (gateL l t).u
def ctl2 (x : Inst) (l : List Gate) (t : Nat) : Int := levelV x.env ((gateL l t).e - (gateL l t).s) (t - (gateL l t).s)
def Sorted (l : List Gate) : Prop := ∀ i j, i ≤ j → j < l.length → (el l i).s ≤ (el l j).s
theorem okG_sorted {l : List Gate} (h : okG l = true) : Sorted l := by
  unfold okG at h
  simp only [Bool.and_eq_true, decide_eq_true_eq] at h
  intro i j hij
  induction j with
  | zero =>
    intro hj
    obtain rfl : i = 0 := by omega
    exact Int.le_refl _
  | succ j ih =>
    intro hj
    by_cases e : i = j + 1
    · subst e; exact Int.le_refl _
    · have := ih (by omega) (by omega)
      have := (h.1 (j + 1) hj).2 (by omega)
      rw [Nat.add_sub_cancel] at this
      omega
theorem cidx_lt {l : List Gate} (hs : Sorted l) {t : Int} {k : Nat} (hk : k < l.length) : k < cidx l t ↔ (el l k).s ≤ t := by
  constructor
  · intro h
    have := List.not_of_lt_findIdx h
    rw [el_eq hk] at this
    simpa using this
  · intro h
    apply Classical.byContradiction
    intro hn
    have hlt : cidx l t < l.length := by omega
    have hw : decide (t < (l[cidx l t]'hlt).s) = true := List.findIdx_getElem (w := hlt)
    rw [el_eq hlt] at hw
    have h2 : t < (el l (cidx l t)).s := by simpa using hw
    have := hs (cidx l t) k (by omega) hk
    omega
theorem cidx_le (l : List Gate) (t : Int) : cidx l t ≤ l.length := List.findIdx_le_length
def mkC (n : Nat) (p : Nat → Bool) (f : Nat → Int) : List Int := (List.range n).map fun t => if p t = true then f t else 0
theorem mkC_len {n : Nat} {p : Nat → Bool} {f : Nat → Int} : (mkC n p f).length = n := by simp [mkC]
theorem mkC_congr {n : Nat} {p q : Nat → Bool} {f : Nat → Int} (h : ∀ t, t < n → p t = q t) : mkC n p f = mkC n q f := by
  unfold mkC
  apply List.map_congr_left
  intro t ht
  rw [h t (List.mem_range.1 ht)]
theorem mkC_set {n : Nat} {p q : Nat → Bool} {f : Nat → Int} {t : Nat} (h : ∀ u, u < n → q u = (p u || decide (u = t))) : (mkC n p f).set t (f t) = mkC n q f := by
  apply List.ext_getElem
  · simp [mkC]
  · intro i h1 h2
    have hi : i < n := by simpa [mkC] using h2
    rw [List.getElem_set]
    by_cases e : t = i
    · subst e
      simp [mkC, h t hi]
    · simp only [e, if_false, mkC, List.getElem_map, List.getElem_range, h i hi]
      have : ¬ i = t := fun h => e h.symm
      simp [this]
theorem mkC_none {n : Nat} {p : Nat → Bool} {f : Nat → Int} (h : ∀ t, t < n → p t = false) : mkC n p f = List.replicate n 0 := by
  apply List.ext_getElem
  · simp [mkC]
  · intro i h1 h2
    have hi : i < n := by simpa [mkC] using h1
    simp [mkC, h i hi]
/-- What is set when k gates are done and the next one is done up to position u. -/
def doneP (l : List Gate) (k : Nat) (u t : Nat) : Bool := decide (0 < cidx l t) && (decide (cidx l t ≤ k) || (decide (cidx l t = k + 1) && decide (t < u)))
def allP (l : List Gate) (t : Nat) : Bool := decide (0 < cidx l t)
theorem doneP_step {l : List Gate} {k u : Nat} (h : cidx l u = k + 1) (t : Nat) : doneP l k (u + 1) t = (doneP l k u t || decide (t = u)) := by
  unfold doneP
  by_cases e : t = u
  · subst e
    simp [h]
  · by_cases e1 : t < u
    · have : t < u + 1 := by omega
      simp [e, e1, this]
    · have : ¬ t < u + 1 := by omega
      simp [e, e1, this]
theorem cidx_at {l : List Gate} (hs : Sorted l) {k : Nat} (hk : k < l.length) {t : Int} (h1 : (el l k).s ≤ t) (h2 : k + 1 < l.length → t < (el l (k + 1)).s) : cidx l t = k + 1 := by
  have a := (cidx_lt hs hk).2 h1
  have := cidx_le l t
  by_cases hk' : k + 1 < l.length
  · have b : ¬ k + 1 < cidx l t := fun h => by
      have := (cidx_lt hs hk').1 h
      have := h2 hk'
      omega
    omega
  · omega
/-- Three lists in rows of one's own, and the row that holds them. -/
structure Row1 (M : Mem) (B : Nat) (v : Value) (id : Nat) (l : List Int) : Prop where
  low : B ≤ id
  row : ∃ t c, v = .slice (some ⟨id, 0, none⟩) l.length c ∧ M[id]? = some (.live ⟨cellsL intR l, true, t, 2, 1⟩)
theorem Row1.keep {M M' : Mem} {B : Nat} {v : Value} {id : Nat} {l : List Int} (h : Row1 M B v id l) (hk : ∀ s, M[id]? = some s → M'[id]? = some s) : Row1 M' B v id l := by
  obtain ⟨h1, t, c, h2, h3⟩ := h
  exact ⟨h1, t, c, h2, hk _ h3⟩
theorem Row1.put {M : Mem} {B b : Nat} {v : Value} {id : Nat} {l : List Int} (h : Row1 M B v id l) (hb : b ≤ B) {i : Nat} (hi : i < l.length) (y : Int) :
    ∃ M', putCells b M id i [iv y] = some M' ∧ Row1 M' B v id (l.set i y) ∧ M'.length = M.length ∧ ∀ (q : Nat) s, q ≠ id → M[q]? = some s → M'[q]? = some s := by
  obtain ⟨h1, t, c, h2, h3⟩ := h
  have hp := put_rec (R := intR) (b := b) (a := y) (off := i) h3 (by omega) hi (by omega) rfl
  refine ⟨_, hp, ⟨h1, t, c, by rw [h2, List.length_set], List.getElem?_set_self (List.getElem?_eq_some_iff.1 h3).1⟩, by simp, fun q s hq hs => by rw [List.getElem?_set_ne (Ne.symm hq)]; exact hs⟩
structure Ctl (M : Mem) (B oid i0 i1 i2 : Nat) (v0 v1 v2 : Value) (l0 l1 l2 : List Int) : Prop where
  low : B ≤ oid
  orow : ∃ e, M[oid]? = some (.live ⟨[v0, v1, v2], true, true, e, 1⟩)
  r0 : Row1 M B v0 i0 l0
  r1 : Row1 M B v1 i1 l1
  r2 : Row1 M B v2 i2 l2
  apart : i0 ≠ i1 ∧ i0 ≠ i2 ∧ i1 ≠ i2 ∧ i0 ≠ oid ∧ i1 ≠ oid ∧ i2 ≠ oid
theorem Ctl.keeps {M M' : Mem} {B oid i0 i1 i2 : Nat} {v0 v1 v2 : Value} {l0 l1 l2 : List Int} (h : Ctl M B oid i0 i1 i2 v0 v1 v2 l0 l1 l2) (hk : Keeps M M') : Ctl M' B oid i0 i1 i2 v0 v1 v2 l0 l1 l2 :=
  ⟨h.low, ⟨h.orow.choose, hk.get h.orow.choose_spec⟩, h.r0.keep fun s hs => hk.get hs, h.r1.keep fun s hs => hk.get hs, h.r2.keep fun s hs => hk.get hs, h.apart⟩
theorem Ctl.cells {M : Mem} {B oid i0 i1 i2 : Nat} {v0 v1 v2 : Value} {l0 l1 l2 : List Int} (h : Ctl M B oid i0 i1 i2 v0 v1 v2 l0 l1 l2) : cellAt M oid 0 = some v0 ∧ cellAt M oid 1 = some v1 ∧ cellAt M oid 2 = some v2 ∧ rowEsz M oid = some 1 := by
  obtain ⟨e, he⟩ := h.orow
  simp [cellAt, rowEsz, he]
theorem Ctl.put0 {M : Mem} {B b oid i0 i1 i2 : Nat} {v0 v1 v2 : Value} {l0 l1 l2 : List Int} (h : Ctl M B oid i0 i1 i2 v0 v1 v2 l0 l1 l2) (hb : b ≤ B) {i : Nat} (hi : i < l0.length) (y : Int) :
    ∃ M', putCells b M i0 i [iv y] = some M' ∧ Ctl M' B oid i0 i1 i2 v0 v1 v2 (l0.set i y) l1 l2 ∧ M'.length = M.length ∧ ∀ (q : Nat) s, q ≠ i0 → M[q]? = some s → M'[q]? = some s := by
  obtain ⟨M', p1, p2, p3, p4⟩ := h.r0.put hb hi y
  have ha := h.apart
  exact ⟨M', p1, ⟨h.low, ⟨h.orow.choose, p4 _ _ (Ne.symm ha.2.2.2.1) h.orow.choose_spec⟩, p2, h.r1.keep fun s hs => p4 _ _ (Ne.symm ha.1) hs, h.r2.keep fun s hs => p4 _ _ (Ne.symm ha.2.1) hs, ha⟩, p3, p4⟩
theorem Ctl.put1 {M : Mem} {B b oid i0 i1 i2 : Nat} {v0 v1 v2 : Value} {l0 l1 l2 : List Int} (h : Ctl M B oid i0 i1 i2 v0 v1 v2 l0 l1 l2) (hb : b ≤ B) {i : Nat} (hi : i < l1.length) (y : Int) :
    ∃ M', putCells b M i1 i [iv y] = some M' ∧ Ctl M' B oid i0 i1 i2 v0 v1 v2 l0 (l1.set i y) l2 ∧ M'.length = M.length ∧ ∀ (q : Nat) s, q ≠ i1 → M[q]? = some s → M'[q]? = some s := by
  obtain ⟨M', p1, p2, p3, p4⟩ := h.r1.put hb hi y
  have ha := h.apart
  exact ⟨M', p1, ⟨h.low, ⟨h.orow.choose, p4 _ _ (Ne.symm ha.2.2.2.2.1) h.orow.choose_spec⟩, h.r0.keep fun s hs => p4 _ _ ha.1 hs, p2, h.r2.keep fun s hs => p4 _ _ (Ne.symm ha.2.2.1) hs, ha⟩, p3, p4⟩
theorem Ctl.put2 {M : Mem} {B b oid i0 i1 i2 : Nat} {v0 v1 v2 : Value} {l0 l1 l2 : List Int} (h : Ctl M B oid i0 i1 i2 v0 v1 v2 l0 l1 l2) (hb : b ≤ B) {i : Nat} (hi : i < l2.length) (y : Int) :
    ∃ M', putCells b M i2 i [iv y] = some M' ∧ Ctl M' B oid i0 i1 i2 v0 v1 v2 l0 l1 (l2.set i y) ∧ M'.length = M.length ∧ ∀ (q : Nat) s, q ≠ i2 → M[q]? = some s → M'[q]? = some s := by
  obtain ⟨M', p1, p2, p3, p4⟩ := h.r2.put hb hi y
  have ha := h.apart
  exact ⟨M', p1, ⟨h.low, ⟨h.orow.choose, p4 _ _ (Ne.symm ha.2.2.2.2.2) h.orow.choose_spec⟩, h.r0.keep fun s hs => p4 _ _ ha.2.1 hs, h.r1.keep fun s hs => p4 _ _ ha.2.2.1 hs, p2, ha⟩, p3, p4⟩
end Go.Proofs.Ytimijeeihicohaa

namespace Go.Proofs.Ytimijeeihicohaa
open Go.RowKit
set_option linter.unusedVariables false
set_option linter.unusedSimpArgs false
set_option maxRecDepth 100000
attribute [local simp] List.getElem?_cons_zero
attribute [local irreducible] awCond awCall awLoop awDraw ow retQ retC resQ Keeps
theorem slt {M M' : Mem} (h : Same M.length M M') : Keeps M M' := h.keeps (Keeps.refl _) (Nat.le_refl _)
end Go.Proofs.Ytimijeeihicohaa

namespace Go.Proofs.Ytimijeeihicohaa
open Go.RowKit
set_option linter.unusedVariables false
set_option linter.unusedSimpArgs false
set_option maxRecDepth 100000
attribute [local simp] List.getElem?_cons_zero
attribute [local irreducible] awCond awCall awLoop awDraw ow retQ retC resQ Keeps
theorem okG_len {l : List Gate} (h : okG l = true) : l.length ≤ 60 := by
  unfold okG at h
  simp only [Bool.and_eq_true, decide_eq_true_eq] at h
  exact h.2
theorem okG_bd {l : List Gate} (h : okG l = true) : ∀ i, i < l.length → 0 ≤ (el l i).s ∧ (el l i).s < (el l i).e ∧ (el l i).e ≤ 4000 ∧ (0 ≤ (el l i).k ∧ (el l i).k ≤ 127) ∧ (1 ≤ (el l i).u ∧ (el l i).u ≤ 127) := by
  intro i hi
  unfold okG at h
  simp only [Bool.and_eq_true, decide_eq_true_eq] at h
  have := (h.1 i hi).1
  unfold gateB at this
  simp only [Bool.and_eq_true, decide_eq_true_eq] at this
  obtain ⟨⟨⟨⟨⟨h1, h2⟩, h3⟩, h4⟩, h5⟩, h6⟩ := this
  exact ⟨h2, h3, h4, inB_iff.1 h5, inB_iff.1 h6⟩
theorem doneP_start {l : List Gate} (hs : Sorted l) {k u : Nat} (hk : k < l.length) (hu : (u : Int) = (el l k).s) (t : Nat) : doneP l k 0 t = doneP l k u t := by
  unfold doneP
  by_cases e : cidx l t = k + 1
  · have := (cidx_lt hs hk (t := t)).1 (by omega)
    have h2 : ¬ t < u := by omega
    simp [e, h2]
  · simp [e]
theorem doneP_end {l : List Gate} (hs : Sorted l) {k u n : Nat} (hu : n ≤ u ∨ (k + 1 < l.length ∧ (el l (k + 1)).s ≤ u)) {t : Nat} (ht : t < n) : doneP l k u t = doneP l (k + 1) 0 t := by
  unfold doneP
  by_cases e : cidx l t = k + 1
  · have h2 : t < u := by
      rcases hu with hu | ⟨hu, hu'⟩
      · omega
      · have : ¬ (el l (k + 1)).s ≤ (t : Int) := fun h => by have := (cidx_lt hs hu (t := t)).2 h; omega
        omega
    simp [e, h2]
  · by_cases e1 : cidx l t ≤ k
    · have : cidx l t ≤ k + 1 := by omega
      simp [e1, this]
    · have h1 : ¬ cidx l t ≤ k + 1 := by omega
      simp [e, e1, h1]
theorem doneP_all (l : List Gate) (t : Nat) : doneP l l.length 0 t = allP l t := by
  unfold doneP allP
  have := cidx_le l t
  simp [this]
theorem doneP_none (l : List Gate) (t : Nat) : doneP l 0 0 t = false := by
  unfold doneP
  by_cases h : 0 < cidx l t
  · have : ¬ cidx l t ≤ 0 := by omega
    simp [this]
  · simp [h]
set_option maxHeartbeats 2000000 in
theorem controls_i {M : Mem} {b lo hi : Nat} {us : List Value} {x : Inst} {A : Option Addr} {n c N : Nat} {l : List Gate} (h : instP.rd lo hi M x us) (hb : instB x = true) (hg : Sl gateR M A n l) (hok : okG l = true) (hN : N ≤ 4000) (hbM : b ≤ M.length) :
    Ctr Try.prog b 51 [.agg us.toArray, .slice A n c, iv N] M fun v M' => ∃ oid i0 i1 i2 v0 v1 v2, v = .slice (some ⟨oid, 0, none⟩) 3 3 ∧ Ctl M' M.length oid i0 i1 i2 v0 v1 v2 (mkC N (allP l) (ctl0 x l)) (mkC N (allP l) (ctl1 x l)) (mkC N (allP l) (ctl2 x l)) ∧ Same M.length M M' := by
  have hl := instP.len h
  have ht : us.take 8 = us := List.take_of_length_le (by omega)
  have hgl := hg.1
  first | (refine ctr_fn Try.func51 rfl Try.ntmps51 Try.results51 rfl rfl (by simp) ?_) | (refine ctr_fnC Try.func51 rfl Try.ntmps51 Try.results51 rfl (by simp) ?_)
  simp [hl, ht]
  refine awCall_det' (zeros_i N hN) (by simp <;> omega) ?_
  refine awCall_det' (zeros_i N hN) (by simp <;> omega) ?_
  refine awCall_det' (zeros_i N hN) (by simp <;> omega) ?_
  rw [show ∀ a b c : Addr, Instr.fill (fun i => some (i, 1)) (zrow [Value.slice none 0 0] 3).toArray [(0, Value.slice (some a) N N), (1, Value.slice (some b) N N), (2, Value.slice (some c) N N)] = some #[Value.slice (some a) N N, Value.slice (some b) N N, Value.slice (some c) N N] from fun _ _ _ => rfl, ow_some]
  simp
  have hs := okG_sorted hok
  have hgk := okG_bd hok
  have hz : ∀ f : Nat → Int, mkC N (doneP l 0 0) f = List.replicate N 0 := fun f => mkC_none fun t _ => doneP_none l t
  refine awLoop_T (fun m T M' => ∃ k : Nat, k + m = n ∧ Same M.length M M' ∧ M.length + 4 < M'.length ∧ M'[M.length]? = some (Slot.live ⟨us, true, true, 53, 8⟩) ∧ Ctl M' M.length (M.length + 4) (M.length + 1) (M.length + 2) (M.length + 3) (.slice (some ⟨M.length + 1, 0, none⟩) N N) (.slice (some ⟨M.length + 2, 0, none⟩) N N) (.slice (some ⟨M.length + 3, 0, none⟩) N N) (mkC N (doneP l k 0) (ctl0 x l)) (mkC N (doneP l k 0) (ctl1 x l)) (mkC N (doneP l k 0) (ctl2 x l)) ∧ look T 21 = some (iv k) ∧ look T 20 = some (iv n) ∧ look T 19 = some (.slice A n c) ∧ look T 7 = some (.slice (some ⟨M.length + 4, 0, none⟩) 3 3) ∧ look T 3 = some (.pointer (some ⟨M.length, 0, none⟩)) ∧ look T 1 = some (.slice A n c) ∧ look T 2 = some (iv N)) n ⟨0, by omega, ⟨by simp, fun i s _ hs => (keeps_app _).get hs⟩, by simp, by simp, ⟨by omega, ⟨46, by simp⟩, ⟨by omega, true, N, by simp [mkC_len], by simp [hz]⟩, ⟨by omega, true, N, by simp [mkC_len], by simp [hz]⟩, ⟨by omega, true, N, by simp [mkC_len], by simp [hz]⟩, by omega⟩, by simp, by simp, by simp, by simp, by simp, by simp, by simp⟩ ?_
  rintro m T M1 ⟨k, hm, hS, hM1, hbx, hC, t21, t20, t19, t7, t3, t1, t2⟩
  by_cases hlt : k < n
  · have hK := slt hS
    obtain ⟨id, off, rfl, he, hc⟩ := (hg.keeps hK).at_ hlt
    have hcl := gate_load hc
    have hn60 : n ≤ 60 := by have := okG_len hok; omega
    by_cases hk1 : k + 1 < n
    · obtain ⟨_, _, e0, _, hc1⟩ := (hg.keeps hK).at_ hk1
      cases e0
      obtain ⟨z0, z1, z2, z3, z4⟩ := gate_cells hc1
      have hk1' : (k : Int) + 1 < n := by omega
      have w1 := hgk (k + 1) (by omega)
      simp (disch := omega) [t21, t20, t19, t1, t2, hlt, hk1', wrap_in, he, hcl, z1, cellAt_app z1, rowEsz_keeps (keeps_app _) he]
      refine ⟨by omega, ?_⟩
      obtain ⟨U, hU, hUN, hUle, hUe⟩ : ∃ U : Nat, (U : Int) = (if (el l (k + 1)).s < (N : Int) then (el l (k + 1)).s else (N : Int)) ∧ U ≤ N ∧ (k + 1 < l.length → (U : Int) ≤ (el l (k + 1)).s) ∧ (N ≤ U ∨ (k + 1 < l.length ∧ (el l (k + 1)).s ≤ U)) := by
        by_cases hc : (el l (k + 1)).s < (N : Int)
        · exact ⟨(el l (k + 1)).s.toNat, by rw [if_pos hc]; omega, by omega, fun _ => by omega, .inr ⟨by omega, by omega⟩⟩
        · exact ⟨N, by rw [if_neg hc], by omega, fun _ => by omega, .inl (by omega)⟩
      rw [← hU]
      have w := hgk k (by omega)
      obtain ⟨s0, hs0⟩ : ∃ s0 : Nat, (s0 : Int) = (el l k).s := ⟨(el l k).s.toNat, by omega⟩
      have hstart : ∀ f : Nat → Int, mkC N (doneP l k 0) f = mkC N (doneP l k s0) f := fun f => mkC_congr fun t _ => doneP_start hs (by omega) hs0 t
      rw [hstart, hstart, hstart] at hC
      refine awLoop_T (fun m T M' => ∃ u : Nat, u + m = max s0 U ∧ s0 ≤ u ∧ Same M.length M M' ∧ M1.length < M'.length ∧ M'[M.length]? = some (Slot.live ⟨us, true, true, 53, 8⟩) ∧ M'[M1.length]? = some (Slot.live ⟨[iv (el l k).o, iv (el l k).s, iv (el l k).e, iv (el l k).k, iv (el l k).u], true, true, 63, 5⟩) ∧ Ctl M' M.length (M.length + 4) (M.length + 1) (M.length + 2) (M.length + 3) (.slice (some ⟨M.length + 1, 0, none⟩) N N) (.slice (some ⟨M.length + 2, 0, none⟩) N N) (.slice (some ⟨M.length + 3, 0, none⟩) N N) (mkC N (doneP l k u) (ctl0 x l)) (mkC N (doneP l k u) (ctl1 x l)) (mkC N (doneP l k u) (ctl2 x l)) ∧ look T 11 = some (iv u) ∧ look T 10 = some (iv U) ∧ look T 9 = some (.pointer (some ⟨M1.length, 0, none⟩)) ∧ look T 21 = some (iv k) ∧ look T 20 = some (iv n) ∧ look T 19 = some (.slice (some ⟨id, off, none⟩) n c) ∧ look T 7 = some (.slice (some ⟨M.length + 4, 0, none⟩) 3 3) ∧ look T 3 = some (.pointer (some ⟨M.length, 0, none⟩)) ∧ look T 1 = some (.slice (some ⟨id, off, none⟩) n c) ∧ look T 2 = some (iv N)) (max s0 U - s0) ⟨s0, by omega, Nat.le_refl _, ⟨by have := hS.1; simp; omega, fun i s h1 h2 => (keeps_app _).get (hS.2 i s h1 h2)⟩, by simp, (keeps_app _).get hbx, by simp, hC.keeps (keeps_app _), by simp [hs0], by simp, by simp, by simp [t21], by simp [t20], by simp [t19], by simp [t7], by simp [t3], by simp [t1], by simp [t2]⟩ ?_
      clear hC hS hbx t21 t20 t19 t7 t3 t1 t2 T
      rintro m' T M3 ⟨u, hm', hsu, hS, hM3, hbx, hgb, hC, t11, t10, t9, t21, t20, t19, t7, t3, t1, t2⟩
      by_cases hu : u < U
      · have hK3 := slt hS
        have h3 := instP.keeps h hK3
        obtain ⟨o0, o1, o2, oez⟩ := hC.cells
        have cI : cellsAt M3 M.length 0 8 = some us := by simp [cellsAt, hbx, hl, ht]
        have b3 : cellAt M3 M1.length 3 = some (iv (el l k).k) := by simp [cellAt, hgb]
        simp (disch := omega) [t11, t10, hu]
        refine awDraw_E 8 [[],[0],[1,0],[],[],[],[5],[4,6,5],[2,1,0,3,4,5,6,7],[8,2,1,0,3,4,5,6,7]] (by kernel_rfl) (by kernel_rfl) ?_
        simp (disch := omega) [t11, t10, t9, t7, t3, hu, wrap_in, o0, oez, cI, b3]
        have huN : u < N := by omega
        have hci : cidx l u = k + 1 := cidx_at hs (by omega) (by omega) (fun h => by have := hUle h; omega)
        have hgl0 : gateL l u = el l k := by simp [gateL, hci]
        have hset : ∀ f : Nat → Int, (mkC N (doneP l k u) f).set u (f u) = mkC N (doneP l k (u + 1)) f := fun f => mkC_set fun t _ => doneP_step hci t
        have hk127 : inB (el l k).k 0 127 = true := inB_iff.2 w.2.2.2.1
        have ez0 : rowEsz M3 (M.length + 1) = some 1 := by obtain ⟨_, _, _, hh⟩ := hC.r0; simp [rowEsz, hh]
        refine awCall_det' (d := true) (increment_i h3 hb hk127) (Nat.le_refl _) ⟨rfl, ?_⟩
        obtain ⟨M4, p1, hC4, l4, o4⟩ := hC.put0 hbM (i := u) (by rw [mkC_len]; exact huN) (incr x.steps (el l k).k)
        have hv0 : incr x.steps (el l k).k = ctl0 x l u := by unfold ctl0; rw [hgl0]
        rw [hv0, hset] at hC4
        have hbx4 := o4 _ _ (by omega) hbx
        have hgb4 := o4 _ _ (by omega) hgb
        simp (disch := omega) [ez0, huN, p1]
        obtain ⟨o0', o1', o2', oez'⟩ := hC4.cells
        have b4 : cellAt M4 M1.length 4 = some (iv (el l k).u) := by simp [cellAt, hgb4]
        have ez1 : rowEsz M4 (M.length + 2) = some 1 := by obtain ⟨_, _, _, hh⟩ := hC4.r1; simp [rowEsz, hh]
        obtain ⟨M5, p2, hC5, l5, o5⟩ := hC4.put1 hbM (i := u) (by rw [mkC_len]; exact huN) (el l k).u
        have hv1 : (el l k).u = ctl1 x l u := by unfold ctl1; rw [hgl0]
        rw [show (mkC N (doneP l k u) (ctl1 x l)).set u (el l k).u = mkC N (doneP l k (u + 1)) (ctl1 x l) by rw [hv1]; exact hset _] at hC5
        have hbx5 := o5 _ _ (by omega) hbx4
        have hgb5 := o5 _ _ (by omega) hgb4
        refine awDraw_E 6 [[],[0],[1,0],[],[],[4],[2,1,0,3,4,5],[6,2,1,0,3,4,5]] (by kernel_rfl) (by kernel_rfl) ?_
        simp (disch := omega) [t11, t9, t7, huN, wrap_in, o1', oez', b4, ez1, p2]
        have hS5 : Same M.length M M5 := ⟨by have := hS.1; omega, fun i s h1 h2 => o5 i s (by omega) (o4 i s (by omega) (hS.2 i s h1 h2))⟩
        have h5 := instP.keeps h (slt hS5)
        obtain ⟨ps, es, ww, hus, hp, he5, hw5⟩ := h5
        have hpl := patchP.len hp
        have hel := envP.len he5
        have cE : cellsAt M5 M.length 4 3 = some es := by
          simp only [cellsAt, hbx5]
          rw [if_pos (by simp only [hl]; omega), hus]
          simp [hpl, hel, List.drop_append_of_le_length, List.drop_of_length_le, List.take_of_length_le]
        obtain ⟨q0, q1, q2, qez⟩ := hC5.cells
        have c1 : cellAt M5 M1.length 1 = some (iv (el l k).s) := by simp [cellAt, hgb5]
        have c2 : cellAt M5 M1.length 2 = some (iv (el l k).e) := by simp [cellAt, hgb5]
        have ez2 : rowEsz M5 (M.length + 3) = some 1 := by obtain ⟨_, _, _, hh⟩ := hC5.r2; simp [rowEsz, hh]
        have hbe : envB x.env = true := by unfold instB at hb; simp only [Bool.and_eq_true] at hb; exact hb.2.2.2.1
        obtain ⟨M6, p3, hC6, l6, o6⟩ := hC5.put2 hbM (i := u) (by rw [mkC_len]; exact huN) (levelV x.env ((el l k).e - (el l k).s) (u - (el l k).s))
        have hv2 : levelV x.env ((el l k).e - (el l k).s) (u - (el l k).s) = ctl2 x l u := by unfold ctl2; rw [hgl0]
        rw [show (mkC N (doneP l k u) (ctl2 x l)).set u (levelV x.env ((el l k).e - (el l k).s) (u - (el l k).s)) = mkC N (doneP l k (u + 1)) (ctl2 x l) by rw [hv2]; exact hset _] at hC6
        refine awDraw_E 16 [[],[0],[1,0],[],[],[4],[],[6],[],[8],[7,6,9,8],[],[],[12],[11,13,12],[5,4,10,7,6,9,8,14,11,13,12],[2,1,0,3,4,5,6,7,8,9,10,11,12,13,14,15],[16,2,1,0,3,4,5,6,7,8,9,10,11,12,13,14,15]] (by kernel_rfl) (by kernel_rfl) ?_
        simp (disch := omega) [t11, t9, t7, t3, huN, wrap_in, q2, qez, c1, c2, cE]
        refine awCall_det' (d := true) (levelAt_i ((el l k).e - (el l k).s) (u - (el l k).s) he5 hbe (by omega) (by omega) (by omega) (by omega)) (Nat.le_refl _) ⟨rfl, ?_⟩
        simp (disch := omega) [ez2, huN, p3, t11, wrap_in]
        refine lpI (m' - 1) (by omega) ⟨u + 1, by omega, by omega, ⟨by have := hS5.1; omega, fun i s h1 h2 => o6 i s (by omega) (hS5.2 i s h1 h2)⟩, by omega, o6 _ _ (by omega) hbx5, o6 _ _ (by omega) hgb5, hC6, by simp, by simp [t10], by simp [t9], by simp [t21], by simp [t20], by simp [t19], by simp [t7], by simp [t3], by simp [t1], by simp [t2]⟩
      · have hend : ∀ f : Nat → Int, mkC N (doneP l k u) f = mkC N (doneP l (k + 1) 0) f := fun f => mkC_congr fun t ht => doneP_end hs (by omega) ht
        rw [hend, hend, hend] at hC
        simp (disch := omega) [t11, t10, hu, t21, wrap_in]
        refine lpI (m - 1) (by omega) ⟨k + 1, by omega, hS, by omega, hbx, hC, by simp, by simp [t20], by simp [t19], by simp [t7], by simp [t3], by simp [t1], by simp [t2]⟩
    · have hk1' : ¬ (k : Int) + 1 < n := by omega
      simp (disch := omega) [t21, t20, t19, t1, t2, hlt, hk1', wrap_in, he, hcl]
      have hUN : N ≤ N := Nat.le_refl _
      have hUle : k + 1 < l.length → (N : Int) ≤ (el l (k + 1)).s := fun h => by omega
      have hUe : N ≤ N ∨ (k + 1 < l.length ∧ (el l (k + 1)).s ≤ (N : Int)) := .inl (Nat.le_refl _)
      have w := hgk k (by omega)
      obtain ⟨s0, hs0⟩ : ∃ s0 : Nat, (s0 : Int) = (el l k).s := ⟨(el l k).s.toNat, by omega⟩
      have hstart : ∀ f : Nat → Int, mkC N (doneP l k 0) f = mkC N (doneP l k s0) f := fun f => mkC_congr fun t _ => doneP_start hs (by omega) hs0 t
      rw [hstart, hstart, hstart] at hC
      refine awLoop_T (fun m T M' => ∃ u : Nat, u + m = max s0 N ∧ s0 ≤ u ∧ Same M.length M M' ∧ M1.length < M'.length ∧ M'[M.length]? = some (Slot.live ⟨us, true, true, 53, 8⟩) ∧ M'[M1.length]? = some (Slot.live ⟨[iv (el l k).o, iv (el l k).s, iv (el l k).e, iv (el l k).k, iv (el l k).u], true, true, 63, 5⟩) ∧ Ctl M' M.length (M.length + 4) (M.length + 1) (M.length + 2) (M.length + 3) (.slice (some ⟨M.length + 1, 0, none⟩) N N) (.slice (some ⟨M.length + 2, 0, none⟩) N N) (.slice (some ⟨M.length + 3, 0, none⟩) N N) (mkC N (doneP l k u) (ctl0 x l)) (mkC N (doneP l k u) (ctl1 x l)) (mkC N (doneP l k u) (ctl2 x l)) ∧ look T 11 = some (iv u) ∧ look T 10 = some (iv N) ∧ look T 9 = some (.pointer (some ⟨M1.length, 0, none⟩)) ∧ look T 21 = some (iv k) ∧ look T 20 = some (iv n) ∧ look T 19 = some (.slice (some ⟨id, off, none⟩) n c) ∧ look T 7 = some (.slice (some ⟨M.length + 4, 0, none⟩) 3 3) ∧ look T 3 = some (.pointer (some ⟨M.length, 0, none⟩)) ∧ look T 1 = some (.slice (some ⟨id, off, none⟩) n c) ∧ look T 2 = some (iv N)) (max s0 N - s0) ⟨s0, by omega, Nat.le_refl _, ⟨by have := hS.1; simp; omega, fun i s h1 h2 => (keeps_app _).get (hS.2 i s h1 h2)⟩, by simp, (keeps_app _).get hbx, by simp, hC.keeps (keeps_app _), by simp [hs0], by simp, by simp, by simp [t21], by simp [t20], by simp [t19], by simp [t7], by simp [t3], by simp [t1], by simp [t2]⟩ ?_
      clear hC hS hbx t21 t20 t19 t7 t3 t1 t2 T
      rintro m' T M3 ⟨u, hm', hsu, hS, hM3, hbx, hgb, hC, t11, t10, t9, t21, t20, t19, t7, t3, t1, t2⟩
      by_cases hu : u < N
      · have hK3 := slt hS
        have h3 := instP.keeps h hK3
        obtain ⟨o0, o1, o2, oez⟩ := hC.cells
        have cI : cellsAt M3 M.length 0 8 = some us := by simp [cellsAt, hbx, hl, ht]
        have b3 : cellAt M3 M1.length 3 = some (iv (el l k).k) := by simp [cellAt, hgb]
        simp (disch := omega) [t11, t10, hu]
        refine awDraw_E 8 [[],[0],[1,0],[],[],[],[5],[4,6,5],[2,1,0,3,4,5,6,7],[8,2,1,0,3,4,5,6,7]] (by kernel_rfl) (by kernel_rfl) ?_
        simp (disch := omega) [t11, t10, t9, t7, t3, hu, wrap_in, o0, oez, cI, b3]
        have huN : u < N := by omega
        have hci : cidx l u = k + 1 := cidx_at hs (by omega) (by omega) (fun h => by have := hUle h; omega)
        have hgl0 : gateL l u = el l k := by simp [gateL, hci]
        have hset : ∀ f : Nat → Int, (mkC N (doneP l k u) f).set u (f u) = mkC N (doneP l k (u + 1)) f := fun f => mkC_set fun t _ => doneP_step hci t
        have hk127 : inB (el l k).k 0 127 = true := inB_iff.2 w.2.2.2.1
        have ez0 : rowEsz M3 (M.length + 1) = some 1 := by obtain ⟨_, _, _, hh⟩ := hC.r0; simp [rowEsz, hh]
        refine awCall_det' (d := true) (increment_i h3 hb hk127) (Nat.le_refl _) ⟨rfl, ?_⟩
        obtain ⟨M4, p1, hC4, l4, o4⟩ := hC.put0 hbM (i := u) (by rw [mkC_len]; exact huN) (incr x.steps (el l k).k)
        have hv0 : incr x.steps (el l k).k = ctl0 x l u := by unfold ctl0; rw [hgl0]
        rw [hv0, hset] at hC4
        have hbx4 := o4 _ _ (by omega) hbx
        have hgb4 := o4 _ _ (by omega) hgb
        simp (disch := omega) [ez0, huN, p1]
        obtain ⟨o0', o1', o2', oez'⟩ := hC4.cells
        have b4 : cellAt M4 M1.length 4 = some (iv (el l k).u) := by simp [cellAt, hgb4]
        have ez1 : rowEsz M4 (M.length + 2) = some 1 := by obtain ⟨_, _, _, hh⟩ := hC4.r1; simp [rowEsz, hh]
        obtain ⟨M5, p2, hC5, l5, o5⟩ := hC4.put1 hbM (i := u) (by rw [mkC_len]; exact huN) (el l k).u
        have hv1 : (el l k).u = ctl1 x l u := by unfold ctl1; rw [hgl0]
        rw [show (mkC N (doneP l k u) (ctl1 x l)).set u (el l k).u = mkC N (doneP l k (u + 1)) (ctl1 x l) by rw [hv1]; exact hset _] at hC5
        have hbx5 := o5 _ _ (by omega) hbx4
        have hgb5 := o5 _ _ (by omega) hgb4
        refine awDraw_E 6 [[],[0],[1,0],[],[],[4],[2,1,0,3,4,5],[6,2,1,0,3,4,5]] (by kernel_rfl) (by kernel_rfl) ?_
        simp (disch := omega) [t11, t9, t7, huN, wrap_in, o1', oez', b4, ez1, p2]
        have hS5 : Same M.length M M5 := ⟨by have := hS.1; omega, fun i s h1 h2 => o5 i s (by omega) (o4 i s (by omega) (hS.2 i s h1 h2))⟩
        have h5 := instP.keeps h (slt hS5)
        obtain ⟨ps, es, ww, hus, hp, he5, hw5⟩ := h5
        have hpl := patchP.len hp
        have hel := envP.len he5
        have cE : cellsAt M5 M.length 4 3 = some es := by
          simp only [cellsAt, hbx5]
          rw [if_pos (by simp only [hl]; omega), hus]
          simp [hpl, hel, List.drop_append_of_le_length, List.drop_of_length_le, List.take_of_length_le]
        obtain ⟨q0, q1, q2, qez⟩ := hC5.cells
        have c1 : cellAt M5 M1.length 1 = some (iv (el l k).s) := by simp [cellAt, hgb5]
        have c2 : cellAt M5 M1.length 2 = some (iv (el l k).e) := by simp [cellAt, hgb5]
        have ez2 : rowEsz M5 (M.length + 3) = some 1 := by obtain ⟨_, _, _, hh⟩ := hC5.r2; simp [rowEsz, hh]
        have hbe : envB x.env = true := by unfold instB at hb; simp only [Bool.and_eq_true] at hb; exact hb.2.2.2.1
        obtain ⟨M6, p3, hC6, l6, o6⟩ := hC5.put2 hbM (i := u) (by rw [mkC_len]; exact huN) (levelV x.env ((el l k).e - (el l k).s) (u - (el l k).s))
        have hv2 : levelV x.env ((el l k).e - (el l k).s) (u - (el l k).s) = ctl2 x l u := by unfold ctl2; rw [hgl0]
        rw [show (mkC N (doneP l k u) (ctl2 x l)).set u (levelV x.env ((el l k).e - (el l k).s) (u - (el l k).s)) = mkC N (doneP l k (u + 1)) (ctl2 x l) by rw [hv2]; exact hset _] at hC6
        refine awDraw_E 16 [[],[0],[1,0],[],[],[4],[],[6],[],[8],[7,6,9,8],[],[],[12],[11,13,12],[5,4,10,7,6,9,8,14,11,13,12],[2,1,0,3,4,5,6,7,8,9,10,11,12,13,14,15],[16,2,1,0,3,4,5,6,7,8,9,10,11,12,13,14,15]] (by kernel_rfl) (by kernel_rfl) ?_
        simp (disch := omega) [t11, t9, t7, t3, huN, wrap_in, q2, qez, c1, c2, cE]
        refine awCall_det' (d := true) (levelAt_i ((el l k).e - (el l k).s) (u - (el l k).s) he5 hbe (by omega) (by omega) (by omega) (by omega)) (Nat.le_refl _) ⟨rfl, ?_⟩
        simp (disch := omega) [ez2, huN, p3, t11, wrap_in]
        refine lpI (m' - 1) (by omega) ⟨u + 1, by omega, by omega, ⟨by have := hS5.1; omega, fun i s h1 h2 => o6 i s (by omega) (hS5.2 i s h1 h2)⟩, by omega, o6 _ _ (by omega) hbx5, o6 _ _ (by omega) hgb5, hC6, by simp, by simp [t10], by simp [t9], by simp [t21], by simp [t20], by simp [t19], by simp [t7], by simp [t3], by simp [t1], by simp [t2]⟩
      · have hend : ∀ f : Nat → Int, mkC N (doneP l k u) f = mkC N (doneP l (k + 1) 0) f := fun f => mkC_congr fun t ht => doneP_end hs (by omega) ht
        rw [hend, hend, hend] at hC
        simp (disch := omega) [t11, t10, hu, t21, wrap_in]
        refine lpI (m - 1) (by omega) ⟨k + 1, by omega, hS, by omega, hbx, hC, by simp, by simp [t20], by simp [t19], by simp [t7], by simp [t3], by simp [t1], by simp [t2]⟩
  · obtain rfl : k = n := by omega
    have hall : ∀ f : Nat → Int, mkC N (doneP l k 0) f = mkC N (allP l) f := fun f => mkC_congr fun t _ => by rw [← hgl]; exact doneP_all l t
    rw [hall, hall, hall] at hC
    simp [t21, t20, t19, t7]
    exact ⟨⟨_, _, _, _, _, _, hC⟩, hS⟩
end Go.Proofs.Ytimijeeihicohaa

namespace Go.Proofs.Ytimijeeihicohaa
open Go.RowKit
set_option linter.unusedVariables false
set_option linter.unusedSimpArgs false
set_option maxRecDepth 100000
attribute [local simp] List.getElem?_cons_zero
attribute [local irreducible] awCond awCall awLoop awDraw ow retQ retC resQ Keeps
theorem codeV_ok {x : Inst} {l : List Gate} {N : Int} {one : Bool} (h : codeV x l N one = 0) : instB x = true ∧ okG l = true ∧ inB N 0 4000 = true ∧ (one = true → oneB l = true) ∧ playB l = true := by
  unfold codeV at h
  cases h1 : instB x <;> cases h2 : okG l <;> cases h3 : inB N 0 4000 <;> cases h4 : oneB l <;> cases h5 : playB l <;> cases one <;> simp [h1, h2, h3, h4, h5] at h ⊢
/-- What ControlsOf hands back. -/
def CtR (x : Inst) (l : List Gate) (N : Int) (M : Mem) (r : Value) (M' : Mem) : Prop :=
  Same M.length M M' ∧ ((codeV x l N true = 0 ∧ ∃ oid i0 i1 i2 v0 v1 v2, r = .tuple #[.slice (some ⟨oid, 0, none⟩) 3 3, iv 0] ∧ Ctl M' M.length oid i0 i1 i2 v0 v1 v2 (mkC N.toNat (allP l) (ctl0 x l)) (mkC N.toNat (allP l) (ctl1 x l)) (mkC N.toNat (allP l) (ctl2 x l))) ∨
    (codeV x l N true ≠ 0 ∧ r = .tuple #[.slice none 0 0, iv (codeV x l N true)]))
end Go.Proofs.Ytimijeeihicohaa

namespace Go.Proofs.Ytimijeeihicohaa
open Go.RowKit
set_option linter.unusedVariables false
set_option linter.unusedSimpArgs false
set_option maxRecDepth 100000
attribute [local simp] List.getElem?_cons_zero
attribute [local irreducible] awCond awCall awLoop awDraw ow retQ retC resQ Keeps
theorem OwL.sl {α : Type} {k : Nat} {R : RecV α k} {lo hi : Nat} {M : Mem} {v : Value} {l : List α} (h : OwL R lo hi M v l) : ∃ A n c, v = .slice A n c ∧ Sl R M A n l := by
  obtain ⟨A, n, c, rfl, h2, h3, _⟩ := h
  exact ⟨A, n, c, rfl, h3⟩
end Go.Proofs.Ytimijeeihicohaa

namespace Go.Proofs.Ytimijeeihicohaa
open Go.RowKit
set_option linter.unusedVariables false
set_option linter.unusedSimpArgs false
set_option maxRecDepth 100000
attribute [local simp] List.getElem?_cons_zero
attribute [local irreducible] awCond awCall awLoop awDraw ow retQ retC resQ Keeps
def voiceV (l : List Gate) (v : Int) : List Gate × Int := if okG l = false then ([], 1) else if inB v 0 3 = false then ([], 2) else (voiceL l v, 0)
theorem VoiceGates_s {M : Mem} {A : Option Addr} {n c : Nat} {l : List Gate} (v : Int) (h : Sl gateR M A n l) (hn : n ≤ 1048576) : Ctr Try.prog M.length 26 [.slice A n c, iv v] M fun r M' => ∃ v0, r = .tuple #[v0, iv (voiceV l v).2] ∧ OwL gateR M.length M'.length M' v0 (voiceV l v).1 ∧ Keeps M M' := by
  first | (refine ctr_fn Try.func26 rfl Try.ntmps26 Try.results26 rfl rfl (by simp) ?_) | (refine ctr_fnC Try.func26 rfl Try.ntmps26 Try.results26 rfl (by simp) ?_)
  simp
  refine awCall_det' (l21Ok_a h (by omega)) (by simp) ?_
  by_cases hok : okG l = true
  · simp [hok]
    refine awCall_det' (l00In_a _ _ _) (by simp) ?_
    by_cases hv : inB v 0 3 = true
    · simp [hv]
      refine awCall_ctr (l21Voice_a v h hn) ?_
      intro r M' hf
      try simp
      exact ⟨r, by simp [voiceV, hok, hv], by simpa [voiceV, hok, hv] using hf.ow.1, hf.ow.2⟩
    · simp at hv
      simp [hv]
      exact ⟨_, by simp [voiceV, hok, hv]; rfl, by simpa [voiceV, hok, hv] using OwL.nil, Keeps.refl _⟩
  · simp at hok
    simp [hok]
    exact ⟨_, by simp [voiceV, hok]; rfl, by simpa [voiceV, hok] using OwL.nil, Keeps.refl _⟩
theorem goodG_cons {g : Gate} {l : List Gate} {x : Int} : GoodG (g :: l) x ↔ gateB g = true ∧ g.s ≤ x ∧ (∀ i, i < l.length → g.s ≤ (el l i).s ∧ (g.o = (el l i).o → g.e ≤ (el l i).s)) ∧ GoodG l x := by
  constructor
  · intro h
    refine ⟨h.gate 0 (by simp), h.le 0 (by simp), fun i hi => ⟨h.sort 0 (i + 1) (by omega) (by simpa using hi), h.play 0 (i + 1) (by omega) (by simpa using hi)⟩, ⟨fun i hi => h.gate (i + 1) (by simpa using hi), fun i hi => h.le (i + 1) (by simpa using hi), fun i j hij hj => h.sort (i + 1) (j + 1) (by omega) (by simpa using hj), fun i j hij hj => h.play (i + 1) (j + 1) (by omega) (by simpa using hj)⟩⟩
  · rintro ⟨h1, h2, h3, h4⟩
    refine ⟨fun i hi => ?_, fun i hi => ?_, fun i j hij hj => ?_, fun i j hij hj => ?_⟩
    · rcases i with _ | i
      · exact h1
      · exact h4.gate i (by simpa using hi)
    · rcases i with _ | i
      · exact h2
      · exact h4.le i (by simpa using hi)
    · rcases j with _ | j
      · omega
      · rcases i with _ | i
        · exact (h3 j (by simpa using hj)).1
        · exact h4.sort i j (by omega) (by simpa using hj)
    · rcases j with _ | j
      · omega
      · rcases i with _ | i
        · exact (h3 j (by simpa using hj)).2
        · exact h4.play i j (by omega) (by simpa using hj)
theorem el_voice {l : List Gate} {v : Int} {i : Nat} (hi : i < (voiceL l v).length) : ∃ j, j < l.length ∧ el (voiceL l v) i = el l j ∧ (el l j).o = v := by
  have h := el_mem hi
  rw [voiceL, List.mem_filter] at h
  obtain ⟨j, hj, e⟩ := List.getElem_of_mem h.1
  rw [el_eq hj] at e
  exact ⟨j, hj, e.symm, by rw [e]; simpa [voiceL] using h.2⟩
theorem GoodG.voice {x v : Int} : ∀ {l : List Gate}, GoodG l x → GoodG (voiceL l v) x
  | [], h => h
  | g :: l, h => by
    obtain ⟨h1, h2, h3, h4⟩ := goodG_cons.1 h
    have ih := GoodG.voice (v := v) h4
    by_cases hv : g.o = v
    · have e : voiceL (g :: l) v = g :: voiceL l v := by simp [voiceL, hv]
      rw [e]
      refine goodG_cons.2 ⟨h1, h2, fun i hi => ?_, ih⟩
      obtain ⟨j, j1, j2, -⟩ := el_voice hi
      rw [j2]
      exact h3 j j1
    · have e : voiceL (g :: l) v = voiceL l v := by simp [voiceL, hv]
      rw [e]
      exact ih
end Go.Proofs.Ytimijeeihicohaa

namespace Go.Proofs.Ytimijeeihicohaa
open Go.RowKit
set_option linter.unusedVariables false
set_option linter.unusedSimpArgs false
set_option maxRecDepth 100000
attribute [local simp] List.getElem?_cons_zero
attribute [local irreducible] awCond awCall awLoop awDraw ow retQ retC resQ Keeps
theorem smp_eq {x y : Int} (h : (x - y) % 4294967296 = 0) : smp x = smp y := by unfold smp; omega
theorem smp_wrap (x : Int) : smp (IntKind.i64.wrap x) = smp x := by
  rw [IntKind.wrap_i64]
  unfold smp
  omega
def inV (x : Node) (fr vals : List Int) : List Int := if x.k = 1 then [el fr x.a.toNat] else x.from_.map fun f => el vals f.toNat
def lookV (t : List Int) (x : Int) : Int := el t (t.length * (x % 4294967296) / 4294967296).toNat
def noiseV (s : Int) : Int := if s % 2 = 1 then smp ((((s % 4294967296) / 2).toNat ^^^ 2734686208 : Nat) : Int) else smp ((s % 4294967296) / 2)
def outV (x : Node) (tabs : List (List Int)) (i s : List Int) : Int :=
  if x.k = 1 then el i 0 else if x.k = 2 then x.a else if x.k = 3 then smp (el i 0 + el i 1) else if x.k = 4 then smp (el i 0 - el i 1)
  else if x.k = 5 then smp (x.a * el i 0) else if x.k = 6 then el s 0 else if x.k = 7 then smp (el s 0 + el i 0) else if x.k = 8 then smp (el i 0 - el s 0)
  else if x.k = 9 then smp (el i 0 * el i 1) else if x.k = 10 then el i 0 / 2 ^ x.a.toNat else if x.k = 11 then max (-x.a) (min x.a (el i 0))
  else if x.k = 12 then el s 0 else if x.k = 13 then lookV (el tabs x.a.toNat) (el i 0) else if x.k = 14 then el s 0
  else if x.k = 15 then (if 0 ≤ el i 0 then el i 1 else el i 2) else if x.k = 16 then (if 0 < el i 1 then el i 0 else el s 0)
  else smp (el i 0 + x.a * el s 0)
def nextV (x : Node) (i s : List Int) (out : Int) : List Int :=
  if x.k = 6 then s.drop 1 ++ [el i 0] else if x.k = 17 then s.drop 1 ++ [out] else if x.k = 7 ∨ x.k = 16 then [out] else if x.k = 8 then [el i 0]
  else if x.k = 12 then [smp (el s 0 + el i 0)] else if x.k = 14 then [noiseV (el s 0)] else []
def startV (x : Node) : List Int :=
  if x.k = 6 then List.replicate x.a.toNat 0 else if x.k = 17 then List.replicate x.b.toNat 0 else if x.k = 7 ∨ x.k = 8 ∨ x.k = 16 then [0]
  else if x.k = 12 ∨ x.k = 14 then [x.a] else []
/-- The values of the nodes in a frame, when q nodes of an order are done. -/
def curV (p : Patch) (O : List Int) (cs : List (List Int)) (fr v0 : List Int) : Nat → List Int
  | 0 => v0
  | q + 1 => (curV p O cs fr v0 q).set (el O q).toNat (outV (el p.nodes (el O q).toNat) p.tabs (inV (el p.nodes (el O q).toNat) fr (curV p O cs fr v0 q)) (el cs (el O q).toNat))
theorem curV_len {p : Patch} {O : List Int} {cs : List (List Int)} {fr v0 : List Int} : ∀ q, (curV p O cs fr v0 q).length = v0.length
  | 0 => rfl
  | q + 1 => by rw [curV, List.length_set, curV_len q]
def valsV (p : Patch) (cs : List (List Int)) (fr : List Int) : List Int := curV p (ordL p.nodes) cs fr (List.replicate p.nodes.length 0) p.nodes.length
def nextC (p : Patch) (cs : List (List Int)) (fr V : List Int) : List (List Int) := (List.range p.nodes.length).map fun k => nextV (el p.nodes k) (inV (el p.nodes k) fr V) (el cs k) (el V k)
structure OrdOk (ns : List Node) (O : List Int) : Prop where
  idx : ∀ q, q < O.length → ∃ i : Nat, el O q = i ∧ i < ns.length
  nodup : ∀ q r, q < O.length → r < O.length → el O q = el O r → q = r
  clos : ∀ q, q < O.length → ∀ f, f ∈ waits (el ns (el O q).toNat) → ∃ r, r < q ∧ el O r = f
theorem OrdOk.nil (ns : List Node) : OrdOk ns [] := ⟨fun q h => by simp at h, fun q r h => by simp at h, fun q h => by simp at h⟩
theorem ordT_ok {ns : List Node} (hx : ∀ y, y ∈ ns → idxB ns.length y.from_ = true) : ∀ (m : Nat) (tk : List Bool) (out : List Int), TkOut ns tk out → OrdOk ns out → OrdOk ns (ordT ns m tk out)
  | 0, tk, out, _, h => h
  | m + 1, tk, out, ht, h => by
    rw [ordT]
    cases hn : nextT ns tk with
    | none => exact h
    | some i =>
      have hf := List.find?_some hn
      have hi : i < ns.length := List.mem_range.1 (List.mem_of_find?_eq_some hn)
      have hw : ∀ k, k < (waits (el ns i)).length → ∃ f : Nat, el (waits (el ns i)) k = f ∧ f < ns.length := fun k hk => by
        obtain ⟨f, h1, h2⟩ := waits_idx (hx _ (el_mem hi)) hk
        exact ⟨f, h1, by omega⟩
      rw [ht.rdy hi hw] at hf
      simp only [Bool.and_eq_true, Bool.not_eq_true', decide_eq_false_iff_not, List.all_eq_true, decide_eq_true_eq] at hf
      have hmem : ∀ y, y ∈ out → ∃ r, r < out.length ∧ el out r = y := fun y hy => by
        obtain ⟨r, hr, rfl⟩ := List.getElem_of_mem hy
        exact ⟨r, hr, (el_eq hr).symm⟩
      have hl : ∀ q, q < out.length → el (out ++ [(i : Int)]) q = el out q := fun q hq => el_append_left hq
      have hlast : el (out ++ [(i : Int)]) out.length = i := by rw [el_append_right (Nat.le_refl _), Nat.sub_self]; rfl
      refine ordT_ok hx m _ _ (ht.next hi) ⟨fun q hq => ?_, fun q r hq hr e => ?_, fun q hq f hf' => ?_⟩
      · simp at hq
        by_cases hq' : q < out.length
        · rw [hl q hq']; exact h.idx q hq'
        · obtain rfl : q = out.length := by omega
          exact ⟨i, hlast, hi⟩
      · simp at hq hr
        by_cases hq' : q < out.length
        · by_cases hr' : r < out.length
          · rw [hl q hq', hl r hr'] at e
            exact h.nodup q r hq' hr' e
          · obtain rfl : r = out.length := by omega
            rw [hlast, hl q hq'] at e
            exact absurd (e ▸ el_mem hq') hf.1
        · obtain rfl : q = out.length := by omega
          by_cases hr' : r < out.length
          · rw [hlast, hl r hr'] at e
            exact absurd (e ▸ el_mem hr') hf.1
          · omega
      · simp at hq
        by_cases hq' : q < out.length
        · rw [hl q hq'] at hf'
          obtain ⟨r, h1, h2⟩ := h.clos q hq' f hf'
          exact ⟨r, h1, by rw [hl r (by omega)]; exact h2⟩
        · obtain rfl : q = out.length := by omega
          rw [hlast] at hf'
          obtain ⟨r, h1, h2⟩ := hmem f (hf.2 f (by simpa using hf'))
          exact ⟨r, h1, by rw [hl r h1]; exact h2⟩
theorem ordL_ok {ns : List Node} (hx : ∀ y, y ∈ ns → idxB ns.length y.from_ = true) : OrdOk ns (ordL ns) := ordT_ok hx _ _ _ (.nil ns) (.nil ns)
theorem ordT_tk {ns : List Node} : ∀ (m : Nat) (tk : List Bool) (out : List Int), TkOut ns tk out → tk.count false + out.length = ns.length → ∃ tk', TkOut ns tk' (ordT ns m tk out) ∧ tk'.count false + (ordT ns m tk out).length = ns.length
  | 0, tk, out, h, hc => ⟨tk, h, hc⟩
  | m + 1, tk, out, h, hc => by
    rw [ordT]
    cases hn : nextT ns tk with
    | none => exact ⟨tk, h, hc⟩
    | some i =>
      have hf := List.find?_some hn
      have hi : i < ns.length := List.mem_range.1 (List.mem_of_find?_eq_some hn)
      have := count_set_true (by rw [h.len]; exact hi) (rdyT_free hf)
      exact ordT_tk m _ _ (h.next hi) (by simp; omega)
/-- All indices stand in a whole order. -/
theorem ordL_all {ns : List Node} (hl : (ordL ns).length = ns.length) : ∀ i, i < ns.length → ∃ q, q < ns.length ∧ el (ordL ns) q = (i : Int) := by
  intro i hi
  obtain ⟨tk, h1, h2⟩ := ordT_tk ns.length (List.replicate ns.length false) [] (.nil ns) (by simp)
  have h2' : tk.count false = 0 := by
    have h3 : tk.count false + (ordL ns).length = ns.length := h2
    omega
  have h4 : el tk i = true := by
    cases hb : el tk i with
    | true => rfl
    | false => have := count_pos (by rw [h1.len]; exact hi) hb; omega
  obtain ⟨q, hq, e⟩ := List.getElem_of_mem ((h1.iff i hi).1 h4)
  have hq' : q < (ordL ns).length := hq
  exact ⟨q, by omega, by rw [← el_eq hq']; exact e⟩
theorem el_set_same {α : Type} [Inhabited α] {l : List α} {i : Nat} (a : α) (h : i < l.length) : el (l.set i a) i = a := by simp [el, h]
theorem el_set_other {α : Type} [Inhabited α] {l : List α} {i j : Nat} (a : α) (h : i ≠ j) : el (l.set i a) j = el l j := by simp [el, List.getElem?_set_ne h]
section
variable {p : Patch} {O : List Int} {cs : List (List Int)} {fr v0 v0' : List Int}
theorem outV_congr {x : Node} {tabs : List (List Int)} {s v v' : List Int} (h : ∀ f, f ∈ waits x → el v f.toNat = el v' f.toNat) : outV x tabs (inV x fr v) s = outV x tabs (inV x fr v') s := by
  by_cases h6 : x.k = 6
  · simp [outV, h6]
  · have : inV x fr v = inV x fr v' := by
      unfold inV
      split
      · rfl
      · apply List.map_congr_left
        intro f hf
        exact h f (by unfold waits; rw [if_neg h6]; exact hf)
    rw [this]
theorem inV_congr {x : Node} {v v' : List Int} (h6 : x.k ≠ 6) (h : ∀ f, f ∈ waits x → el v f.toNat = el v' f.toNat) : inV x fr v = inV x fr v' := by
  unfold inV
  split
  · rfl
  · apply List.map_congr_left
    intro f hf
    exact h f (by unfold waits; rw [if_neg h6]; exact hf)
theorem cur_agree (h : OrdOk p.nodes O) (h1 : v0.length = p.nodes.length) (h2 : v0'.length = p.nodes.length) : ∀ q, q ≤ O.length → ∀ s, s < q → el (curV p O cs fr v0 q) (el O s).toNat = el (curV p O cs fr v0' q) (el O s).toNat
  | 0, _, s, hs => by omega
  | q + 1, hq, s, hs => by
    obtain ⟨i, hi, hil⟩ := h.idx q (by omega)
    obtain ⟨j, hj, hjl⟩ := h.idx s (by omega)
    by_cases e : s = q
    · subst e
      rw [curV, curV, el_set_same _ (by rw [curV_len, hi]; simpa [h1] using hil), el_set_same _ (by rw [curV_len, hi]; simpa [h2] using hil)]
      refine outV_congr fun f hf => ?_
      obtain ⟨r, hr, rfl⟩ := h.clos s (by omega) f hf
      exact cur_agree h h1 h2 s (by omega) r hr
    · have hne : (el O q).toNat ≠ (el O s).toNat := fun hh => by
        have := h.nodup q s (by omega) (by omega) (by rw [hi, hj] at hh ⊢; simp at hh; omega)
        omega
      rw [curV, curV, el_set_other _ hne, el_set_other _ hne]
      exact cur_agree h h1 h2 q (by omega) s (by omega)
theorem cur_keep (h : OrdOk p.nodes O) {q s : Nat} (hs : s < q) : ∀ r, q + r ≤ O.length → el (curV p O cs fr v0 (q + r)) (el O s).toNat = el (curV p O cs fr v0 q) (el O s).toNat
  | 0, _ => rfl
  | r + 1, hr => by
    obtain ⟨i, hi, hil⟩ := h.idx (q + r) (by omega)
    obtain ⟨j, hj, hjl⟩ := h.idx s (by omega)
    have hne : (el O (q + r)).toNat ≠ (el O s).toNat := fun hh => by
      have := h.nodup (q + r) s (by omega) (by omega) (by rw [hi, hj] at hh ⊢; simp at hh; omega)
      omega
    rw [← Nat.add_assoc, curV, el_set_other _ hne]
    exact cur_keep h hs r (by omega)
/-- Whatever the values were before, a whole order sets them all. -/
theorem cur_vals (hx : ∀ y, y ∈ p.nodes → idxB p.nodes.length y.from_ = true) (hl : (ordL p.nodes).length = p.nodes.length) (h1 : v0.length = p.nodes.length) : curV p (ordL p.nodes) cs fr v0 p.nodes.length = valsV p cs fr := by
  have ho := ordL_ok hx
  apply List.ext_getElem
  · rw [curV_len, valsV, curV_len, h1]; simp
  · intro i a b
    rw [curV_len, h1] at a
    obtain ⟨q, hq, e⟩ := ordL_all hl i a
    have := cur_agree (cs := cs) (fr := fr) ho h1 (v0' := List.replicate p.nodes.length 0) (by simp) p.nodes.length (by omega) q hq
    rw [e] at this
    rw [el_eq, el_eq]
    simpa [valsV] using this
/-- What a node gets in its turn is what it gets at the end. -/
theorem cur_in (hx : ∀ y, y ∈ p.nodes → idxB p.nodes.length y.from_ = true) (hl : (ordL p.nodes).length = p.nodes.length) (h1 : v0.length = p.nodes.length) {q : Nat} (hq : q < p.nodes.length) (h6 : (el p.nodes (el (ordL p.nodes) q).toNat).k ≠ 6) :
    inV (el p.nodes (el (ordL p.nodes) q).toNat) fr (curV p (ordL p.nodes) cs fr v0 q) = inV (el p.nodes (el (ordL p.nodes) q).toNat) fr (valsV p cs fr) := by
  have ho := ordL_ok hx
  refine inV_congr h6 fun f hf => ?_
  obtain ⟨r, hr, rfl⟩ := ho.clos q (by omega) f hf
  have := cur_keep (v0 := v0) (cs := cs) (fr := fr) ho hr (p.nodes.length - q) (by omega)
  rw [show q + (p.nodes.length - q) = p.nodes.length by omega, cur_vals hx hl h1] at this
  exact this.symm
theorem cur_out (hx : ∀ y, y ∈ p.nodes → idxB p.nodes.length y.from_ = true) (hl : (ordL p.nodes).length = p.nodes.length) (h1 : v0.length = p.nodes.length) {q : Nat} (hq : q < p.nodes.length) :
    outV (el p.nodes (el (ordL p.nodes) q).toNat) p.tabs (inV (el p.nodes (el (ordL p.nodes) q).toNat) fr (curV p (ordL p.nodes) cs fr v0 q)) (el cs (el (ordL p.nodes) q).toNat) = el (valsV p cs fr) (el (ordL p.nodes) q).toNat := by
  have ho := ordL_ok hx
  obtain ⟨i, hi, hil⟩ := ho.idx q (by omega)
  have := cur_keep (v0 := v0) (cs := cs) (fr := fr) ho (Nat.lt_succ_self q) (p.nodes.length - (q + 1)) (by omega)
  rw [show q + 1 + (p.nodes.length - (q + 1)) = p.nodes.length by omega, cur_vals hx hl h1, curV, el_set_same _ (by rw [curV_len, hi, h1]; simpa using hil)] at this
  exact this.symm
end
def frameV (ins : List (List Int)) (t : Nat) : List Int := ins.map fun s => atL s t
/-- The output and the state after some frames. -/
def rendS (p : Patch) (ins : List (List Int)) : Nat → List Int × List (List Int)
  | 0 => ([], p.nodes.map startV)
  | t + 1 => ((rendS p ins t).1 ++ [el (valsV p (rendS p ins t).2 (frameV ins t)) (el p.outs 0).toNat], nextC p (rendS p ins t).2 (frameV ins t) (valsV p (rendS p ins t).2 (frameV ins t)))
theorem rendS_len {p : Patch} {ins : List (List Int)} : ∀ t, (rendS p ins t).1.length = t
  | 0 => rfl
  | t + 1 => by rw [rendS, List.length_append, rendS_len t]; rfl
/-- The state has the right form. -/
def okCs (p : Patch) (cs : List (List Int)) : Prop := cs.length = p.nodes.length ∧ ∀ k, k < p.nodes.length → (el cs k).length = (startV (el p.nodes k)).length
structure NodeOk (p : Patch) (x : Node) : Prop where
  kind : 1 ≤ x.k ∧ x.k ≤ 17
  one : x.k = 5 ∨ x.k = 6 ∨ x.k = 7 ∨ x.k = 8 ∨ x.k = 10 ∨ x.k = 11 ∨ x.k = 12 ∨ x.k = 13 ∨ x.k = 17 → x.from_.length = 1
  two : x.k = 3 ∨ x.k = 4 ∨ x.k = 9 ∨ x.k = 16 → x.from_.length = 2
  three : x.k = 15 → x.from_.length = 3
  zero : x.k = 1 ∨ x.k = 2 ∨ x.k = 14 → x.from_.length = 0
  inp : x.k = 1 → 0 ≤ x.a ∧ x.a < p.inp
  del : x.k = 6 → 1 ≤ x.a ∧ x.a ≤ 16
  shift : x.k = 10 → 0 ≤ x.a ∧ x.a ≤ 31
  clip : x.k = 11 → 0 ≤ x.a ∧ x.a ≤ 2147483647
  tab : x.k = 13 → 0 ≤ x.a ∧ x.a < p.tabs.length
  comb : x.k = 17 → 1 ≤ x.b ∧ x.b ≤ 16
  idx : idxB p.nodes.length x.from_ = true
theorem nodeF_ok {p : Patch} {x : Node} (h : nodeF p x = true) : NodeOk p x := by
  unfold nodeF nodeB at h
  simp only [Bool.and_eq_true, Bool.not_eq_true', Bool.and_eq_false_iff, decide_eq_false_iff_not] at h
  obtain ⟨⟨h1, h2, h3, h4⟩, h5, h6⟩ := h
  have hk := inB_iff.1 h1
  unfold endB at h4
  unfold numB at h2
  simp only [Bool.and_eq_true, Bool.or_eq_true, decide_eq_true_eq] at h4
  have hc : x.k = 1 ∨ x.k = 2 ∨ x.k = 3 ∨ x.k = 4 ∨ x.k = 5 ∨ x.k = 6 ∨ x.k = 7 ∨ x.k = 8 ∨ x.k = 9 ∨ x.k = 10 ∨ x.k = 11 ∨ x.k = 12 ∨ x.k = 13 ∨ x.k = 14 ∨ x.k = 15 ∨ x.k = 16 ∨ x.k = 17 := by omega
  rcases hc with e | e | e | e | e | e | e | e | e | e | e | e | e | e | e | e | e <;> simp [kOf, e, kindsL, el, hasAB, inB] at h2 h4 h6 <;> refine ⟨hk, ?_, ?_, ?_, ?_, ?_, ?_, ?_, ?_, ?_, ?_, h5⟩ <;> (intro hh; first | omega | simp_all)
theorem next_len {p : Patch} {x : Node} (h : NodeOk p x) {i s : List Int} {o : Int} (hs : s.length = (startV x).length) : (nextV x i s o).length = (startV x).length := by
  have h6 := h.del
  have h17 := h.comb
  unfold nextV startV at *
  by_cases e6 : x.k = 6
  · have := h6 e6
    simp [e6] at hs ⊢; omega
  by_cases e17 : x.k = 17
  · have := h17 e17
    simp [e17] at hs ⊢; omega
  by_cases e7 : x.k = 7 ∨ x.k = 16
  · have e : x.k = 7 ∨ x.k = 8 ∨ x.k = 16 := by omega
    simp [e6, e17, e7, e]
  by_cases e8 : x.k = 8
  · simp [e8]
  by_cases e12 : x.k = 12
  · simp [e12]
  by_cases e14 : x.k = 14
  · simp [e14]
  have n1 : ¬ (x.k = 7 ∨ x.k = 8 ∨ x.k = 16) := by omega
  have n2 : ¬ (x.k = 12 ∨ x.k = 14) := by omega
  simp [e6, e17, e7, e8, e12, e14, n1, n2]
theorem nextC_ok {p : Patch} (hn : ∀ y, y ∈ p.nodes → NodeOk p y) {cs : List (List Int)} {fr V : List Int} (h : okCs p cs) : okCs p (nextC p cs fr V) := by
  refine ⟨by simp [nextC], fun k hk => ?_⟩
  have : el (nextC p cs fr V) k = nextV (el p.nodes k) (inV (el p.nodes k) fr V) (el cs k) (el V k) := by simp [nextC, el, hk]
  rw [this]
  exact next_len (hn _ (el_mem hk)) (h.2 k hk)
theorem rendS_ok {p : Patch} (hn : ∀ y, y ∈ p.nodes → NodeOk p y) {ins : List (List Int)} : ∀ t, okCs p (rendS p ins t).2
  | 0 => ⟨by simp [rendS], fun k hk => by simp [rendS, el, hk]⟩
  | t + 1 => nextC_ok hn (rendS_ok hn t)
end Go.Proofs.Ytimijeeihicohaa
