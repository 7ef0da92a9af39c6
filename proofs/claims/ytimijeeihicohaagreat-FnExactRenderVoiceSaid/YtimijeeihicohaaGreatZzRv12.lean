/- Parts of the proof, together: Nodes and patches: the reference's tests. Patches: the reference's test of their form. Patches and instruments: the reference's order, its test of instruments. Increments of keys. Clip: records in memory, and the laws' helpers on them. Track: a struct that holds a slice of records. Tracks: is one valid. Rows of records in which one is set. Sources and samples. No conditions. -/
import Derived.Test.YtimijeeihicohaaGreatZzRv11
import Derived.Laws.BitsLemmas
import Derived.Test.YtimijeeihicohaaGreatZzRv9
import Derived.Laws.StructEq
import Derived.Test.YtimijeeihicohaaGreatZzRv8
namespace Go.Proofs.YtimijeeihicohaaGreat
open Go.RowKit
set_option linter.unusedVariables false
set_option linter.unusedSimpArgs false
set_option maxRecDepth 100000
attribute [local simp] List.getElem?_cons_zero
attribute [local irreducible] awCond awCall awLoop awDraw ow retQ retC resQ Keeps
theorem l00Min_t {M : Mem} (a b : Int) : Det Tryz.prog M.length 232 [iv a, iv b] M (iv (min a b)) M := by
  first | (refine det_fn Tryz.func232 rfl Tryz.ntmps232 Tryz.results232 rfl rfl rfl (by simp) ?_) | (refine det_fnC Tryz.func232 rfl Tryz.ntmps232 Tryz.results232 rfl rfl (by simp) ?_)
  simp
  by_cases h : a < b
  · simp [h, Keeps.refl]; omega
  · simp [h, Keeps.refl]; omega
theorem l00Max_v {M : Mem} (a b : Int) : Det Tryz.prog M.length 151 [iv a, iv b] M (iv (max a b)) M := by
  first | (refine det_fn Tryz.func151 rfl Tryz.ntmps151 Tryz.results151 rfl rfl rfl (by simp) ?_) | (refine det_fnC Tryz.func151 rfl Tryz.ntmps151 Tryz.results151 rfl rfl (by simp) ?_)
  simp
  by_cases h : b < a
  · simp [h, Keeps.refl]; omega
  · simp [h, Keeps.refl]; omega
theorem fill10I (a b c d e f g h i j : Int) : Instr.fill (fun i => some (i, 1)) (zrow [iv 0] 10).toArray [(0, iv a), (1, iv b), (2, iv c), (3, iv d), (4, iv e), (5, iv f), (6, iv g), (7, iv h), (8, iv i), (9, iv j)] = some #[iv a, iv b, iv c, iv d, iv e, iv f, iv g, iv h, iv i, iv j] := by
  have := fill_recs intR [a, b, c, d, e, f, g, h, i, j] (n := 10) (z := [iv 0]) (by omega) rfl rfl
  simp [Instr.fill, Value.cells, zrow]
theorem l06HasA_s {M : Mem} (z : Int) : Det Tryz.prog M.length 239 [iv z] M (.bool (decide (z ∈ hasAL))) M := by
  first | (refine det_fn Tryz.func239 rfl Tryz.ntmps239 Tryz.results239 rfl rfl rfl (by simp) ?_) | (refine det_fnC Tryz.func239 rfl Tryz.ntmps239 Tryz.results239 rfl rfl (by simp) ?_)
  simp [fill10I]
  have hd := l00Has_s z (lit_slv (M := M) (n := 10) (l := hasAL) (cs := [iv 1, iv 2, iv 5, iv 6, iv 10, iv 11, iv 12, iv 13, iv 14, iv 17]) (e := 2) rfl rfl (by omega))
  refine awCall_det' hd (by simp) ?_
  simp [keeps_app]
theorem fill18I : Instr.fill (fun i => some (i, 1)) (zrow [iv 0] 18).toArray [(0, iv (-1)), (1, iv 0), (2, iv 0), (3, iv 2), (4, iv 2), (5, iv 1), (6, iv 1), (7, iv 1), (8, iv 1), (9, iv 2), (10, iv 1), (11, iv 1), (12, iv 1), (13, iv 1), (14, iv 0), (15, iv 3), (16, iv 2), (17, iv 1)] = some #[iv (-1), iv 0, iv 0, iv 2, iv 2, iv 1, iv 1, iv 1, iv 1, iv 2, iv 1, iv 1, iv 1, iv 1, iv 0, iv 3, iv 2, iv 1] := by
  simp [Instr.fill, Value.cells, zrow]
theorem l06Arity_s {M : Mem} (z : Int) (hz : inB z 1 17 = true) : Det Tryz.prog M.length 227 [iv z] M (iv (el arityL z.toNat)) M := by
  have hz' := inB_iff.1 hz
  obtain ⟨k, rfl⟩ := Int.eq_ofNat_of_zero_le (show 0 ≤ z by omega)
  have hk : k < 18 := by omega
  have hk' : (k : Int) < 18 := by omega
  have hg : (cellsL intR arityL)[k]? = some (iv (el arityL k)) := by
    have := cellsL_get intR (l := arityL) (i := k) (j := 0) hk (by omega)
    rw [Nat.mul_one, Nat.add_zero] at this
    rw [this]; rfl
  replace hg : ([iv (-1), iv 0, iv 0, iv 2, iv 2, iv 1, iv 1, iv 1, iv 1, iv 2, iv 1, iv 1, iv 1, iv 1, iv 0, iv 3, iv 2, iv 1] : List Value)[k]? = some (iv (el arityL k)) := hg
  first | (refine det_fn Tryz.func227 rfl Tryz.ntmps227 Tryz.results227 rfl rfl rfl (by simp) ?_) | (refine det_fnC Tryz.func227 rfl Tryz.ntmps227 Tryz.results227 rfl rfl (by simp) ?_)
  simp only [Int.toNat_natCast]
  generalize el arityL k = y at hg ⊢
  simp (disch := omega) [fill18I, hk']
  obtain ⟨_, e⟩ := List.getElem?_eq_some_iff.1 hg
  exact ⟨e, keeps_app _⟩
set_option maxHeartbeats 1000000 in
theorem l06A_s {M : Mem} {id off : Nat} {x : Node} {u : Value} (t : Int) (ht : 0 ≤ t) (ht' : t ≤ 1099511627776) (hc : Cl M id off [iv x.k, iv x.a, iv x.b, u]) : Det Tryz.prog M.length 226 [.pointer (some ⟨id, off, none⟩), iv t] M (.bool (aB x t)) M := by
  have c0 : cellAt M id off = some (iv x.k) := hc 0 _ rfl
  have c1 : cellAt M id (off + 1) = some (iv x.a) := hc 1 _ rfl
  unfold aB
  first | (refine det_fn Tryz.func226 rfl Tryz.ntmps226 Tryz.results226 rfl rfl rfl (by simp) ?_) | (refine det_fnC Tryz.func226 rfl Tryz.ntmps226 Tryz.results226 rfl rfl (by simp) ?_)
  simp (disch := omega) [c0]
  by_cases k1 : x.k = 1
  · simp (disch := omega) [k1, c1]
    refine awCall_det' (l00In_a _ _ _) (Nat.le_refl _) ?_
    simp [Keeps.refl]
  by_cases k6 : x.k = 6
  · simp (disch := omega) [k6, c1]
    refine awCall_det' (l00In_a _ _ _) (Nat.le_refl _) ?_
    simp [Keeps.refl]
  by_cases k10 : x.k = 10
  · simp (disch := omega) [k10, c1]
    refine awCall_det' (l00In_a _ _ _) (Nat.le_refl _) ?_
    simp [Keeps.refl]
  by_cases k11 : x.k = 11
  · simp (disch := omega) [k11, c1]
    refine awCall_det' (l00In_a _ _ _) (Nat.le_refl _) ?_
    simp [Keeps.refl]
  by_cases k13 : x.k = 13
  · simp (disch := omega) [k13]
    refine awDraw_E 8 [[],[0],[1,0],[2,1,0],[],[4],[5,4],[6,5,4],[3,2,1,0,7,6,5,4],[8,3,2,1,0,7,6,5,4]] (by kernel_rfl) (by kernel_rfl) ?_
    simp (disch := omega) [c1]
    refine awCall_det' (l00Max_v t 0) (Nat.le_refl _) ?_
    simp
    refine awCall_det' (l00Min_t (max t 0) 4) (Nat.le_refl _) ?_
    simp (disch := omega) [wrap_in]
    refine awCall_det' (l00In_a x.a 0 (min (max t 0) 4 - 1)) (Nat.le_refl _) ?_
    simp [Keeps.refl, k13]
  simp (disch := omega) [k1, k6, k10, k11, k13, c0]
  refine awCall_det' (l06HasA_s x.k) (Nat.le_refl _) ?_
  by_cases hA : x.k ∈ hasAL
  · simp (disch := omega) [hA, c1]
    refine awCall_det' (l01Sample_a x.a) (Nat.le_refl _) ?_
    simp [Keeps.refl, sampleB, k1, k6, k10, k11, k13]
  · simp (disch := omega) [hA, c1, Keeps.refl, k1, k6, k10, k11, k13]
set_option maxHeartbeats 1000000 in
theorem l06Ok_s {M : Mem} {lo hi id off : Nat} {us : List Value} {x : Node} (t : Int) (ht : 0 ≤ t) (ht' : t ≤ 1099511627776) (h : nodeP.rd lo hi M x us) (hc : Cl M id off us) : Det Tryz.prog M.length 198 [.pointer (some ⟨id, off, none⟩), iv t] M (.bool (nodeB2 x t)) M := by
  obtain ⟨u, rfl, hu⟩ := h
  have hc4 := hc
  obtain ⟨A, n, c, rfl, h1, h2, h3⟩ := hu
  have hl := h3.1
  replace h3 := h3.sl
  have c0 : cellAt M id off = some (iv x.k) := hc 0 _ rfl
  have c2 : cellAt M id (off + 2) = some (iv x.b) := hc 2 _ rfl
  have c3 : cellAt M id (off + 3) = some (.slice A n c) := hc 3 _ rfl
  have kind : Det Tryz.prog M.length 225 [iv x.k] M (.bool (inB x.k 1 17)) M := by
    first | (refine det_fn Tryz.func225 rfl Tryz.ntmps225 Tryz.results225 rfl rfl rfl (by simp) ?_) | (refine det_fnC Tryz.func225 rfl Tryz.ntmps225 Tryz.results225 rfl rfl (by simp) ?_)
    simp
    refine awCall_det' (l00In_a _ _ _) (by simp) ?_
    simp [Keeps.refl]
  first | (refine det_fn Tryz.func198 rfl Tryz.ntmps198 Tryz.results198 rfl rfl rfl (by simp) ?_) | (refine det_fnC Tryz.func198 rfl Tryz.ntmps198 Tryz.results198 rfl rfl (by simp) ?_)
  simp
  refine awDraw_E 23 [[],[0],[1,0],[2,1,0],[3,2,1,0],[4,3,2,1,0],[5,4,3,2,1,0],[6,5,4,3,2,1,0],[6,5,4,3,2,1,0],[7,6,5,4,3,2,1,0,8],[9,7,6,5,4,3,2,1,0,8],[6,5,4,3,2,1,0,10,9,7,8],[11,6,5,4,3,2,1,0,10,9,7,8],[12,11,6,5,4,3,2,1,0,10,9,7,8],[13,12,11,6,5,4,3,2,1,0,10,9,7,8],[14,13,12,11,6,5,4,3,2,1,0,10,9,7,8],[15,14,13,12,11,6,5,4,3,2,1,0,10,9,7,8],[16,15,14,13,12,11,6,5,4,3,2,1,0,10,9,7,8],[12,11,6,5,4,3,2,1,0,10,9,7,8],[18,12,11,6,5,4,3,2,1,0,10,9,7,8],[19,18,12,11,6,5,4,3,2,1,0,10,9,7,8],[20,19,18,12,11,6,5,4,3,2,1,0,10,9,7,8],[21,20,19,18,12,11,6,5,4,3,2,1,0,10,9,7,8],[17,16,15,14,13,12,11,6,5,4,3,2,1,0,10,9,7,8,22,21,20,19,18],[12,11,6,5,4,3,2,1,0,10,9,7,8,23,17,16,15,14,13,22,21,20,19,18]] (by kernel_rfl) (by kernel_rfl) ?_
  simp (disch := omega) [c0]
  refine awCall_det' kind (Nat.le_refl _) ?_
  by_cases hk : inB x.k 1 17 = true
  case neg =>
    rw [Bool.not_eq_true] at hk
    simp [hk, Keeps.refl, nodeB2]
  simp [hk]
  refine awCall_det' (l06A_s t ht ht' hc4) (Nat.le_refl _) ?_
  by_cases ha : aB x t = true
  case neg =>
    rw [Bool.not_eq_true] at ha
    simp [ha, hk, Keeps.refl, nodeB2]
  simp (disch := omega) [ha, c3, c0]
  refine awCall_det' (l06Arity_s x.k hk) (Nat.le_refl _) ?_
  by_cases har : (n : Int) = el arityL x.k.toNat
  case neg => simp [ha, hk, har, Keeps.refl, nodeB2, hl]
  have key : nodeB2 x t = (x.from_.all (fun f => inB f 0 23) && if x.k = 17 then inB x.b 1 16 else decide (x.b = 0)) := by
    unfold nodeB2
    rw [hk, ha, hl, decide_eq_true har]
    rfl
  rw [key]
  clear key
  generalize hB : (x.from_.all (fun f => inB f 0 23) && if x.k = 17 then inB x.b 1 16 else decide (x.b = 0)) = B
  simp [har]
  refine awLoop_T (fun m T M' => ∃ k : Nat, k + m = n ∧ M' = M ∧ look T 5 = some (iv k) ∧ look T 0 = some (.pointer (some ⟨id, off, none⟩)) ∧ ∀ i, i < k → inB (el x.from_ i) 0 23 = true) n ⟨0, by omega, rfl, by simp, by simp, fun i hi => by omega⟩ ?_
  rintro m T M' ⟨k, hm, rfl, t5, t0, hkk⟩
  by_cases hlt : k < n
  · obtain ⟨id', off', rfl, he, hc'⟩ := h3.at_ hlt
    have c1 := int_cell hc'
    simp only [Nat.mul_one] at c1
    simp (disch := omega) [t5, t0, c3, hlt, c1, he]
    refine awCall_det' (l00In_a (el x.from_ k) 0 23) (Nat.le_refl _) ?_
    by_cases hs : inB (el x.from_ k) 0 23 = true
    · simp (disch := omega) [hs, t5, t0, wrap_in]
      refine lpI (m - 1) (by omega) ⟨k + 1, by omega, rfl, by simp, by simp [t0], fun i hi => ?_⟩
      by_cases e : i = k
      · rw [e]; exact hs
      · exact hkk i (by omega)
    · rw [Bool.not_eq_true] at hs
      simp [hs]
      exact ⟨by rw [← hB, all_no (p := fun f => inB f 0 23) (show k < x.from_.length by omega) hs]; rfl, Keeps.refl _⟩
  · obtain rfl : k = n := by omega
    have hall : x.from_.all (fun f => inB f 0 23) = true := all_yes fun i hi => hkk i (by omega)
    rw [hall, Bool.true_and] at hB
    by_cases k17 : x.k = 17
    · rw [if_pos k17] at hB
      simp (disch := omega) [t5, t0, c3, c0, k17, c2]
      refine awCall_det' (l00In_a x.b 1 16) (Nat.le_refl _) ?_
      simp [hB, Keeps.refl]
    · rw [if_neg k17] at hB
      simp (disch := omega) [t5, t0, c3, c0, k17, c2, hB, Keeps.refl]
end Go.Proofs.YtimijeeihicohaaGreat

namespace Go.Proofs.YtimijeeihicohaaGreat
open Go.RowKit
set_option linter.unusedVariables false
set_option linter.unusedSimpArgs false
set_option maxRecDepth 100000
attribute [local simp] List.getElem?_cons_zero
attribute [local irreducible] awCond awCall awLoop awDraw ow retQ retC resQ Keeps
def nodeF2 (p : Patch) (x : Node) : Bool := nodeB2 x p.tabs.length && (!(decide (x.k = 1) && decide (p.inp ≤ x.a)) && x.from_.all fun f => decide (f < p.nodes.length))
def formB2 (p : Patch) : Bool := (inB p.inp 0 4 && tablesB p.tabs && decide (p.nodes.length ≤ 24) && decide (p.outs.length ≤ 4)) && (p.nodes.all (nodeF2 p) && idxB p.nodes.length p.outs)
theorem nodeF_eq (p : Patch) (x : Node) : nodeF p x = nodeF2 p x := by
  unfold nodeF nodeF2
  rw [nodeB_eq]
  by_cases hb : nodeB2 x p.tabs.length = true
  case neg => simp [hb]
  have hf : x.from_.all (fun f => inB f 0 23) = true := by
    unfold nodeB2 at hb
    simp only [Bool.and_eq_true] at hb
    exact hb.2.2.2.1
  have e : idxB p.nodes.length x.from_ = x.from_.all fun f => decide (f < p.nodes.length) := by
    unfold idxB
    rw [Bool.eq_iff_iff, List.all_eq_true, List.all_eq_true]
    constructor
    · intro h y hy
      have := inB_iff.1 (h y hy)
      simp; omega
    · intro h y hy
      have h1 := inB_iff.1 (List.all_eq_true.1 hf y hy)
      have h2 := h y hy
      simp at h2
      exact inB_iff.2 (by omega)
  rw [e, hb, Bool.true_and, Bool.true_and, Bool.and_comm]
theorem formB_eq (p : Patch) : formB p = formB2 p := by
  unfold formB formB2
  have e : p.nodes.all (nodeF p) = p.nodes.all (nodeF2 p) := by
    congr 1
    funext x
    exact nodeF_eq p x
  rw [e]
  cases inB p.inp 0 4 <;> cases tablesB p.tabs <;> cases decide (p.nodes.length ≤ 24) <;> cases decide (p.outs.length ≤ 4) <;> cases idxB p.nodes.length p.outs <;> cases p.nodes.all (nodeF2 p) <;> rfl
set_option maxHeartbeats 2000000 in
theorem l07Formed_s {M : Mem} {lo hi id0 off0 : Nat} {us : List Value} {x : Patch} (h : patchP.rd lo hi M x us) (hc0 : Cl M id0 off0 us) : Ctr Tryz.prog M.length 157 [.pointer (some ⟨id0, off0, none⟩)] M fun r M' => r = .bool (formB x) ∧ Keeps M M' := by
  obtain ⟨u1, u2, u3, rfl, hu1, hu2, hu3⟩ := h
  have hu1V := hu1
  obtain ⟨A1, n1, c1, rfl, r1, r2, r3⟩ := hu1
  obtain ⟨A2, n2, c2, rfl, p1, p2, p3⟩ := hu2
  obtain ⟨A3, n3, c3, rfl, q1, q2, q3⟩ := hu3
  have ht := r3.1
  have hn := p3.1
  have ho := q3.1
  have b0 : cellAt M id0 off0 = some (iv x.inp) := hc0 0 _ rfl
  have b1 : cellAt M id0 (off0 + 1) = some (.slice A1 n1 c1) := hc0 1 _ rfl
  have b2 : cellAt M id0 (off0 + 2) = some (.slice A2 n2 c2) := hc0 2 _ rfl
  have b3 : cellAt M id0 (off0 + 3) = some (.slice A3 n3 c3) := hc0 3 _ rfl
  have no : (inB x.inp 0 4 && tablesB x.tabs && decide (x.nodes.length ≤ 24) && decide (x.outs.length ≤ 4)) = false → formB2 x = false := fun h => by unfold formB2; rw [h]; rfl
  rw [hn, ho] at no
  rw [formB_eq]
  first | (refine ctr_fn Tryz.func157 rfl Tryz.ntmps157 Tryz.results157 rfl rfl (by simp) ?_) | (refine ctr_fnC Tryz.func157 rfl Tryz.ntmps157 Tryz.results157 rfl (by simp) ?_)
  simp (disch := omega) [b0, b2]
  refine awCall_det' (l00In_a x.inp 0 4) (by simp) ?_
  by_cases g1 : inB x.inp 0 4 = true
  case neg =>
    rw [Bool.not_eq_true] at g1
    simp [g1]
    exact ⟨no (by rw [g1]; rfl), Keeps.refl _⟩
  simp (disch := omega) [g1, b1]
  refine awCall_det' (l06Tables_s hu1V) (by simp) ?_
  by_cases g2 : tablesB x.tabs = true
  case neg =>
    rw [Bool.not_eq_true] at g2
    simp [g2]
    exact ⟨no (by rw [g2]; simp), Keeps.refl _⟩
  simp [g2]
  by_cases g3 : n2 ≤ 24
  case neg =>
    have g3' : (24 : Int) < n2 := by omega
    simp [g3']
    exact ⟨no (by simp [g3]), Keeps.refl _⟩
  have g3' : ¬ (24 : Int) < n2 := by omega
  by_cases g4 : n3 ≤ 4
  case neg =>
    have g4' : (4 : Int) < n3 := by omega
    simp (disch := omega) [g3', g4', b3]
    exact ⟨no (by simp [g4]), Keeps.refl _⟩
  have g4' : ¬ (4 : Int) < n3 := by omega
  simp (disch := omega) [g3', g4', b3]
  have hts : x.tabs.length ≤ 4 := by
    unfold tablesB at g2
    simp only [Bool.and_eq_true, decide_eq_true_eq] at g2
    exact g2.2
  have key : formB2 x = (x.nodes.all (nodeF2 x) && idxB n2 x.outs) := by unfold formB2; rw [g1, g2, hn, ho]; simp [g3, g4]
  rw [key]
  clear key no
  have bad : ∀ k, k < n2 → nodeF2 x (el x.nodes k) = false → (x.nodes.all (nodeF2 x) && idxB n2 x.outs) = false := fun k hk h => by rw [all_no (by omega) h]; rfl
  generalize hG : (x.nodes.all (nodeF2 x) && idxB n2 x.outs) = G at bad ⊢
  refine awLoop_T (fun m T M' => ∃ k : Nat, k + m = n2 ∧ M' = M ∧ look T 4 = some (iv k) ∧ look T 3 = some (iv n2) ∧ look T 0 = some (.pointer (some ⟨id0, off0, none⟩)) ∧ ∀ i, i < k → nodeF2 x (el x.nodes i) = true) n2 ⟨0, by omega, rfl, by simp, by simp, by simp, fun i hi => by omega⟩ ?_
  rintro m T M1 ⟨k, hm, rfl, t4, t3, t0, hkk⟩
  by_cases hlt : k < n2
  case neg =>
    obtain rfl : k = n2 := by omega
    have hall : x.nodes.all (nodeF2 x) = true := all_yes fun i hi => hkk i (by omega)
    rw [hall, Bool.true_and] at hG
    simp (disch := omega) [t4, t3]
    refine awLoop_T (fun m T M' => ∃ j : Nat, j + m = n3 ∧ M' = M1 ∧ look T 7 = some (iv j) ∧ look T 3 = some (iv k) ∧ look T 0 = some (.pointer (some ⟨id0, off0, none⟩)) ∧ ∀ i, i < j → inB (el x.outs i) 0 (k - 1) = true) n3 ⟨0, by omega, rfl, by simp, by simp [t3], by simp [t0], fun i hi => by omega⟩ ?_
    clear t4 t3 t0 T hkk
    rintro m' T M2 ⟨j, hj, rfl, t7, t3, t0, hjj⟩
    by_cases hlt2 : j < n3
    · obtain ⟨id, off, rfl, he, hc⟩ := q3.sl.at_ hlt2
      have d1 := int_cell hc
      simp only [Nat.mul_one] at d1
      simp (disch := omega) [t7, t3, t0, b3, hlt2, he, d1, wrap_in]
      refine awCall_det' (l00In_a (el x.outs j) 0 (k - 1)) (Nat.le_refl _) ?_
      by_cases hs : inB (el x.outs j) 0 (k - 1) = true
      · simp (disch := omega) [hs, t7, t3, t0, wrap_in]
        refine lpI (m' - 1) (by omega) ⟨j + 1, by omega, rfl, by simp, by simp [t3], by simp [t0], fun i hi => ?_⟩
        by_cases e : i = j
        · rw [e]; exact hs
        · exact hjj i (by omega)
      · rw [Bool.not_eq_true] at hs
        simp [hs]
        exact ⟨by rw [← hG]; exact all_no (p := fun y => inB y 0 ((k : Int) - 1)) (show j < x.outs.length by omega) hs, Keeps.refl _⟩
    · obtain rfl : j = n3 := by omega
      simp (disch := omega) [t7, t0, b3]
      exact ⟨by rw [← hG]; exact all_yes fun i hi => hjj i (by omega), Keeps.refl _⟩
  obtain ⟨id, off, us, rfl, he, hrd, hc⟩ := p3.at_ hlt
  have hrd2 := hrd
  obtain ⟨u, rfl, hu⟩ := hrd2
  obtain ⟨A4, n4, c4, rfl, s1, s2, s3⟩ := hu
  have hfl := s3.1
  replace s3 := s3.sl
  have d0 : cellAt M1 id (off + k * 4) = some (iv (el x.nodes k).k) := hc 0 _ rfl
  have d1 : cellAt M1 id (off + k * 4 + 1) = some (iv (el x.nodes k).a) := hc 1 _ rfl
  have d3 : cellAt M1 id (off + k * 4 + 3) = some (.slice A4 n4 c4) := hc 3 _ rfl
  have kb : nodeF2 x (el x.nodes k) = (nodeB2 (el x.nodes k) n1 && (!(decide ((el x.nodes k).k = 1) && decide (x.inp ≤ (el x.nodes k).a)) && (el x.nodes k).from_.all fun f => decide (f < (n2 : Int)))) := by unfold nodeF2; rw [ht, hn]
  have bad' := bad k hlt
  have next : nodeF2 x (el x.nodes k) = true → ∀ i, i < k + 1 → nodeF2 x (el x.nodes i) = true := fun h i hi => by
    by_cases e : i = k
    · rw [e]; exact h
    · exact hkk i (by omega)
  generalize hy : el x.nodes k = y at *
  simp (disch := omega) [t4, t3, t0, hlt, b2, he]
  refine awDraw_E 23 [[],[],[1],[2,1],[3,2,1],[4,3,2,1],[0,5,4,3,2,1],[6,0,5,4,3,2,1],[7,6,0,5,4,3,2,1],[8,7,6,0,5,4,3,2,1],[9,8,7,6,0,5,4,3,2,1],[10,9,8,7,6,0,5,4,3,2,1],[11,10,9,8,7,6,0,5,4,3,2,1],[12,11,10,9,8,7,6,0,5,4,3,2,1],[13,12,11,10,9,8,7,6,0,5,4,3,2,1],[14,13,12,11,10,9,8,7,6,0,5,4,3,2,1],[15,14,13,12,11,10,9,8,7,6,0,5,4,3,2,1],[16,15,14,13,12,11,10,9,8,7,6,0,5,4,3,2,1],[17,16,15,14,13,12,11,10,9,8,7,6,0,5,4,3,2,1],[14,13,12,11,10,9,8,7,6,0,5,4,3,2,1],[19,14,13,12,11,10,9,8,7,6,0,5,4,3,2,1],[20,19,14,13,12,11,10,9,8,7,6,0,5,4,3,2,1],[21,20,19,14,13,12,11,10,9,8,7,6,0,5,4,3,2,1],[18,17,16,15,14,13,12,11,10,9,8,7,6,0,5,4,3,2,1,22,21,20,19],[14,13,12,11,10,9,8,7,6,0,5,4,3,2,1,23,18,17,16,15,22,21,20,19],[8,7,6,0,5,4,3,2,1,24,14,13,12,11,10,9,23,18,17,16,15,22,21,20,19]] (by kernel_rfl) (by kernel_rfl) ?_
  simp (disch := omega) [t0, b1]
  refine awCall_det' (l06Ok_s n1 (by omega) (by omega) hrd hc) (Nat.le_refl _) ?_
  by_cases f1 : nodeB2 y n1 = true
  case neg =>
    rw [Bool.not_eq_true] at f1
    simp [f1]
    exact ⟨bad' (by rw [kb, f1]; rfl), Keeps.refl _⟩
  have rest : (decide (y.k = 1) && decide (x.inp ≤ y.a)) = false → nodeF2 x y = y.from_.all fun f => decide (f < (n2 : Int)) := fun h => by rw [kb, f1, h]; rfl
  by_cases f4 : (decide (y.k = 1) && decide (x.inp ≤ y.a)) = true
  case pos =>
    have f4' := f4
    simp only [Bool.and_eq_true, decide_eq_true_eq] at f4'
    simp (disch := omega) [f1, f4'.1, f4'.2, d0, d1, b0, t0]
    exact ⟨bad' (by rw [kb, f4]; simp), Keeps.refl _⟩
  rw [Bool.not_eq_true] at f4
  have rest := rest f4
  by_cases f3 : y.k = 1
  case' pos =>
    have f5 : ¬ x.inp ≤ y.a := by simpa [f3] using f4
    simp (disch := omega) [f1, f3, f5, d0, d1, b0, t0]
  case' neg =>
    simp (disch := omega) [f1, f3, d0, d1, b0, t0]
  all_goals
    refine awLoop_T (fun m' T M' => ∃ j : Nat, j + m' = n4 ∧ M' = M1 ∧ look T 6 = some (iv j) ∧ look T 5 = some (.pointer (some ⟨id, off + k * 4, none⟩)) ∧ look T 4 = some (iv k) ∧ look T 3 = some (iv n2) ∧ look T 0 = some (.pointer (some ⟨id0, off0, none⟩)) ∧ ∀ i, i < j → decide (el y.from_ i < (n2 : Int)) = true) n4 ⟨0, by omega, rfl, by simp, by simp, by simp [t4], by simp [t3], by simp [t0], fun i hi => by omega⟩ ?_
    clear t4 t3 t0 T
    rintro m' T M2 ⟨j, hj, rfl, t6, t5, t4, t3, t0, hjj⟩
    by_cases hlt2 : j < n4
    · obtain ⟨id', off', rfl, he', hc'⟩ := s3.at_ hlt2
      have dd := int_cell hc'
      simp only [Nat.mul_one] at dd
      by_cases hs : el y.from_ j < (n2 : Int)
      · have hs' : ¬ (n2 : Int) ≤ el y.from_ j := by omega
        simp (disch := omega) [t6, t5, t3, d3, hlt2, he', dd, hs', wrap_in]
        refine lpI (m' - 1) (by omega) ⟨j + 1, by omega, rfl, by simp, by simp [t5], by simp [t4], by simp [t3], by simp [t0], fun i hi => ?_⟩
        by_cases e : i = j
        · rw [e]; exact decide_eq_true hs
        · exact hjj i (by omega)
      · have hs' : (n2 : Int) ≤ el y.from_ j := by omega
        simp (disch := omega) [t6, t5, t3, d3, hlt2, he', dd, hs']
        exact ⟨bad' (by rw [rest]; exact all_no (p := fun f => decide (f < (n2 : Int))) (show j < y.from_.length by omega) (decide_eq_false hs)), Keeps.refl _⟩
    · obtain rfl : j = n4 := by omega
      have hall : (y.from_.all fun f => decide (f < (n2 : Int))) = true := all_yes fun i hi => hjj i (by omega)
      simp (disch := omega) [t6, t5, d3, t4, wrap_in]
      exact lpI (m - 1) (by omega) ⟨k + 1, by omega, rfl, by simp, by simp [t3], by simp [t0], next (by rw [rest]; exact hall)⟩
theorem l07Formed_d {M : Mem} {lo hi id0 off0 : Nat} {us : List Value} {x : Patch} (h : patchP.rd lo hi M x us) (hc0 : Cl M id0 off0 us) : Det Tryz.prog M.length 157 [.pointer (some ⟨id0, off0, none⟩)] M (.bool (formB x)) M := (l07Formed_s h hc0).pure rfl
/-- What is taken, as the reference keeps it. -/
structure TkOut (ns : List Node) (tk : List Bool) (out : List Int) : Prop where
  len : tk.length = ns.length
  iff : ∀ i : Nat, i < ns.length → (el tk i = true ↔ (i : Int) ∈ out)
theorem TkOut.nil (ns : List Node) : TkOut ns (List.replicate ns.length false) [] := ⟨by simp, fun i hi => by simp [el, hi]⟩
theorem TkOut.next {ns : List Node} {tk : List Bool} {out : List Int} (h : TkOut ns tk out) {i : Nat} (hi : i < ns.length) : TkOut ns (tk.set i true) (out ++ [(i : Int)]) := by
  refine ⟨by simp [h.len], fun j hj => ?_⟩
  by_cases e : j = i
  · subst e
    have : el (tk.set j true) j = true := by simp [el, h.len, hj]
    simp [this]
  · have : el (tk.set i true) j = el tk j := by simp [el, List.getElem?_set_ne (Ne.symm e)]
    rw [this, h.iff j hj]
    simp
    omega
theorem TkOut.rdy {ns : List Node} {tk : List Bool} {out : List Int} (h : TkOut ns tk out) {i : Nat} (hi : i < ns.length) (hw : ∀ k, k < (waits (el ns i)).length → ∃ f : Nat, el (waits (el ns i)) k = f ∧ f < ns.length) :
    rdyT ns tk i = (!decide ((i : Int) ∈ out) && (waits (el ns i)).all fun f => decide (f ∈ out)) := by
  unfold rdyT
  have e1 : el tk i = decide ((i : Int) ∈ out) := by
    have := h.iff i hi
    rw [Bool.eq_iff_iff, this]
    simp
  rw [e1]
  congr 1
  generalize waits (el ns i) = W at hw
  rw [Bool.eq_iff_iff, List.all_eq_true, List.all_eq_true]
  have key : ∀ y, y ∈ W → (el tk y.toNat = true ↔ decide (y ∈ out) = true) := by
    intro y hy
    obtain ⟨k, hk, rfl⟩ := List.getElem_of_mem hy
    obtain ⟨f, hf, hfl⟩ := hw k hk
    rw [el_eq hk, hf]
    have := h.iff f hfl
    simp [this]
  exact ⟨fun hh y hy => (key y hy).1 (hh y hy), fun hh y hy => (key y hy).2 (hh y hy)⟩
theorem l07All_s {M : Mem} {lo hi lo' hi' : Nat} {u v : Value} {l o : List Int} (h : SlV intP lo hi M u l) (h' : SlV intP lo' hi' M v o) : Det Tryz.prog M.length 200 [u, v] M (.bool (l.all fun f => decide (f ∈ o))) M := by
  obtain ⟨A, n, c, rfl, h1, h2, h3⟩ := h
  have hv := h'
  obtain ⟨A2, n2, c2, rfl⟩ := h'.isSl
  have hl := h3.1
  replace h3 := h3.sl
  first | (refine det_fn Tryz.func200 rfl Tryz.ntmps200 Tryz.results200 rfl rfl rfl (by simp) ?_) | (refine det_fnC Tryz.func200 rfl Tryz.ntmps200 Tryz.results200 rfl rfl (by simp) ?_)
  simp
  refine awLoop_T (fun m T M' => ∃ k : Nat, k + m = n ∧ M' = M ∧ look T 5 = some (iv k) ∧ look T 0 = some (.slice A n c) ∧ look T 1 = some (.slice A2 n2 c2) ∧ ∀ i, i < k → decide (el l i ∈ o) = true) n ⟨0, by omega, rfl, by simp, by simp, by simp, fun i hi => by omega⟩ ?_
  rintro m T M' ⟨k, hm, rfl, t5, t0, t1, hk⟩
  by_cases hlt : k < n
  · obtain ⟨id, off, rfl, he, hc⟩ := h3.at_ hlt
    have c1 := int_cell hc
    simp only [Nat.mul_one] at c1
    simp (disch := omega) [t5, t0, t1, hlt, c1, he]
    refine awCall_det' (l00Has_s (el l k) hv) (Nat.le_refl _) ?_
    by_cases hs : el l k ∈ o
    · simp (disch := omega) [hs, t5, t0, t1, wrap_in]
      refine lpI (m - 1) (by omega) ⟨k + 1, by omega, rfl, by simp, by simp [t0], by simp [t1], fun i hi => ?_⟩
      by_cases e : i = k
      · rw [e]; exact decide_eq_true hs
      · exact hk i (by omega)
    · simp [hs]
      exact ⟨⟨_, el_mem (by omega), hs⟩, Keeps.refl _⟩
  · obtain rfl : k = n := by omega
    have := all_yes (p := fun f => decide (f ∈ o)) (l := l) fun i hi => hk i (by omega)
    simp [t5, t0, Keeps.refl]
    intro y hy
    have := List.all_eq_true.1 this y hy
    simpa using this
theorem l07Waits_s {M : Mem} {lo hi id off : Nat} {us : List Value} {x : Node} (h : nodeP.rd lo hi M x us) (hc : Cl M id off us) : ∃ u N, Det Tryz.prog M.length 201 [.pointer (some ⟨id, off, none⟩)] M u (M ++ N) ∧ ∃ lo' hi', SlV intP lo' hi' (M ++ N) u (waits x) := by
  obtain ⟨u, rfl, hu⟩ := h
  have hV := hu
  obtain ⟨A, n, c, rfl, h1, h2, h3⟩ := hu
  have c0 : cellAt M id off = some (iv x.k) := hc 0 _ rfl
  have c3 : cellAt M id (off + 3) = some (.slice A n c) := hc 3 _ rfl
  by_cases hk : x.k = 6
  · refine ⟨.slice (some ⟨M.length, 0, none⟩) 0 0, [.live ⟨[], true, true, 2, 1⟩], Ctr.det ?_, 0, 0, ⟨_, 0, 0, rfl, by omega, (fun h => by cases h), by unfold waits; rw [if_pos hk]; rfl, fun h => by omega⟩⟩
    first | (refine ctr_fn Tryz.func201 rfl Tryz.ntmps201 Tryz.results201 rfl rfl (by simp) ?_) | (refine ctr_fnC Tryz.func201 rfl Tryz.ntmps201 Tryz.results201 rfl (by simp) ?_)
    simp (disch := omega) [c0, hk]
  · refine ⟨.slice A n c, [], Ctr.det ?_, lo, hi, by unfold waits; rw [if_neg hk]; simpa using hV⟩
    first | (refine ctr_fn Tryz.func201 rfl Tryz.ntmps201 Tryz.results201 rfl rfl (by simp) ?_) | (refine ctr_fnC Tryz.func201 rfl Tryz.ntmps201 Tryz.results201 rfl (by simp) ?_)
    simp (disch := omega) [c0, hk, c3]
end Go.Proofs.YtimijeeihicohaaGreat

namespace Go.Proofs.YtimijeeihicohaaGreat
open Go.RowKit
set_option linter.unusedVariables false
set_option linter.unusedSimpArgs false
set_option maxRecDepth 100000
attribute [local simp] List.getElem?_cons_zero
attribute [local irreducible] awCond awCall awLoop awDraw ow retQ retC resQ Keeps
set_option maxHeartbeats 4000000 in
theorem l07Order_s {M : Mem} {lo hi id0 off0 : Nat} {us : List Value} {x : Patch} (h : patchP.rd lo hi M x us) (hc0 : Cl M id0 off0 us) (hx : ∀ y, y ∈ x.nodes → idxB x.nodes.length y.from_ = true) (hn24 : x.nodes.length ≤ 24) :
    Ctr Tryz.prog M.length 158 [.pointer (some ⟨id0, off0, none⟩)] M fun r M' => ∃ u, r = .tuple #[u, .bool (decide ((ordL x.nodes).length = x.nodes.length))] ∧ ((ordL x.nodes).length = x.nodes.length → Acc intR 2 M.length M' u (ordL x.nodes)) ∧ Keeps M M' := by
  obtain ⟨u1, u2, u3, rfl, hu1, hu2, hu3⟩ := h
  obtain ⟨A2, n2, c2, rfl, p1, p2, p3⟩ := hu2
  have hn := p3.1
  have b2 : cellAt M id0 (off0 + 2) = some (.slice A2 n2 c2) := hc0 2 _ rfl
  first | (refine ctr_fn Tryz.func158 rfl Tryz.ntmps158 Tryz.results158 rfl rfl (by simp) ?_) | (refine ctr_fnC Tryz.func158 rfl Tryz.ntmps158 Tryz.results158 rfl (by simp) ?_)
  simp
  have k0 : Keeps M (M ++ [Slot.live ⟨[], true, true, 2, 1⟩]) := keeps_app _
  have hAc0 : Acc intR 2 M.length (M ++ [Slot.live ⟨[], true, true, 2, 1⟩]) (.slice (some ⟨M.length, 0, none⟩) 0 0) [] := ⟨_, 0, 0, rfl, rfl, .inr ⟨M.length, true, rfl, Nat.le_refl _, by simp [cellsL]⟩⟩
  refine awLoop_T (fun m T M' => ∃ (tk : List Bool) (out : List Int) (v : Value), tk.count false = m ∧ ordL x.nodes = ordT x.nodes m tk out ∧ TkOut x.nodes tk out ∧ m + out.length = n2 ∧ Keeps M M' ∧ Acc intR 2 M.length M' v out ∧ look T 4 = some v ∧ look T 0 = some (.pointer (some ⟨id0, off0, none⟩))) n2
    ⟨List.replicate n2 false, [], _, by simp, by unfold ordL; rw [hn], by rw [← hn]; exact .nil _, by simp, k0, hAc0, by simp, by simp⟩ ?_
  clear k0 hAc0
  rintro c T M1 ⟨tk, out, v, hcnt, hord, hto, hcl, k1, hA1, t4, t0⟩
  obtain ⟨A, q, cc, rfl, hq, hslo, -⟩ := hA1.sl
  have b21 := cellAt_keeps k1 b2
  have l1 := k1.len
  have hoV : SlV intP 0 M1.length M1 (.slice A q cc) out := by
    refine (hA1.slv (by omega)).wide (by omega) (Nat.le_refl _)
  by_cases hlt : q < n2
  case neg =>
    have hc0' : c = 0 := by omega
    subst hc0'
    have hlt' : ¬ (q : Int) < n2 := by omega
    have hL : ordL x.nodes = out := hord
    simp (disch := omega) [t4, t0, b21, hlt']
    exact ⟨_, ⟨rfl, by rw [hL]; omega⟩, fun _ => by rw [hL]; exact hA1, k1⟩
  have hlt' : (q : Int) < n2 := by omega
  simp (disch := omega) [t4, t0, b21, hlt']
  refine awLoop_T (fun m T M' => ∃ i : Nat, i + m = n2 ∧ Keeps M1 M' ∧ look T 6 = some (iv i) ∧ look T 4 = some (.slice A q cc) ∧ look T 0 = some (.pointer (some ⟨id0, off0, none⟩)) ∧ ((look T 5 = some (iv (-1)) ∧ ∀ j, j < i → rdyT x.nodes tk j = false) ∨ ∃ i0 : Nat, look T 5 = some (iv i0) ∧ nextT x.nodes tk = some i0 ∧ i0 < n2)) n2
    ⟨0, by omega, Keeps.refl _, by simp, by simp [t4], by simp [t0], .inl ⟨by simp, fun j hj => by omega⟩⟩ ?_
  clear t4 t0 T
  rintro m T M2 ⟨i, hi, k12, t6, t4, t0, hst⟩
  have k2 := k1.trans k12
  have l2 := k12.len
  have b22 := cellAt_keeps k2 b2
  rcases hst with ⟨t5, hnr⟩ | ⟨i0, t5, hnx, hi0⟩
  · by_cases hltn : i < n2
    · have hltn' : (i : Int) < n2 := by omega
      obtain ⟨id, off, us, rfl, he, hrd, hc⟩ := (p3.keeps k2).at_ hltn
      simp (disch := omega) [t6, t5, t4, t0, b22, hltn']
      refine awCall_det' (l00Has_s (i : Int) (hoV.keeps k12)) (by omega) ?_
      have hyi : idxB n2 (el x.nodes i).from_ = true := by rw [← hn]; exact hx _ (el_mem (by omega))
      have hr := hto.rdy (i := i) (by omega) fun k hk => by
        obtain ⟨f, e1, e2⟩ := waits_idx hyi hk
        exact ⟨f, e1, by omega⟩
      by_cases hin : (i : Int) ∈ out
      · rw [decide_eq_true hin] at hr ⊢
        simp (disch := omega) [t6, wrap_in]
        refine lpI (m - 1) (by omega) ⟨i + 1, by omega, k12, by simp, by simp [t4], by simp [t0], .inl ⟨by simp [t5], fun j hj => ?_⟩⟩
        by_cases e : j = i
        · rw [e, hr]; rfl
        · exact hnr j (by omega)
      · rw [decide_eq_false hin] at hr ⊢
        simp (disch := omega) [t6, t4, t0, b22, hltn, he]
        obtain ⟨w, N, dw, lo', hi', hw⟩ := l07Waits_s hrd hc
        refine awCall_det' dw (by omega) ?_
        have kN : Keeps M2 (M2 ++ N) := keeps_app _
        try simp [t4]
        refine awCall_det' (l07All_s hw ((hoV.keeps k12).keeps kN)) (by simp; omega) ?_
        by_cases ha : ((waits (el x.nodes i)).all fun f => decide (f ∈ out)) = true
        · have hrt : rdyT x.nodes tk i = true := by rw [hr, ha]; rfl
          have hnx : nextT x.nodes tk = some i := nextT_some (by omega) hrt hnr
          rw [ha]
          simp (disch := omega) [t6, wrap_in]
          exact lpI (m - 1) (by omega) ⟨i + 1, by omega, k12.app _, by simp, by simp [t4], by simp [t0], .inr ⟨i, by simp, hnx, by omega⟩⟩
        · rw [Bool.not_eq_true] at ha
          have hrt : rdyT x.nodes tk i = false := by rw [hr, ha]; rfl
          rw [ha]
          simp (disch := omega) [t6, wrap_in]
          refine lpI (m - 1) (by omega) ⟨i + 1, by omega, k12.app _, by simp, by simp [t4], by simp [t0], .inl ⟨by simp [t5], fun j hj => ?_⟩⟩
          by_cases e : j = i
          · rw [e]; exact hrt
          · exact hnr j (by omega)
    · have hltn' : ¬ (i : Int) < n2 := by omega
      have hnx : nextT x.nodes tk = none := nextT_none fun j hj => hnr j (by omega)
      have hL : ordL x.nodes = out := by
        rw [hord]
        cases c with
        | zero => rfl
        | succ c => show (match nextT x.nodes tk with | none => out | some i => _) = out; rw [hnx]
      simp (disch := omega) [t6, t5, t4, t0, b22, hltn']
      exact ⟨_, ⟨rfl, by rw [hL]; omega⟩, fun hh => absurd hh (by rw [hL]; omega), k2⟩
  · have hfr := rdyT_free (ns := x.nodes) (tk := tk) (i := i0) (by
      have := hnx
      unfold nextT at this
      exact List.find?_some this)
    have hcs := count_set_true (tk := tk) (i := i0) (by rw [hto.len]; omega) hfr
    have e1 : ¬ (i0 : Int) < 0 := by omega
    by_cases hltn : (i : Int) < n2
    case' pos => simp (disch := omega) [t6, t5, t4, t0, b22, hltn, e1, fill1I]
    case' neg => simp (disch := omega) [t6, t5, t4, t0, b22, hltn, e1, fill1I]
    all_goals
      refine ((hA1.keeps k12).keeps (keeps_app _)).append (R := intR) (e := 2) (by_ := 8) (a := (i0 : Int)) (Nat.le_refl _) (by simp; omega) (by omega) (by simp) (by kernel_rfl) (by simp [srcOf, intR]) (by rfl) (by omega) (by unfold maxLen; omega) ?_
      intro v' M7 hA7 hS7
      try simp (disch := omega) [t0]
      refine lpI (c - 1) (by omega) ⟨tk.set i0 true, out ++ [(i0 : Int)], v', by omega, ?_, hto.next (by omega), by simp; omega, hS7.keeps (k2.app _) (Nat.le_refl _), hA7, by simp, by simp [t0]⟩
      rw [hord]
      cases c with
      | zero => omega
      | succ c => show (match nextT x.nodes tk with | none => out | some i => _) = _; rw [hnx]; rfl
theorem l07Ok_s {M : Mem} {lo hi id0 off0 : Nat} {us : List Value} {x : Patch} (h : patchP.rd lo hi M x us) (hc0 : Cl M id0 off0 us) : Det Tryz.prog M.length 106 [.pointer (some ⟨id0, off0, none⟩)] M (.bool (patB x)) M := by
  first | (refine det_fn Tryz.func106 rfl Tryz.ntmps106 Tryz.results106 rfl rfl rfl (by simp) ?_) | (refine det_fnC Tryz.func106 rfl Tryz.ntmps106 Tryz.results106 rfl rfl (by simp) ?_)
  simp
  refine awCall_det' (l07Formed_d h hc0) (Nat.le_refl _) ?_
  by_cases hf : formB x = true
  case neg =>
    rw [Bool.not_eq_true] at hf
    simp [hf, patB, Keeps.refl]
  simp [hf]
  obtain ⟨f1, f2, -⟩ := formB_nodes hf
  refine awCall_ctr (l07Order_s h hc0 f2 f1) ?_
  rintro r M1 ⟨u, rfl, -, k1⟩
  simp [patB, hf]
  exact k1
theorem l22Ok_s {M : Mem} {lo hi id0 off0 : Nat} {us : List Value} {x : Inst} (h : instP.rd lo hi M x us) (hc0 : Cl M id0 off0 us) : Det Tryz.prog M.length 59 [.pointer (some ⟨id0, off0, none⟩)] M (.bool (instB x)) M := by
  obtain ⟨ps, es, w, rfl, hp, he, hw⟩ := h
  have hp2 := hp
  have he2 := he
  obtain ⟨u1, u2, u3, rfl, hu1, hu2, hu3⟩ := hp2
  obtain ⟨A1, n1, c1, rfl⟩ := hu1.isSl
  obtain ⟨A2, n2, c2, rfl⟩ := hu2.isSl
  obtain ⟨A3, n3, c3, e3, q1, q2, q3⟩ := hu3
  subst e3
  obtain ⟨A4, n4, c4, rfl⟩ := env_isV he
  have hw2 := hw
  obtain ⟨A5, n5, c5, rfl, r1, r2, r3⟩ := hw2
  have ho := q3.1
  have hs := r3.1
  have b0 : cellAt M id0 off0 = some (iv x.pat.inp) := hc0 0 _ rfl
  have b3 : cellAt M id0 (off0 + 3) = some (.slice A3 n3 c3) := hc0 3 _ rfl
  have b7 : cellAt M id0 (off0 + 7) = some (.slice A5 n5 c5) := hc0 7 _ rfl
  have cp : Cl M id0 off0 [iv x.pat.inp, .slice A1 n1 c1, .slice A2 n2 c2, .slice A3 n3 c3] := fun j y hy => hc0 j y (by
    rw [List.append_assoc, List.getElem?_append_left (List.getElem?_eq_some_iff.1 hy).1]; exact hy)
  have ce : Cl M id0 (off0 + 4) [iv x.env.st, .slice A4 n4 c4, iv x.env.rel] := fun j y hy => by
    have := hc0 (4 + j) y (by
      rw [List.append_assoc, List.getElem?_append_right (by simp), show 4 + j - [iv x.pat.inp, Value.slice A1 n1 c1, .slice A2 n2 c2, .slice A3 n3 c3].length = j by simp, List.getElem?_append_left (List.getElem?_eq_some_iff.1 hy).1]; exact hy)
    rwa [← Nat.add_assoc] at this
  first | (refine det_fn Tryz.func59 rfl Tryz.ntmps59 Tryz.results59 rfl rfl rfl (by simp) ?_) | (refine det_fnC Tryz.func59 rfl Tryz.ntmps59 Tryz.results59 rfl rfl (by simp) ?_)
  simp
  refine awCall_det' (l07Ok_s hp cp) (by simp) ?_
  by_cases g1 : patB x.pat = true
  case neg => simp [g1, instB, Keeps.refl]
  by_cases g2 : x.pat.inp = 3
  case neg => simp (disch := omega) [g1, g2, b0, instB, Keeps.refl]
  by_cases g3 : n3 = 1
  case neg =>
    have g3' : ¬ (n3 : Int) = 1 := by omega
    simp (disch := omega) [g1, g2, g3, g3', b0, b3, ho, instB, Keeps.refl]
  subst g3
  simp (disch := omega) [g1, g2, b0, b3]
  refine awCall_det' (l14Ok_s he ce) (by simp) ?_
  by_cases g4 : envB x.env = true
  case neg => simp [g1, g2, ho, g4, instB, Keeps.refl]
  by_cases g5 : n5 = 12
  case neg =>
    have g5' : ¬ (n5 : Int) = 12 := by omega
    simp (disch := omega) [g1, g2, ho, g4, g5, g5', b7, hs, instB, Keeps.refl]
  subst g5
  simp (disch := omega) [g4, b7]
  refine awCall_det' (l04Samples_s hw) (by simp) ?_
  simp [g1, g2, ho, g4, hs, instB, Keeps.refl]
end Go.Proofs.YtimijeeihicohaaGreat

namespace Go.Proofs.YtimijeeihicohaaGreat
open Go.RowKit
set_option linter.unusedVariables false
set_option linter.unusedSimpArgs false
set_option maxRecDepth 100000
attribute [local simp] List.getElem?_cons_zero
attribute [local irreducible] awCond awCall awLoop awDraw ow retQ retC resQ Keeps
/-- The sample that differs from n by a multiple of 2^32. -/
def smp (n : Int) : Int := (n + 2147483648) % 4294967296 - 2147483648
theorem smp_bd (n : Int) : -2147483648 ≤ smp n ∧ smp n ≤ 2147483647 := by unfold smp; omega
theorem andS (n : Int) : intV .and .i64 n 4294967295 = some (.int .i64 (n % 4294967296)) := by
  have h1 : (BitVec.ofInt 64 (4294967295 : Int)).toNat = 2 ^ 32 - 1 := by decide
  have h2 : ((BitVec.ofInt 64 n).toNat : Int) = n % 18446744073709551616 := by
    rw [BitVec.toNat_ofInt]
    have := Int.emod_nonneg n (show (18446744073709551616 : Int) ≠ 0 by decide)
    show ((n % 18446744073709551616).toNat : Int) = _
    omega
  have key : IntKind.i64.wrap ((BitVec.ofInt 64 n &&& BitVec.ofInt 64 4294967295).toNat : Int) = n % 4294967296 := by
    rw [BitVec.toNat_and, h1, Nat.and_two_pow_sub_one_eq_mod, IntKind.wrap_i64]
    have h3 : (((BitVec.ofInt 64 n).toNat % 2 ^ 32 : Nat) : Int) = (n % 18446744073709551616) % 4294967296 := by
      rw [Int.natCast_emod, h2]
      rfl
    rw [h3]
    omega
  show some (Value.int .i64 (IntKind.i64.wrap ((BitVec.ofInt 64 n &&& BitVec.ofInt 64 4294967295).toNat : Int))) = _
  rw [key]
theorem Wrap_s {M : Mem} (n : Int) : Det Tryz.prog M.length 141 [iv n] M (iv (smp n)) M := by
  have e : IntKind.i64.wrap (IntKind.i32.wrap n) = smp n := by
    rw [IntKind.wrap_i32, IntKind.wrap_i64]; unfold smp; omega
  first | (refine det_fn Tryz.func141 rfl Tryz.ntmps141 Tryz.results141 rfl rfl rfl (by simp) ?_) | (refine det_fnC Tryz.func141 rfl Tryz.ntmps141 Tryz.results141 rfl rfl (by simp) ?_)
  simp [e, Keeps.refl]
theorem l01Wrap_t {M : Mem} (n : Int) : Det Tryz.prog M.length 135 [iv n] M (iv (smp n)) M := by
  have h1 : 0 ≤ n % 4294967296 ∧ n % 4294967296 < 4294967296 := by omega
  first | (refine det_fn Tryz.func135 rfl Tryz.ntmps135 Tryz.results135 rfl rfl rfl (by simp) ?_) | (refine det_fnC Tryz.func135 rfl Tryz.ntmps135 Tryz.results135 rfl rfl (by simp) ?_)
  simp [andS]
  by_cases hb : 2147483647 < n % 4294967296
  · simp (disch := omega) [hb, wrap_in, Keeps.refl]
    unfold smp; omega
  · simp (disch := omega) [hb, wrap_in, Keeps.refl]
    unfold smp; omega
def incr (st : List Int) (key : Int) : Int := smp (el st (key % 12).toNat * 2 ^ (key / 12).toNat)
theorem instB_steps {x : Inst} (h : instB x = true) : x.steps.length = 12 ∧ ∀ i, i < 12 → -2147483648 ≤ el x.steps i ∧ el x.steps i ≤ 2147483647 := by
  unfold instB at h
  simp only [Bool.and_eq_true, decide_eq_true_eq] at h
  obtain ⟨-, -, -, -, h1, h2⟩ := h
  refine ⟨h1, fun i hi => ?_⟩
  have := List.all_eq_true.1 h2 _ (el_mem (l := x.steps) (i := i) (by omega))
  exact inB_iff.1 this
theorem shift_bd {a : Int} {c : Nat} (h1 : -2147483648 ≤ a) (h2 : a ≤ 2147483647) (hc : c ≤ 10) : -9223372036854775808 ≤ a * 2 ^ c ∧ a * 2 ^ c ≤ 9223372036854775807 := by
  have h : c = 0 ∨ c = 1 ∨ c = 2 ∨ c = 3 ∨ c = 4 ∨ c = 5 ∨ c = 6 ∨ c = 7 ∨ c = 8 ∨ c = 9 ∨ c = 10 := by omega
  rcases h with h | h | h | h | h | h | h | h | h | h | h <;> subst h <;> simp <;> omega
theorem shlS {a : Int} {c : Nat} (h1 : -2147483648 ≤ a) (h2 : a ≤ 2147483647) (hc : c ≤ 10) : intV .shl .i64 a c = some (.int .i64 (a * 2 ^ c)) := by
  obtain ⟨g1, g2⟩ := shift_bd h1 h2 hc
  have e : intV .shl .i64 a (c : Int) = some (.int .i64 (IntKind.i64.wrap (a * 2 ^ (min ((c : Int)).toNat IntKind.i64.bits)))) := by
    show (if (c : Int) < 0 then none else _) = _
    simp [show ¬ ((c : Int) < 0) by omega]
  rw [e]
  have : min ((c : Int)).toNat IntKind.i64.bits = c := by
    have : IntKind.i64.bits = 64 := rfl
    rw [this]; omega
  rw [this, wrap_in g1 g2]
theorem increment_i {M : Mem} {lo hi : Nat} {us : List Value} {x : Inst} {key : Int} (h : instP.rd lo hi M x us) (hb : instB x = true) (hk : inB key 0 127 = true) : Det Tryz.prog M.length 93 [.agg us.toArray, iv key] M (iv (incr x.steps key)) M := by
  obtain ⟨ps, es, w, rfl, hp, he, hw⟩ := h
  obtain ⟨A1, n1, c1, A2, n2, c2, A3, n3, c3, rfl⟩ := patch_isV hp
  obtain ⟨A4, n4, c4, rfl⟩ := env_isV he
  obtain ⟨A5, n5, c5, rfl, r1, r2, r3⟩ := hw
  have hk' := inB_iff.1 hk
  obtain ⟨hl, hst⟩ := instB_steps hb
  have hn := r3.1
  obtain ⟨k, rfl⟩ := Int.eq_ofNat_of_zero_le hk'.1
  have e12 : ((k : Int).tmod 12) = ((k % 12 : Nat) : Int) := by rw [Int.tmod_eq_emod_of_nonneg (by omega)]; omega
  have d12 : ((k : Int).tdiv 12) = ((k / 12 : Nat) : Int) := by rw [Int.tdiv_eq_ediv_of_nonneg (by omega)]; omega
  have hlt : k % 12 < n5 := by omega
  obtain ⟨id, off, rfl, hez, hc⟩ := r3.sl.at_ hlt
  have c1' := int_cell hc
  simp only [Nat.mul_one] at c1'
  have hs := hst (k % 12) (by omega)
  have hlt' : ((k % 12 : Nat) : Int) < n5 := by omega
  have t12 : ((k : Int) % 12).toNat = k % 12 := by omega
  have u12 : IntKind.u64.wrap ((k : Int) / 12) = ((k / 12 : Nat) : Int) := by rw [IntKind.wrap_u64]; omega
  have s12 : intV .shl .i64 (el x.steps (k % 12)) ((k : Int) / 12) = some (.int .i64 (el x.steps (k % 12) * 2 ^ (k / 12))) := by
    have := shlS (c := k / 12) hs.1 hs.2 (by omega)
    rw [show (((k / 12 : Nat)) : Int) = (k : Int) / 12 by omega] at this
    exact this
  have l12 : (0 : Int) ≤ (k : Int) % 12 ∧ (k : Int) % 12 < (n5 : Int) := by omega
  first | (refine det_fn Tryz.func93 rfl Tryz.ntmps93 Tryz.results93 rfl rfl rfl (by simp) ?_) | (refine det_fnC Tryz.func93 rfl Tryz.ntmps93 Tryz.results93 rfl rfl (by simp) ?_)
  simp (disch := omega) [e12, d12, wrap_in, hlt', hez, c1', cellAt_app c1', rowEsz_keeps (keeps_app _) hez, t12, u12, s12, l12, binV_shift (op := .shl) rfl]
  refine awCall_det' (Wrap_s _) (by simp) ?_
  refine ⟨?_, keeps_app _⟩
  unfold incr
  rw [show ((k : Int) % 12).toNat = k % 12 by omega, show ((k : Int) / 12).toNat = k / 12 by omega]
theorem l22Increment_s {M : Mem} {lo hi id0 off0 : Nat} {us : List Value} {x : Inst} {key : Int} (h : instP.rd lo hi M x us) (hc0 : Cl M id0 off0 us) (hb : instB x = true) (hk : inB key 0 127 = true) : Det Tryz.prog M.length 85 [.pointer (some ⟨id0, off0, none⟩), iv key] M (iv (incr x.steps key)) M := by
  obtain ⟨ps, es, w, rfl, hp, he, hw⟩ := h
  obtain ⟨A1, n1, c1, A2, n2, c2, A3, n3, c3, rfl⟩ := patch_isV hp
  obtain ⟨A4, n4, c4, rfl⟩ := env_isV he
  obtain ⟨A5, n5, c5, rfl, r1, r2, r3⟩ := hw
  have hk' := inB_iff.1 hk
  obtain ⟨hl, hst⟩ := instB_steps hb
  have hn := r3.1
  have b7 : cellAt M id0 (off0 + 7) = some (.slice A5 n5 c5) := hc0 7 _ rfl
  obtain ⟨k, rfl⟩ := Int.eq_ofNat_of_zero_le hk'.1
  have e12 : ((k : Int).tmod 12) = ((k % 12 : Nat) : Int) := by rw [Int.tmod_eq_emod_of_nonneg (by omega)]; omega
  have d12 : ((k : Int).tdiv 12) = ((k / 12 : Nat) : Int) := by rw [Int.tdiv_eq_ediv_of_nonneg (by omega)]; omega
  have hlt : k % 12 < n5 := by omega
  obtain ⟨id, off, rfl, hez, hc⟩ := r3.sl.at_ hlt
  have c1' := int_cell hc
  simp only [Nat.mul_one] at c1'
  have hs := hst (k % 12) (by omega)
  have hlt' : ((k % 12 : Nat) : Int) < n5 := by omega
  have t12 : ((k : Int) % 12).toNat = k % 12 := by omega
  have u12 : IntKind.u64.wrap ((k : Int) / 12) = ((k / 12 : Nat) : Int) := by rw [IntKind.wrap_u64]; omega
  have s12 : intV .shl .i64 (el x.steps (k % 12)) ((k : Int) / 12) = some (.int .i64 (el x.steps (k % 12) * 2 ^ (k / 12))) := by
    have := shlS (c := k / 12) hs.1 hs.2 (by omega)
    rw [show (((k / 12 : Nat)) : Int) = (k : Int) / 12 by omega] at this
    exact this
  have l12 : (0 : Int) ≤ (k : Int) % 12 ∧ (k : Int) % 12 < (n5 : Int) := by omega
  first | (refine det_fn Tryz.func85 rfl Tryz.ntmps85 Tryz.results85 rfl rfl rfl (by simp) ?_) | (refine det_fnC Tryz.func85 rfl Tryz.ntmps85 Tryz.results85 rfl rfl (by simp) ?_)
  simp (disch := omega) [e12, d12, wrap_in, hlt', hez, c1', b7, t12, u12, s12, l12, binV_shift (op := .shl) rfl]
  refine awCall_det' (l01Wrap_t _) (by simp) ?_
  refine ⟨?_, Keeps.refl _⟩
  unfold incr
  rw [show ((k : Int) % 12).toNat = k % 12 by omega, show ((k : Int) / 12).toNat = k / 12 by omega]
def incV (x : Inst) (key : Int) : Int × Int := if instB x = true then (if inB key 0 127 = true then (incr x.steps key, 0) else (0, 2)) else (0, 1)
end Go.Proofs.YtimijeeihicohaaGreat

namespace Go.Proofs.YtimijeeihicohaaGreat
open Go.RowKit
set_option linter.unusedVariables false
set_option linter.unusedSimpArgs false
set_option maxRecDepth 100000
attribute [local simp] List.getElem?_cons_zero
attribute [local irreducible] awCond awCall awLoop awDraw ow retQ retC resQ Keeps
structure Clip where
  (src fr len at_ gain : Int)
deriving Inhabited, DecidableEq
def Clip.row (c : Clip) : List Value := [iv c.src, iv c.fr, iv c.len, iv c.at_, iv c.gain]
def clipR : RecV Clip 5 := ⟨Clip.row, fun _ => rfl⟩
abbrev Clip.v (c : Clip) : Value := .agg #[iv c.src, iv c.fr, iv c.len, iv c.at_, iv c.gain]
theorem clip_cells {M : Mem} {id off : Nat} {g : Clip} (h : Cl M id off g.row) : cellAt M id off = some (iv g.src) ∧ cellAt M id (off + 1) = some (iv g.fr) ∧ cellAt M id (off + 2) = some (iv g.len) ∧ cellAt M id (off + 3) = some (iv g.at_) ∧ cellAt M id (off + 4) = some (iv g.gain) :=
  ⟨h 0 _ rfl, h 1 _ rfl, h 2 _ rfl, h 3 _ rfl, h 4 _ rfl⟩
theorem clip_load {M : Mem} {id off : Nat} {g : Clip} (h : Cl M id off g.row) : cellsAt M id off 5 = some [iv g.src, iv g.fr, iv g.len, iv g.at_, iv g.gain] := cellsAt_of h rfl (by omega)
theorem clip_eq {a b : Clip} : a = b ↔ a.src = b.src ∧ a.fr = b.fr ∧ a.len = b.len ∧ a.at_ = b.at_ ∧ a.gain = b.gain := by
  cases a; cases b; simp
def clipI : Ints clipR := ⟨fun zs => ⟨gi zs 0, gi zs 1, gi zs 2, gi zs 3, gi zs 4⟩, fun zs h => by
  obtain ⟨x0, x1, x2, x3, x4, rfl⟩ : ∃ x0 x1 x2 x3 x4, zs = [x0, x1, x2, x3, x4] := by
    match zs, h with
    | [x0, x1, x2, x3, x4], _ => exact ⟨x0, x1, x2, x3, x4, rfl⟩
  rfl⟩














@[simp] theorem clip_fill (x0 x1 x2 x3 x4 : Int) : Instr.fill (fun i => some (i * 5, 5)) (zrow [iv 0, iv 0, iv 0, iv 0, iv 0] 1).toArray [(0, .agg #[iv x0, iv x1, iv x2, iv x3, iv x4])] = some #[iv x0, iv x1, iv x2, iv x3, iv x4] := fill_agg (by omega) rfl rfl
def markClip (z : Int) (i : Nat) : Clip := ⟨z + i * 5, z + i * 5 + 1, z + i * 5 + 1 + 1, z + i * 5 + 1 + 1 + 1, z + i * 5 + 1 + 1 + 1 + 1⟩
def markClipL (z : Int) (n : Nat) : List Clip := (List.range n).map (markClip z)
theorem markClipL_succ (z : Int) (n : Nat) : markClipL z (n + 1) = markClipL z n ++ [markClip z n] := by simp [markClipL, List.range_succ]
/-! The same, as the laws use them. -/
end Go.Proofs.YtimijeeihicohaaGreat

namespace Go.Proofs.YtimijeeihicohaaGreat
open Go.RowKit
set_option linter.unusedVariables false
set_option linter.unusedSimpArgs false
set_option maxRecDepth 100000
attribute [local simp] List.getElem?_cons_zero
attribute [local irreducible] awCond awCall awLoop awDraw ow retQ retC resQ Keeps
end Go.Proofs.YtimijeeihicohaaGreat

namespace Go.Proofs.YtimijeeihicohaaGreat
open Go.RowKit
set_option linter.unusedVariables false
set_option linter.unusedSimpArgs false
set_option maxRecDepth 100000
attribute [local simp] List.getElem?_cons_zero
attribute [local irreducible] awCond awCall awLoop awDraw ow retQ retC resQ Keeps
def clipB (c : Clip) : Bool := inB c.src 0 5 && inB c.len 1 4000 && inB c.fr 0 (4000 - c.len) && inB c.at_ 0 (4000 - c.len) && inB c.gain (-2147483648) 2147483647















































def okC (l : List Clip) : Bool := decide (∀ i, i < l.length → clipB (el l i) = true ∧ (0 < i → (el l (i - 1)).at_ ≤ (el l i).at_)) && decide (l.length ≤ 12)
theorem okC_of {l : List Clip} (h : ∀ i, i < l.length → clipB (el l i) = true ∧ (0 < i → (el l (i - 1)).at_ ≤ (el l i).at_)) : okC l = decide (l.length ≤ 12) := by
  unfold okC; rw [decide_eq_true h, Bool.true_and]
theorem okC_not {l : List Clip} {i : Nat} (hi : i < l.length) (h : ¬ (clipB (el l i) = true ∧ (0 < i → (el l (i - 1)).at_ ≤ (el l i).at_))) : okC l = false := by
  unfold okC; rw [decide_eq_false (fun h' => h (h' i hi)), Bool.false_and]
theorem okC_el {l : List Clip} (h : okC l = true) {i : Nat} (hi : i < l.length) : clipB (el l i) = true := by
  unfold okC at h
  simp only [Bool.and_eq_true, decide_eq_true_eq] at h
  exact (h.1 i hi).1
theorem okC_len {l : List Clip} (h : okC l = true) : l.length ≤ 12 := by
  unfold okC at h
  simp only [Bool.and_eq_true, decide_eq_true_eq] at h
  exact h.2
























































































































end Go.Proofs.YtimijeeihicohaaGreat

namespace Go.Proofs.YtimijeeihicohaaGreat
open Go.RowKit
set_option linter.unusedVariables false
set_option linter.unusedSimpArgs false
set_option maxRecDepth 100000
attribute [local simp] List.getElem?_cons_zero
attribute [local irreducible] awCond awCall awLoop awDraw ow retQ retC resQ Keeps
section
variable {α : Type} {k : Nat}
theorem put_splice {b : Nat} {M : Mem} {id p : Nat} {vs cs : List Value} {t : Bool} {e : TypeId} {z : Nat} (hr : M[id]? = some (.live ⟨cs, true, t, e, z⟩)) (hb : b ≤ id) (hp : p + vs.length ≤ cs.length) (h1 : vs.all oneV = true) :
    putCells b M id p vs = some (M.set id (.live ⟨splice cs p vs, true, t, e, z⟩)) := by
  unfold putCells
  rw [hr]
  simp only
  rw [if_pos ⟨hb, trivial, hp, h1⟩]
theorem splice_set [Inhabited α] (R : RecV α k) {l : List α} {i : Nat} {a : α} (hi : i < l.length) : splice (cellsL R l) (i * k) (R.row a) = cellsL R (l.set i a) := by
  have h1 : l = l.take i ++ (el l i :: l.drop (i + 1)) := by
    conv => lhs; rw [← List.take_append_drop i l, drop_el hi]
  have hl : (cellsL R (l.take i)).length = i * k := by rw [cellsL_len, List.length_take, Nat.min_eq_left (by omega)]
  have h2 : cellsL R l = cellsL R (l.take i) ++ (R.row (el l i) ++ cellsL R (l.drop (i + 1))) := by
    conv => lhs; rw [h1]
    rw [cellsL_append, cellsL_cons]
  rw [h2, ← hl, splice_app _ _ _ (by rw [List.length_append, R.len, R.len]; omega), R.len, List.drop_append_of_le_length (by rw [R.len]; omega), List.drop_of_length_le (by rw [R.len]; omega), List.nil_append]
  have h3 : l.set i a = l.take i ++ (a :: l.drop (i + 1)) := List.set_eq_take_append_cons_drop .. |>.trans (by rw [if_pos hi])
  rw [h3, cellsL_append, cellsL_cons]
theorem put_rec [Inhabited α] {R : RecV α k} {b : Nat} {M : Mem} {id i off : Nat} {l : List α} {a : α} {t : Bool} {e : TypeId} (hr : M[id]? = some (.live ⟨cellsL R l, true, t, e, k⟩)) (hb : b ≤ id) (hi : i < l.length) (ho : off = i * k) (h1 : (R.row a).all oneV = true) :
    putCells b M id off (R.row a) = some (M.set id (.live ⟨cellsL R (l.set i a), true, t, e, k⟩)) := by
  subst ho
  rw [put_splice hr hb (by rw [R.len, cellsL_len]; have := Nat.mul_le_mul_right k (show i + 1 ≤ l.length from hi); rw [Nat.add_mul, Nat.one_mul] at this; exact this) h1, splice_set R hi]
end
/-- The list lies in a row of its own. -/
theorem Acc.put {α : Type} {k : Nat} [Inhabited α] {R : RecV α k} {e : TypeId} {B b : Nat} {M : Mem} {A : Option Addr} {n c : Nat} {l : List α} (h : Acc R e B M (.slice A n c) l) (hb : b ≤ B) (h0 : 0 < l.length) :
    ∃ id, A = some ⟨id, 0, none⟩ ∧ B ≤ id ∧ rowEsz M id = some k ∧ (∀ (i j : Nat) x, i < l.length → (R.row (el l i))[j]? = some x → cellAt M id (i * k + j) = some x) ∧
      ∀ (i : Nat) (a : α), i < l.length → (R.row a).all oneV = true → ∃ M', putCells b M id (i * k) (R.row a) = some M' ∧ Acc R e B M' (.slice A n c) (l.set i a) ∧ M'.length = M.length ∧ ∀ (q : Nat) s, q ≠ id → M[q]? = some s → M'[q]? = some s := by
  obtain ⟨A', n', c', he, hl, hA⟩ := h
  injection he with h1 h2 h3
  subst h1; subst h2; subst h3
  rcases hA with ⟨rfl, h1, rfl⟩ | ⟨id, t, rfl, hid, hr⟩
  · omega
  refine ⟨id, rfl, hid, by simp [rowEsz, hr], fun i j x hi hx => ?_, fun i a hi h1 => ⟨_, put_rec hr (by omega) hi rfl h1, ⟨_, _, _, rfl, by simp [hl], .inr ⟨id, t, rfl, hid, List.getElem?_set_self (List.getElem?_eq_some_iff.1 hr).1⟩⟩, by simp, fun q s hq hs => by rw [List.getElem?_set_ne (Ne.symm hq)]; exact hs⟩⟩
  have hj : j < k := by have := (List.getElem?_eq_some_iff.1 hx).1; rwa [R.len] at this
  simp only [cellAt, hr]
  show (cellsL R l)[i * k + j]? = some x
  rw [cellsL_get R hi hj]
  exact hx
end Go.Proofs.YtimijeeihicohaaGreat

namespace Go.Proofs.YtimijeeihicohaaGreat
open Go.RowKit
set_option linter.unusedVariables false
set_option linter.unusedSimpArgs false
set_option maxRecDepth 100000
attribute [local simp] List.getElem?_cons_zero
attribute [local irreducible] awCond awCall awLoop awDraw ow retQ retC resQ Keeps
def sigB (l : List Int) : Bool := decide (l.length ≤ 4000) && areSB l
def srcsB (ss : List (List Int)) : Bool := decide (ss.length ≤ 6) && ss.all sigB
theorem sigB_el {l : List Int} (h : sigB l = true) {i : Nat} (hi : i < l.length) : -2147483648 ≤ el l i ∧ el l i ≤ 2147483647 := by
  unfold sigB at h
  rw [Bool.and_eq_true] at h
  exact inB_iff.1 (List.all_eq_true.1 h.2 _ (el_mem hi))
theorem sigB_len {l : List Int} (h : sigB l = true) : l.length ≤ 4000 := by
  unfold sigB at h
  rw [Bool.and_eq_true, decide_eq_true_eq] at h
  exact h.1
theorem smp_in {n : Int} (h1 : -2147483648 ≤ n) (h2 : n ≤ 2147483647) : smp n = n := by unfold smp; omega
theorem smp_add (a b : Int) : smp (a + smp b) = smp (a + b) := by unfold smp; omega
theorem prod_bd {a b : Int} (h1 : -2147483648 ≤ a) (h2 : a ≤ 2147483647) (h3 : -2147483648 ≤ b) (h4 : b ≤ 2147483647) : -4611686018427387904 ≤ a * b ∧ a * b ≤ 4611686018427387904 := by
  have h : (a * b).natAbs ≤ 2147483648 * 2147483648 := by
    rw [Int.natAbs_mul]
    exact Nat.mul_le_mul (by omega) (by omega)
  omega
def atL (l : List Int) (i : Int) : Int := if 0 ≤ i ∧ i < l.length then el l i.toNat else 0
theorem atL_bd {l : List Int} (h : sigB l = true) (i : Int) : -2147483648 ≤ atL l i ∧ atL l i ≤ 2147483647 := by
  unfold atL
  split
  · exact sigB_el h (by omega)
  · omega
theorem l01Add_s {M : Mem} (a b : Int) : Det Tryz.prog M.length 152 [iv a, iv b] M (iv (smp (smp a + smp b))) M := by
  have h1 := smp_bd a
  have h2 := smp_bd b
  first | (refine det_fn Tryz.func152 rfl Tryz.ntmps152 Tryz.results152 rfl rfl rfl (by simp) ?_) | (refine det_fnC Tryz.func152 rfl Tryz.ntmps152 Tryz.results152 rfl rfl (by simp) ?_)
  simp
  refine awCall_det' (l01Wrap_t _) (by simp) ?_
  try simp
  refine awCall_det' (l01Wrap_t _) (by simp) ?_
  simp (disch := omega) [wrap_in]
  refine awCall_det' (l01Wrap_t _) (by simp) ?_
  simp [Keeps.refl]
theorem l01Mul_s {M : Mem} (a b : Int) : Det Tryz.prog M.length 154 [iv a, iv b] M (iv (smp (smp a * smp b))) M := by
  have h1 := smp_bd a
  have h2 := smp_bd b
  have h3 := prod_bd h1.1 h1.2 h2.1 h2.2
  first | (refine det_fn Tryz.func154 rfl Tryz.ntmps154 Tryz.results154 rfl rfl rfl (by simp) ?_) | (refine det_fnC Tryz.func154 rfl Tryz.ntmps154 Tryz.results154 rfl rfl (by simp) ?_)
  simp
  refine awCall_det' (l01Wrap_t _) (by simp) ?_
  try simp
  refine awCall_det' (l01Wrap_t _) (by simp) ?_
  simp (disch := omega) [wrap_in]
  refine awCall_det' (l01Wrap_t _) (by simp) ?_
  simp [Keeps.refl]
theorem l03At_s {M : Mem} {lo hi : Nat} {u : Value} {l : List Int} (i : Int) (h : SlV intP lo hi M u l) : Det Tryz.prog M.length 153 [u, iv i] M (iv (atL l i)) M := by
  obtain ⟨A, n, c, rfl, h1, h2, h3⟩ := h
  have hl := h3.1
  replace h3 := h3.sl
  unfold atL
  rw [hl]
  first | (refine det_fn Tryz.func153 rfl Tryz.ntmps153 Tryz.results153 rfl rfl rfl (by simp) ?_) | (refine det_fnC Tryz.func153 rfl Tryz.ntmps153 Tryz.results153 rfl rfl (by simp) ?_)
  simp (disch := omega) [wrap_in]
  refine awCall_det' (l00In_a _ _ _) (by simp) ?_
  by_cases hb : inB i 0 (n - 1) = true
  · have hb' := inB_iff.1 hb
    obtain ⟨k, rfl⟩ := Int.eq_ofNat_of_zero_le hb'.1
    have hlt : k < n := by omega
    obtain ⟨id, off, rfl, he, hc⟩ := h3.at_ hlt
    have c1 := int_cell hc
    simp only [Nat.mul_one] at c1
    simp (disch := omega) [hb, hlt, he, c1, Keeps.refl]
  · have hb' : ¬ (0 ≤ i ∧ i < n) := by
      intro hh
      exact hb (inB_iff.2 ⟨hh.1, by omega⟩)
    simp [hb, hb', Keeps.refl]
theorem size_ia {M : Mem} {A : Option Addr} {n c : Nat} (hn : n ≤ 9223372036854775807) : Det Tryz.prog M.length 155 [.slice A n c] M (iv n) M := by
  first | (refine det_fn Tryz.func155 rfl Tryz.ntmps155 Tryz.results155 rfl rfl rfl (by simp) ?_) | (refine det_fnC Tryz.func155 rfl Tryz.ntmps155 Tryz.results155 rfl rfl (by simp) ?_)
  simp (disch := omega) [wrap_in, Keeps.refl]
theorem at_i {M : Mem} {lo hi : Nat} {u : Value} {l : List Int} (i : Int) (h0 : 0 ≤ i) (h : SlV intP lo hi M u l) : Det Tryz.prog M.length 156 [u, iv i] M (iv (atL l i)) M := by
  obtain ⟨A, n, c, rfl, h1, h2, h3⟩ := h
  have hl := h3.1
  replace h3 := h3.sl
  unfold atL
  rw [hl]
  obtain ⟨k, rfl⟩ := Int.eq_ofNat_of_zero_le h0
  first | (refine det_fn Tryz.func156 rfl Tryz.ntmps156 Tryz.results156 rfl rfl rfl (by simp) ?_) | (refine det_fnC Tryz.func156 rfl Tryz.ntmps156 Tryz.results156 rfl rfl (by simp) ?_)
  simp (disch := omega) [wrap_in]
  refine awCall_det' (size_ia (by omega)) (by simp) ?_
  simp (disch := omega) [wrap_in]
  by_cases hlt : k < n
  · obtain ⟨id, off, rfl, he, hc⟩ := h3.at_ hlt
    have c1 := int_cell hc
    simp only [Nat.mul_one] at c1
    have hg : ¬ n ≤ k := by omega
    simp (disch := omega) [hg, hlt, he, c1, Keeps.refl]
  · have hg : n ≤ k := by omega
    simp [hlt, hg, Keeps.refl]
theorem cellsL_rep (n : Nat) (x : Int) : zrow [iv x] n = cellsL intR (List.replicate n x) := by
  induction n with
  | zero => rfl
  | succ n ih => rw [zrow_succ, ih, List.replicate_succ, cellsL_cons]; rfl
theorem zeros_i {M : Mem} (n : Nat) (hn : n ≤ 4000) : Det Tryz.prog M.length 92 [iv n] M (.slice (some ⟨M.length, 0, none⟩) n n) (M ++ [.live ⟨cellsL intR (List.replicate n 0), true, true, 2, 1⟩]) := by
  refine Ctr.det ?_
  first | (refine ctr_fn Tryz.func92 rfl Tryz.ntmps92 Tryz.results92 rfl rfl (by simp) ?_) | (refine ctr_fnC Tryz.func92 rfl Tryz.ntmps92 Tryz.results92 rfl (by simp) ?_)
  simp
  exact ⟨by omega, by rw [cellsL_rep]⟩
theorem l03Zeros_s {M : Mem} {b : Nat} (n : Nat) (hn : n ≤ 4000) (hb : b ≤ M.length) : Ctr Tryz.prog b 84 [iv n] M fun v M' => Acc intR 2 M.length M' v (List.replicate n 0) ∧ Same M.length M M' := by
  first | (refine ctr_fn Tryz.func84 rfl Tryz.ntmps84 Tryz.results84 rfl rfl (by simp) ?_) | (refine ctr_fnC Tryz.func84 rfl Tryz.ntmps84 Tryz.results84 rfl (by simp) ?_)
  simp
  refine awLoop_T (fun m T M' => ∃ (k : Nat) (v : Value), k + m = n ∧ look T 0 = some (iv m) ∧ look T 3 = some v ∧ Acc intR 2 M.length M' v (List.replicate k 0) ∧ Same M.length M M') n ⟨0, .slice (some ⟨M.length, 0, none⟩) 0 0, by omega, by simp, by simp, ?_, ?_⟩ ?_
  · exact ⟨_, 0, 0, rfl, rfl, .inr ⟨M.length, true, rfl, Nat.le_refl _, by simp [cellsL]⟩⟩
  · exact ⟨by simp, fun i s _ hs => (keeps_app _).get hs⟩
  rintro m T M1 ⟨k, v, hm, t0, t3, ha, hs⟩
  by_cases hlt : 0 < m
  · simp (disch := omega) [t0, t3, hlt]
    rw [fill1I, ow_some]
    simp
    have ha0 := ha
    obtain ⟨A, q, c, rfl, -, -⟩ := ha0
    have ha' : Acc intR 2 M.length (M1 ++ [Slot.live ⟨[iv 0], true, true, 2, 1⟩]) _ _ := ha.keeps (keeps_app _)
    have hl1 := hs.1
    try simp [t3]
    refine Acc.append (R := intR) (e := 2) (by_ := 8) (a := 0) ha' (by omega) (by simp; omega) (by omega) (by simp) (by kernel_rfl) (by simp [srcOf, intR, iv]) (by rfl) (by simp; omega) (by unfold maxLen; simp; omega) ?_
    intro v' M' ha2 hs2
    simp (disch := omega) [t0, wrap_in]
    refine lpI (m - 1) (by omega) ⟨k + 1, v', by omega, by simp; omega, by simp, ?_, ?_⟩
    · rw [List.replicate_succ']; exact ha2
    · exact ⟨by have := hs2.1; simp at this; omega, fun i s h1 h2 => hs2.2 i s h1 ((keeps_app _).get (hs.2 i s h1 h2))⟩
  · obtain rfl : m = 0 := by omega
    obtain rfl : k = n := by omega
    simp [t0, t3, ha, hs]
theorem l03Ok_t {M : Mem} {lo hi : Nat} {u : Value} {l : List Int} (h : SlV intP lo hi M u l) : Det Tryz.prog M.length 224 [u] M (.bool (sigB l)) M := by
  by_cases hb : l.length ≤ 4000
  · have : sigB l = areSB l := by unfold sigB; simp [hb]
    rw [this]
    exact l03Ok_s h hb
  · have : sigB l = false := by unfold sigB; simp [hb]
    rw [this]
    obtain ⟨A, n, c, rfl, h1, h2, h3⟩ := h
    have hl := h3.1
    have e0 : (4000 : Int) < n := by omega
    first | (refine det_fn Tryz.func224 rfl Tryz.ntmps224 Tryz.results224 rfl rfl rfl (by simp) ?_) | (refine det_fnC Tryz.func224 rfl Tryz.ntmps224 Tryz.results224 rfl rfl (by simp) ?_)
    simp [e0, Keeps.refl]
end Go.Proofs.YtimijeeihicohaaGreat
