/- Nodes and patches: the reference's tests. No conditions. -/
import Derived.Test.YtffbocbjmhkikaaI9
namespace Go.Proofs.Ytffbocbjmhkikaa
open Go.RowKit
set_option linter.unusedVariables false
set_option linter.unusedSimpArgs false
set_option maxRecDepth 100000
attribute [local simp] List.getElem?_cons_zero
attribute [local irreducible] awCond awCall awLoop awDraw ow retQ retC resQ Keeps
theorem l00Min_t {M : Mem} (a b : Int) : Det Try.prog M.length 188 [iv a, iv b] M (iv (min a b)) M := by
  first | (refine det_fn Try.func188 rfl Try.ntmps188 Try.results188 rfl rfl rfl (by simp) ?_) | (refine det_fnC Try.func188 rfl Try.ntmps188 Try.results188 rfl rfl (by simp) ?_)
  simp
  by_cases h : a < b
  · simp [h, Keeps.refl]; omega
  · simp [h, Keeps.refl]; omega
theorem l00Max_v {M : Mem} (a b : Int) : Det Try.prog M.length 161 [iv a, iv b] M (iv (max a b)) M := by
  first | (refine det_fn Try.func161 rfl Try.ntmps161 Try.results161 rfl rfl rfl (by simp) ?_) | (refine det_fnC Try.func161 rfl Try.ntmps161 Try.results161 rfl rfl (by simp) ?_)
  simp
  by_cases h : b < a
  · simp [h, Keeps.refl]; omega
  · simp [h, Keeps.refl]; omega
theorem fill10I (a b c d e f g h i j : Int) : Instr.fill (fun i => some (i, 1)) (zrow [iv 0] 10).toArray [(0, iv a), (1, iv b), (2, iv c), (3, iv d), (4, iv e), (5, iv f), (6, iv g), (7, iv h), (8, iv i), (9, iv j)] = some #[iv a, iv b, iv c, iv d, iv e, iv f, iv g, iv h, iv i, iv j] := by
  have := fill_recs intR [a, b, c, d, e, f, g, h, i, j] (n := 10) (z := [iv 0]) (by omega) rfl rfl
  simp [Instr.fill, Value.cells, zrow]
theorem l06HasA_s {M : Mem} (z : Int) : Det Try.prog M.length 187 [iv z] M (.bool (decide (z ∈ hasAL))) M := by
  first | (refine det_fn Try.func187 rfl Try.ntmps187 Try.results187 rfl rfl rfl (by simp) ?_) | (refine det_fnC Try.func187 rfl Try.ntmps187 Try.results187 rfl rfl (by simp) ?_)
  simp [fill10I]
  have hd := l00Has_s z (lit_slv (M := M) (n := 10) (l := hasAL) (cs := [iv 1, iv 2, iv 5, iv 6, iv 10, iv 11, iv 12, iv 13, iv 14, iv 17]) (e := 2) rfl rfl (by omega))
  refine awCall_det' hd (by simp) ?_
  simp [keeps_app]
theorem fill18I : Instr.fill (fun i => some (i, 1)) (zrow [iv 0] 18).toArray [(0, iv (-1)), (1, iv 0), (2, iv 0), (3, iv 2), (4, iv 2), (5, iv 1), (6, iv 1), (7, iv 1), (8, iv 1), (9, iv 2), (10, iv 1), (11, iv 1), (12, iv 1), (13, iv 1), (14, iv 0), (15, iv 3), (16, iv 2), (17, iv 1)] = some #[iv (-1), iv 0, iv 0, iv 2, iv 2, iv 1, iv 1, iv 1, iv 1, iv 2, iv 1, iv 1, iv 1, iv 1, iv 0, iv 3, iv 2, iv 1] := by
  simp [Instr.fill, Value.cells, zrow]
theorem l06Arity_s {M : Mem} (z : Int) (hz : inB z 1 17 = true) : Det Try.prog M.length 159 [iv z] M (iv (el arityL z.toNat)) M := by
  have hz' := inB_iff.1 hz
  obtain ⟨k, rfl⟩ := Int.eq_ofNat_of_zero_le (show 0 ≤ z by omega)
  have hk : k < 18 := by omega
  have hk' : (k : Int) < 18 := by omega
  have hg : (cellsL intR arityL)[k]? = some (iv (el arityL k)) := by
    have := cellsL_get intR (l := arityL) (i := k) (j := 0) hk (by omega)
    rw [Nat.mul_one, Nat.add_zero] at this
    rw [this]; rfl
  replace hg : ([iv (-1), iv 0, iv 0, iv 2, iv 2, iv 1, iv 1, iv 1, iv 1, iv 2, iv 1, iv 1, iv 1, iv 1, iv 0, iv 3, iv 2, iv 1] : List Value)[k]? = some (iv (el arityL k)) := hg
  first | (refine det_fn Try.func159 rfl Try.ntmps159 Try.results159 rfl rfl rfl (by simp) ?_) | (refine det_fnC Try.func159 rfl Try.ntmps159 Try.results159 rfl rfl (by simp) ?_)
  simp only [Int.toNat_natCast]
  generalize el arityL k = y at hg ⊢
  simp (disch := omega) [fill18I, hk']
  obtain ⟨_, e⟩ := List.getElem?_eq_some_iff.1 hg
  exact ⟨e, keeps_app _⟩
set_option maxHeartbeats 1000000 in
theorem l06A_s {M : Mem} {id off : Nat} {x : Node} {u : Value} (t : Int) (ht : 0 ≤ t) (ht' : t ≤ 1099511627776) (hc : Cl M id off [iv x.k, iv x.a, iv x.b, u]) : Det Try.prog M.length 182 [.pointer (some ⟨id, off, none⟩), iv t] M (.bool (aB x t)) M := by
  have c0 : cellAt M id off = some (iv x.k) := hc 0 _ rfl
  have c1 : cellAt M id (off + 1) = some (iv x.a) := hc 1 _ rfl
  unfold aB
  first | (refine det_fn Try.func182 rfl Try.ntmps182 Try.results182 rfl rfl rfl (by simp) ?_) | (refine det_fnC Try.func182 rfl Try.ntmps182 Try.results182 rfl rfl (by simp) ?_)
  simp (disch := omega) [c0]
  by_cases k1 : x.k = 1
  · simp (disch := omega) [k1, c1]
    refine awCall_det' (l00In_a _ _ _) (Nat.le_refl _) ?_
    simp [Keeps.refl]
  by_cases k6 : x.k = 6
  · simp (disch := omega) [k6, c1]
    refine awCall_det' (l00In_a _ _ _) (Nat.le_refl _) ?_
    simp [Keeps.refl]
  by_cases k10 : x.k = 10
  · simp (disch := omega) [k10, c1]
    refine awCall_det' (l00In_a _ _ _) (Nat.le_refl _) ?_
    simp [Keeps.refl]
  by_cases k11 : x.k = 11
  · simp (disch := omega) [k11, c1]
    refine awCall_det' (l00In_a _ _ _) (Nat.le_refl _) ?_
    simp [Keeps.refl]
  by_cases k13 : x.k = 13
  · simp (disch := omega) [k13]
    refine awDraw_E 8 [[],[0],[1,0],[2,1,0],[],[4],[5,4],[6,5,4],[3,2,1,0,7,6,5,4],[8,3,2,1,0,7,6,5,4]] (by kernel_rfl) (by kernel_rfl) ?_
    simp (disch := omega) [c1]
    refine awCall_det' (l00Max_v t 0) (Nat.le_refl _) ?_
    simp
    refine awCall_det' (l00Min_t (max t 0) 4) (Nat.le_refl _) ?_
    simp (disch := omega) [wrap_in]
    refine awCall_det' (l00In_a x.a 0 (min (max t 0) 4 - 1)) (Nat.le_refl _) ?_
    simp [Keeps.refl, k13]
  simp (disch := omega) [k1, k6, k10, k11, k13, c0]
  refine awCall_det' (l06HasA_s x.k) (Nat.le_refl _) ?_
  by_cases hA : x.k ∈ hasAL
  · simp (disch := omega) [hA, c1]
    refine awCall_det' (l01Sample_a x.a) (Nat.le_refl _) ?_
    simp [Keeps.refl, sampleB, k1, k6, k10, k11, k13]
  · simp (disch := omega) [hA, c1, Keeps.refl, k1, k6, k10, k11, k13]
set_option maxHeartbeats 1000000 in
theorem l06Ok_s {M : Mem} {lo hi id off : Nat} {us : List Value} {x : Node} (t : Int) (ht : 0 ≤ t) (ht' : t ≤ 1099511627776) (h : nodeP.rd lo hi M x us) (hc : Cl M id off us) : Det Try.prog M.length 168 [.pointer (some ⟨id, off, none⟩), iv t] M (.bool (nodeB2 x t)) M := by
  obtain ⟨u, rfl, hu⟩ := h
  have hc4 := hc
  obtain ⟨A, n, c, rfl, h1, h2, h3⟩ := hu
  have hl := h3.1
  replace h3 := h3.sl
  have c0 : cellAt M id off = some (iv x.k) := hc 0 _ rfl
  have c2 : cellAt M id (off + 2) = some (iv x.b) := hc 2 _ rfl
  have c3 : cellAt M id (off + 3) = some (.slice A n c) := hc 3 _ rfl
  have kind : Det Try.prog M.length 181 [iv x.k] M (.bool (inB x.k 1 17)) M := by
    first | (refine det_fn Try.func181 rfl Try.ntmps181 Try.results181 rfl rfl rfl (by simp) ?_) | (refine det_fnC Try.func181 rfl Try.ntmps181 Try.results181 rfl rfl (by simp) ?_)
    simp
    refine awCall_det' (l00In_a _ _ _) (by simp) ?_
    simp [Keeps.refl]
  first | (refine det_fn Try.func168 rfl Try.ntmps168 Try.results168 rfl rfl rfl (by simp) ?_) | (refine det_fnC Try.func168 rfl Try.ntmps168 Try.results168 rfl rfl (by simp) ?_)
  simp
  refine awDraw_E 23 [[],[0],[1,0],[2,1,0],[3,2,1,0],[4,3,2,1,0],[5,4,3,2,1,0],[6,5,4,3,2,1,0],[6,5,4,3,2,1,0],[7,6,5,4,3,2,1,0,8],[9,7,6,5,4,3,2,1,0,8],[6,5,4,3,2,1,0,10,9,7,8],[11,6,5,4,3,2,1,0,10,9,7,8],[12,11,6,5,4,3,2,1,0,10,9,7,8],[13,12,11,6,5,4,3,2,1,0,10,9,7,8],[14,13,12,11,6,5,4,3,2,1,0,10,9,7,8],[15,14,13,12,11,6,5,4,3,2,1,0,10,9,7,8],[16,15,14,13,12,11,6,5,4,3,2,1,0,10,9,7,8],[12,11,6,5,4,3,2,1,0,10,9,7,8],[18,12,11,6,5,4,3,2,1,0,10,9,7,8],[19,18,12,11,6,5,4,3,2,1,0,10,9,7,8],[20,19,18,12,11,6,5,4,3,2,1,0,10,9,7,8],[21,20,19,18,12,11,6,5,4,3,2,1,0,10,9,7,8],[17,16,15,14,13,12,11,6,5,4,3,2,1,0,10,9,7,8,22,21,20,19,18],[12,11,6,5,4,3,2,1,0,10,9,7,8,23,17,16,15,14,13,22,21,20,19,18]] (by kernel_rfl) (by kernel_rfl) ?_
  simp (disch := omega) [c0]
  refine awCall_det' kind (Nat.le_refl _) ?_
  by_cases hk : inB x.k 1 17 = true
  case neg =>
    rw [Bool.not_eq_true] at hk
    simp [hk, Keeps.refl, nodeB2]
  simp [hk]
  refine awCall_det' (l06A_s t ht ht' hc4) (Nat.le_refl _) ?_
  by_cases ha : aB x t = true
  case neg =>
    rw [Bool.not_eq_true] at ha
    simp [ha, hk, Keeps.refl, nodeB2]
  simp (disch := omega) [ha, c3, c0]
  refine awCall_det' (l06Arity_s x.k hk) (Nat.le_refl _) ?_
  by_cases har : (n : Int) = el arityL x.k.toNat
  case neg => simp [ha, hk, har, Keeps.refl, nodeB2, hl]
  have key : nodeB2 x t = (x.from_.all (fun f => inB f 0 23) && if x.k = 17 then inB x.b 1 16 else decide (x.b = 0)) := by
    unfold nodeB2
    rw [hk, ha, hl, decide_eq_true har]
    rfl
  rw [key]
  clear key
  generalize hB : (x.from_.all (fun f => inB f 0 23) && if x.k = 17 then inB x.b 1 16 else decide (x.b = 0)) = B
  simp [har]
  refine awLoop_T (fun m T M' => ∃ k : Nat, k + m = n ∧ M' = M ∧ look T 5 = some (iv k) ∧ look T 0 = some (.pointer (some ⟨id, off, none⟩)) ∧ ∀ i, i < k → inB (el x.from_ i) 0 23 = true) n ⟨0, by omega, rfl, by simp, by simp, fun i hi => by omega⟩ ?_
  rintro m T M' ⟨k, hm, rfl, t5, t0, hkk⟩
  by_cases hlt : k < n
  · obtain ⟨id', off', rfl, he, hc'⟩ := h3.at_ hlt
    have c1 := int_cell hc'
    simp only [Nat.mul_one] at c1
    simp (disch := omega) [t5, t0, c3, hlt, c1, he]
    refine awCall_det' (l00In_a (el x.from_ k) 0 23) (Nat.le_refl _) ?_
    by_cases hs : inB (el x.from_ k) 0 23 = true
    · simp (disch := omega) [hs, t5, t0, wrap_in]
      refine lpI (m - 1) (by omega) ⟨k + 1, by omega, rfl, by simp, by simp [t0], fun i hi => ?_⟩
      by_cases e : i = k
      · rw [e]; exact hs
      · exact hkk i (by omega)
    · rw [Bool.not_eq_true] at hs
      simp [hs]
      exact ⟨by rw [← hB, all_no (p := fun f => inB f 0 23) (show k < x.from_.length by omega) hs]; rfl, Keeps.refl _⟩
  · obtain rfl : k = n := by omega
    have hall : x.from_.all (fun f => inB f 0 23) = true := all_yes fun i hi => hkk i (by omega)
    rw [hall, Bool.true_and] at hB
    by_cases k17 : x.k = 17
    · rw [if_pos k17] at hB
      simp (disch := omega) [t5, t0, c3, c0, k17, c2]
      refine awCall_det' (l00In_a x.b 1 16) (Nat.le_refl _) ?_
      simp [hB, Keeps.refl]
    · rw [if_neg k17] at hB
      simp (disch := omega) [t5, t0, c3, c0, k17, c2, hB, Keeps.refl]
end Go.Proofs.Ytffbocbjmhkikaa
