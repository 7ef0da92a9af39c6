/- Patches: the reference's test of their form. No conditions. -/
import Derived.Test.YtffbocbjmhkikaaI10
namespace Go.Proofs.Ytffbocbjmhkikaa
open Go.RowKit
set_option linter.unusedVariables false
set_option linter.unusedSimpArgs false
set_option maxRecDepth 100000
attribute [local simp] List.getElem?_cons_zero
attribute [local irreducible] awCond awCall awLoop awDraw ow retQ retC resQ Keeps
def nodeF2 (p : Patch) (x : Node) : Bool := nodeB2 x p.tabs.length && (!(decide (x.k = 1) && decide (p.inp ≤ x.a)) && x.from_.all fun f => decide (f < p.nodes.length))
def formB2 (p : Patch) : Bool := (inB p.inp 0 4 && tablesB p.tabs && decide (p.nodes.length ≤ 24) && decide (p.outs.length ≤ 4)) && (p.nodes.all (nodeF2 p) && idxB p.nodes.length p.outs)
theorem nodeF_eq (p : Patch) (x : Node) : nodeF p x = nodeF2 p x := by
  unfold nodeF nodeF2
  rw [nodeB_eq]
  by_cases hb : nodeB2 x p.tabs.length = true
  case neg => simp [hb]
  have hf : x.from_.all (fun f => inB f 0 23) = true := by
    unfold nodeB2 at hb
    simp only [Bool.and_eq_true] at hb
    exact hb.2.2.2.1
  have e : idxB p.nodes.length x.from_ = x.from_.all fun f => decide (f < p.nodes.length) := by
    unfold idxB
    rw [Bool.eq_iff_iff, List.all_eq_true, List.all_eq_true]
    constructor
    · intro h y hy
      have := inB_iff.1 (h y hy)
      simp; omega
    · intro h y hy
      have h1 := inB_iff.1 (List.all_eq_true.1 hf y hy)
      have h2 := h y hy
      simp at h2
      exact inB_iff.2 (by omega)
  rw [e, hb, Bool.true_and, Bool.true_and, Bool.and_comm]
theorem formB_eq (p : Patch) : formB p = formB2 p := by
  unfold formB formB2
  have e : p.nodes.all (nodeF p) = p.nodes.all (nodeF2 p) := by
    congr 1
    funext x
    exact nodeF_eq p x
  rw [e]
  cases inB p.inp 0 4 <;> cases tablesB p.tabs <;> cases decide (p.nodes.length ≤ 24) <;> cases decide (p.outs.length ≤ 4) <;> cases idxB p.nodes.length p.outs <;> cases p.nodes.all (nodeF2 p) <;> rfl
set_option maxHeartbeats 2000000 in
theorem l07Formed_s {M : Mem} {lo hi id0 off0 : Nat} {us : List Value} {x : Patch} (h : patchP.rd lo hi M x us) (hc0 : Cl M id0 off0 us) : Ctr Try.prog M.length 146 [.pointer (some ⟨id0, off0, none⟩)] M fun r M' => r = .bool (formB x) ∧ Keeps M M' := by
  obtain ⟨u1, u2, u3, rfl, hu1, hu2, hu3⟩ := h
  have hu1V := hu1
  obtain ⟨A1, n1, c1, rfl, r1, r2, r3⟩ := hu1
  obtain ⟨A2, n2, c2, rfl, p1, p2, p3⟩ := hu2
  obtain ⟨A3, n3, c3, rfl, q1, q2, q3⟩ := hu3
  have ht := r3.1
  have hn := p3.1
  have ho := q3.1
  have b0 : cellAt M id0 off0 = some (iv x.inp) := hc0 0 _ rfl
  have b1 : cellAt M id0 (off0 + 1) = some (.slice A1 n1 c1) := hc0 1 _ rfl
  have b2 : cellAt M id0 (off0 + 2) = some (.slice A2 n2 c2) := hc0 2 _ rfl
  have b3 : cellAt M id0 (off0 + 3) = some (.slice A3 n3 c3) := hc0 3 _ rfl
  have no : (inB x.inp 0 4 && tablesB x.tabs && decide (x.nodes.length ≤ 24) && decide (x.outs.length ≤ 4)) = false → formB2 x = false := fun h => by unfold formB2; rw [h]; rfl
  rw [hn, ho] at no
  rw [formB_eq]
  first | (refine ctr_fn Try.func146 rfl Try.ntmps146 Try.results146 rfl rfl (by simp) ?_) | (refine ctr_fnC Try.func146 rfl Try.ntmps146 Try.results146 rfl (by simp) ?_)
  simp (disch := omega) [b0, b2]
  refine awCall_det' (l00In_a x.inp 0 4) (by simp) ?_
  by_cases g1 : inB x.inp 0 4 = true
  case neg =>
    rw [Bool.not_eq_true] at g1
    simp [g1]
    exact ⟨no (by rw [g1]; rfl), Keeps.refl _⟩
  simp (disch := omega) [g1, b1]
  refine awCall_det' (l06Tables_s hu1V) (by simp) ?_
  by_cases g2 : tablesB x.tabs = true
  case neg =>
    rw [Bool.not_eq_true] at g2
    simp [g2]
    exact ⟨no (by rw [g2]; simp), Keeps.refl _⟩
  simp [g2]
  by_cases g3 : n2 ≤ 24
  case neg =>
    have g3' : (24 : Int) < n2 := by omega
    simp [g3']
    exact ⟨no (by simp [g3]), Keeps.refl _⟩
  have g3' : ¬ (24 : Int) < n2 := by omega
  by_cases g4 : n3 ≤ 4
  case neg =>
    have g4' : (4 : Int) < n3 := by omega
    simp (disch := omega) [g3', g4', b3]
    exact ⟨no (by simp [g4]), Keeps.refl _⟩
  have g4' : ¬ (4 : Int) < n3 := by omega
  simp (disch := omega) [g3', g4', b3]
  have hts : x.tabs.length ≤ 4 := by
    unfold tablesB at g2
    simp only [Bool.and_eq_true, decide_eq_true_eq] at g2
    exact g2.2
  have key : formB2 x = (x.nodes.all (nodeF2 x) && idxB n2 x.outs) := by unfold formB2; rw [g1, g2, hn, ho]; simp [g3, g4]
  rw [key]
  clear key no
  have bad : ∀ k, k < n2 → nodeF2 x (el x.nodes k) = false → (x.nodes.all (nodeF2 x) && idxB n2 x.outs) = false := fun k hk h => by rw [all_no (by omega) h]; rfl
  generalize hG : (x.nodes.all (nodeF2 x) && idxB n2 x.outs) = G at bad ⊢
  refine awLoop_T (fun m T M' => ∃ k : Nat, k + m = n2 ∧ M' = M ∧ look T 4 = some (iv k) ∧ look T 3 = some (iv n2) ∧ look T 0 = some (.pointer (some ⟨id0, off0, none⟩)) ∧ ∀ i, i < k → nodeF2 x (el x.nodes i) = true) n2 ⟨0, by omega, rfl, by simp, by simp, by simp, fun i hi => by omega⟩ ?_
  rintro m T M1 ⟨k, hm, rfl, t4, t3, t0, hkk⟩
  by_cases hlt : k < n2
  case neg =>
    obtain rfl : k = n2 := by omega
    have hall : x.nodes.all (nodeF2 x) = true := all_yes fun i hi => hkk i (by omega)
    rw [hall, Bool.true_and] at hG
    simp (disch := omega) [t4, t3]
    refine awLoop_T (fun m T M' => ∃ j : Nat, j + m = n3 ∧ M' = M1 ∧ look T 7 = some (iv j) ∧ look T 3 = some (iv k) ∧ look T 0 = some (.pointer (some ⟨id0, off0, none⟩)) ∧ ∀ i, i < j → inB (el x.outs i) 0 (k - 1) = true) n3 ⟨0, by omega, rfl, by simp, by simp [t3], by simp [t0], fun i hi => by omega⟩ ?_
    clear t4 t3 t0 T hkk
    rintro m' T M2 ⟨j, hj, rfl, t7, t3, t0, hjj⟩
    by_cases hlt2 : j < n3
    · obtain ⟨id, off, rfl, he, hc⟩ := q3.sl.at_ hlt2
      have d1 := int_cell hc
      simp only [Nat.mul_one] at d1
      simp (disch := omega) [t7, t3, t0, b3, hlt2, he, d1, wrap_in]
      refine awCall_det' (l00In_a (el x.outs j) 0 (k - 1)) (Nat.le_refl _) ?_
      by_cases hs : inB (el x.outs j) 0 (k - 1) = true
      · simp (disch := omega) [hs, t7, t3, t0, wrap_in]
        refine lpI (m' - 1) (by omega) ⟨j + 1, by omega, rfl, by simp, by simp [t3], by simp [t0], fun i hi => ?_⟩
        by_cases e : i = j
        · rw [e]; exact hs
        · exact hjj i (by omega)
      · rw [Bool.not_eq_true] at hs
        simp [hs]
        exact ⟨by rw [← hG]; exact all_no (p := fun y => inB y 0 ((k : Int) - 1)) (show j < x.outs.length by omega) hs, Keeps.refl _⟩
    · obtain rfl : j = n3 := by omega
      simp (disch := omega) [t7, t0, b3]
      exact ⟨by rw [← hG]; exact all_yes fun i hi => hjj i (by omega), Keeps.refl _⟩
  obtain ⟨id, off, us, rfl, he, hrd, hc⟩ := p3.at_ hlt
  have hrd2 := hrd
  obtain ⟨u, rfl, hu⟩ := hrd2
  obtain ⟨A4, n4, c4, rfl, s1, s2, s3⟩ := hu
  have hfl := s3.1
  replace s3 := s3.sl
  have d0 : cellAt M1 id (off + k * 4) = some (iv (el x.nodes k).k) := hc 0 _ rfl
  have d1 : cellAt M1 id (off + k * 4 + 1) = some (iv (el x.nodes k).a) := hc 1 _ rfl
  have d3 : cellAt M1 id (off + k * 4 + 3) = some (.slice A4 n4 c4) := hc 3 _ rfl
  have kb : nodeF2 x (el x.nodes k) = (nodeB2 (el x.nodes k) n1 && (!(decide ((el x.nodes k).k = 1) && decide (x.inp ≤ (el x.nodes k).a)) && (el x.nodes k).from_.all fun f => decide (f < (n2 : Int)))) := by unfold nodeF2; rw [ht, hn]
  have bad' := bad k hlt
  have next : nodeF2 x (el x.nodes k) = true → ∀ i, i < k + 1 → nodeF2 x (el x.nodes i) = true := fun h i hi => by
    by_cases e : i = k
    · rw [e]; exact h
    · exact hkk i (by omega)
  generalize hy : el x.nodes k = y at *
  simp (disch := omega) [t4, t3, t0, hlt, b2, he]
  refine awDraw_E 23 [[],[],[1],[2,1],[3,2,1],[4,3,2,1],[0,5,4,3,2,1],[6,0,5,4,3,2,1],[7,6,0,5,4,3,2,1],[8,7,6,0,5,4,3,2,1],[9,8,7,6,0,5,4,3,2,1],[10,9,8,7,6,0,5,4,3,2,1],[11,10,9,8,7,6,0,5,4,3,2,1],[12,11,10,9,8,7,6,0,5,4,3,2,1],[13,12,11,10,9,8,7,6,0,5,4,3,2,1],[14,13,12,11,10,9,8,7,6,0,5,4,3,2,1],[15,14,13,12,11,10,9,8,7,6,0,5,4,3,2,1],[16,15,14,13,12,11,10,9,8,7,6,0,5,4,3,2,1],[17,16,15,14,13,12,11,10,9,8,7,6,0,5,4,3,2,1],[14,13,12,11,10,9,8,7,6,0,5,4,3,2,1],[19,14,13,12,11,10,9,8,7,6,0,5,4,3,2,1],[20,19,14,13,12,11,10,9,8,7,6,0,5,4,3,2,1],[21,20,19,14,13,12,11,10,9,8,7,6,0,5,4,3,2,1],[18,17,16,15,14,13,12,11,10,9,8,7,6,0,5,4,3,2,1,22,21,20,19],[14,13,12,11,10,9,8,7,6,0,5,4,3,2,1,23,18,17,16,15,22,21,20,19],[8,7,6,0,5,4,3,2,1,24,14,13,12,11,10,9,23,18,17,16,15,22,21,20,19]] (by kernel_rfl) (by kernel_rfl) ?_
  simp (disch := omega) [t0, b1]
  refine awCall_det' (l06Ok_s n1 (by omega) (by omega) hrd hc) (Nat.le_refl _) ?_
  by_cases f1 : nodeB2 y n1 = true
  case neg =>
    rw [Bool.not_eq_true] at f1
    simp [f1]
    exact ⟨bad' (by rw [kb, f1]; rfl), Keeps.refl _⟩
  have rest : (decide (y.k = 1) && decide (x.inp ≤ y.a)) = false → nodeF2 x y = y.from_.all fun f => decide (f < (n2 : Int)) := fun h => by rw [kb, f1, h]; rfl
  by_cases f4 : (decide (y.k = 1) && decide (x.inp ≤ y.a)) = true
  case pos =>
    have f4' := f4
    simp only [Bool.and_eq_true, decide_eq_true_eq] at f4'
    simp (disch := omega) [f1, f4'.1, f4'.2, d0, d1, b0, t0]
    exact ⟨bad' (by rw [kb, f4]; simp), Keeps.refl _⟩
  rw [Bool.not_eq_true] at f4
  have rest := rest f4
  by_cases f3 : y.k = 1
  case' pos =>
    have f5 : ¬ x.inp ≤ y.a := by simpa [f3] using f4
    simp (disch := omega) [f1, f3, f5, d0, d1, b0, t0]
  case' neg =>
    simp (disch := omega) [f1, f3, d0, d1, b0, t0]
  all_goals
    refine awLoop_T (fun m' T M' => ∃ j : Nat, j + m' = n4 ∧ M' = M1 ∧ look T 6 = some (iv j) ∧ look T 5 = some (.pointer (some ⟨id, off + k * 4, none⟩)) ∧ look T 4 = some (iv k) ∧ look T 3 = some (iv n2) ∧ look T 0 = some (.pointer (some ⟨id0, off0, none⟩)) ∧ ∀ i, i < j → decide (el y.from_ i < (n2 : Int)) = true) n4 ⟨0, by omega, rfl, by simp, by simp, by simp [t4], by simp [t3], by simp [t0], fun i hi => by omega⟩ ?_
    clear t4 t3 t0 T
    rintro m' T M2 ⟨j, hj, rfl, t6, t5, t4, t3, t0, hjj⟩
    by_cases hlt2 : j < n4
    · obtain ⟨id', off', rfl, he', hc'⟩ := s3.at_ hlt2
      have dd := int_cell hc'
      simp only [Nat.mul_one] at dd
      by_cases hs : el y.from_ j < (n2 : Int)
      · have hs' : ¬ (n2 : Int) ≤ el y.from_ j := by omega
        simp (disch := omega) [t6, t5, t3, d3, hlt2, he', dd, hs', wrap_in]
        refine lpI (m' - 1) (by omega) ⟨j + 1, by omega, rfl, by simp, by simp [t5], by simp [t4], by simp [t3], by simp [t0], fun i hi => ?_⟩
        by_cases e : i = j
        · rw [e]; exact decide_eq_true hs
        · exact hjj i (by omega)
      · have hs' : (n2 : Int) ≤ el y.from_ j := by omega
        simp (disch := omega) [t6, t5, t3, d3, hlt2, he', dd, hs']
        exact ⟨bad' (by rw [rest]; exact all_no (p := fun f => decide (f < (n2 : Int))) (show j < y.from_.length by omega) (decide_eq_false hs)), Keeps.refl _⟩
    · obtain rfl : j = n4 := by omega
      have hall : (y.from_.all fun f => decide (f < (n2 : Int))) = true := all_yes fun i hi => hjj i (by omega)
      simp (disch := omega) [t6, t5, d3, t4, wrap_in]
      exact lpI (m - 1) (by omega) ⟨k + 1, by omega, rfl, by simp, by simp [t3], by simp [t0], next (by rw [rest]; exact hall)⟩
theorem l07Formed_d {M : Mem} {lo hi id0 off0 : Nat} {us : List Value} {x : Patch} (h : patchP.rd lo hi M x us) (hc0 : Cl M id0 off0 us) : Det Try.prog M.length 146 [.pointer (some ⟨id0, off0, none⟩)] M (.bool (formB x)) M := (l07Formed_s h hc0).pure rfl
/-- What is taken, as the reference keeps it. -/
structure TkOut (ns : List Node) (tk : List Bool) (out : List Int) : Prop where
  len : tk.length = ns.length
  iff : ∀ i : Nat, i < ns.length → (el tk i = true ↔ (i : Int) ∈ out)
theorem TkOut.nil (ns : List Node) : TkOut ns (List.replicate ns.length false) [] := ⟨by simp, fun i hi => by simp [el, hi]⟩
theorem TkOut.next {ns : List Node} {tk : List Bool} {out : List Int} (h : TkOut ns tk out) {i : Nat} (hi : i < ns.length) : TkOut ns (tk.set i true) (out ++ [(i : Int)]) := by
  refine ⟨by simp [h.len], fun j hj => ?_⟩
  by_cases e : j = i
  · subst e
    have : el (tk.set j true) j = true := by simp [el, h.len, hj]
    simp [this]
  · have : el (tk.set i true) j = el tk j := by simp [el, List.getElem?_set_ne (Ne.symm e)]
    rw [this, h.iff j hj]
    simp
    omega
theorem TkOut.rdy {ns : List Node} {tk : List Bool} {out : List Int} (h : TkOut ns tk out) {i : Nat} (hi : i < ns.length) (hw : ∀ k, k < (waits (el ns i)).length → ∃ f : Nat, el (waits (el ns i)) k = f ∧ f < ns.length) :
    rdyT ns tk i = (!decide ((i : Int) ∈ out) && (waits (el ns i)).all fun f => decide (f ∈ out)) := by
  unfold rdyT
  have e1 : el tk i = decide ((i : Int) ∈ out) := by
    have := h.iff i hi
    rw [Bool.eq_iff_iff, this]
    simp
  rw [e1]
  congr 1
  generalize waits (el ns i) = W at hw
  rw [Bool.eq_iff_iff, List.all_eq_true, List.all_eq_true]
  have key : ∀ y, y ∈ W → (el tk y.toNat = true ↔ decide (y ∈ out) = true) := by
    intro y hy
    obtain ⟨k, hk, rfl⟩ := List.getElem_of_mem hy
    obtain ⟨f, hf, hfl⟩ := hw k hk
    rw [el_eq hk, hf]
    have := h.iff f hfl
    simp [this]
  exact ⟨fun hh y hy => (key y hy).1 (hh y hy), fun hh y hy => (key y hy).2 (hh y hy)⟩
theorem l07All_s {M : Mem} {lo hi lo' hi' : Nat} {u v : Value} {l o : List Int} (h : SlV intP lo hi M u l) (h' : SlV intP lo' hi' M v o) : Det Try.prog M.length 170 [u, v] M (.bool (l.all fun f => decide (f ∈ o))) M := by
  obtain ⟨A, n, c, rfl, h1, h2, h3⟩ := h
  have hv := h'
  obtain ⟨A2, n2, c2, rfl⟩ := h'.isSl
  have hl := h3.1
  replace h3 := h3.sl
  first | (refine det_fn Try.func170 rfl Try.ntmps170 Try.results170 rfl rfl rfl (by simp) ?_) | (refine det_fnC Try.func170 rfl Try.ntmps170 Try.results170 rfl rfl (by simp) ?_)
  simp
  refine awLoop_T (fun m T M' => ∃ k : Nat, k + m = n ∧ M' = M ∧ look T 5 = some (iv k) ∧ look T 0 = some (.slice A n c) ∧ look T 1 = some (.slice A2 n2 c2) ∧ ∀ i, i < k → decide (el l i ∈ o) = true) n ⟨0, by omega, rfl, by simp, by simp, by simp, fun i hi => by omega⟩ ?_
  rintro m T M' ⟨k, hm, rfl, t5, t0, t1, hk⟩
  by_cases hlt : k < n
  · obtain ⟨id, off, rfl, he, hc⟩ := h3.at_ hlt
    have c1 := int_cell hc
    simp only [Nat.mul_one] at c1
    simp (disch := omega) [t5, t0, t1, hlt, c1, he]
    refine awCall_det' (l00Has_s (el l k) hv) (Nat.le_refl _) ?_
    by_cases hs : el l k ∈ o
    · simp (disch := omega) [hs, t5, t0, t1, wrap_in]
      refine lpI (m - 1) (by omega) ⟨k + 1, by omega, rfl, by simp, by simp [t0], by simp [t1], fun i hi => ?_⟩
      by_cases e : i = k
      · rw [e]; exact decide_eq_true hs
      · exact hk i (by omega)
    · simp [hs]
      exact ⟨⟨_, el_mem (by omega), hs⟩, Keeps.refl _⟩
  · obtain rfl : k = n := by omega
    have := all_yes (p := fun f => decide (f ∈ o)) (l := l) fun i hi => hk i (by omega)
    simp [t5, t0, Keeps.refl]
    intro y hy
    have := List.all_eq_true.1 this y hy
    simpa using this
theorem l07Waits_s {M : Mem} {lo hi id off : Nat} {us : List Value} {x : Node} (h : nodeP.rd lo hi M x us) (hc : Cl M id off us) : ∃ u N, Det Try.prog M.length 171 [.pointer (some ⟨id, off, none⟩)] M u (M ++ N) ∧ ∃ lo' hi', SlV intP lo' hi' (M ++ N) u (waits x) := by
  obtain ⟨u, rfl, hu⟩ := h
  have hV := hu
  obtain ⟨A, n, c, rfl, h1, h2, h3⟩ := hu
  have c0 : cellAt M id off = some (iv x.k) := hc 0 _ rfl
  have c3 : cellAt M id (off + 3) = some (.slice A n c) := hc 3 _ rfl
  by_cases hk : x.k = 6
  · refine ⟨.slice (some ⟨M.length, 0, none⟩) 0 0, [.live ⟨[], true, true, 2, 1⟩], Ctr.det ?_, 0, 0, ⟨_, 0, 0, rfl, by omega, (fun h => by cases h), by unfold waits; rw [if_pos hk]; rfl, fun h => by omega⟩⟩
    first | (refine ctr_fn Try.func171 rfl Try.ntmps171 Try.results171 rfl rfl (by simp) ?_) | (refine ctr_fnC Try.func171 rfl Try.ntmps171 Try.results171 rfl (by simp) ?_)
    simp (disch := omega) [c0, hk]
  · refine ⟨.slice A n c, [], Ctr.det ?_, lo, hi, by unfold waits; rw [if_neg hk]; simpa using hV⟩
    first | (refine ctr_fn Try.func171 rfl Try.ntmps171 Try.results171 rfl rfl (by simp) ?_) | (refine ctr_fnC Try.func171 rfl Try.ntmps171 Try.results171 rfl (by simp) ?_)
    simp (disch := omega) [c0, hk, c3]
end Go.Proofs.Ytffbocbjmhkikaa
