/- Parts of the proof, together: Patches: the reference's test of their form. Patches and instruments: the reference's order, its test of instruments. Increments of keys. Clip: records in memory, and the laws' helpers on them. Track: a struct that holds a slice of records. Tracks: is one valid. Rows of records in which one is set. Sources and samples. Rendering a patch: plain. Tracks are rendered. No conditions. -/
import Derived.Test.YtimijeeihicohaaGreatZzPf11
import Derived.Laws.BitsLemmas
import Derived.Test.YtimijeeihicohaaGreatZzPf9
import Derived.Laws.StructEq
import Derived.Test.YtimijeeihicohaaGreatZzPf8
namespace Go.Proofs.YtimijeeihicohaaGreat
open Go.RowKit
set_option linter.unusedVariables false
set_option linter.unusedSimpArgs false
set_option maxRecDepth 100000
attribute [local simp] List.getElem?_cons_zero
attribute [local irreducible] awCond awCall awLoop awDraw ow retQ retC resQ Keeps
def nodeF2 (p : Patch) (x : Node) : Bool := nodeB2 x p.tabs.length && (!(decide (x.k = 1) && decide (p.inp ≤ x.a)) && x.from_.all fun f => decide (f < p.nodes.length))
def formB2 (p : Patch) : Bool := (inB p.inp 0 4 && tablesB p.tabs && decide (p.nodes.length ≤ 24) && decide (p.outs.length ≤ 4)) && (p.nodes.all (nodeF2 p) && idxB p.nodes.length p.outs)
theorem nodeF_eq (p : Patch) (x : Node) : nodeF p x = nodeF2 p x := by
  unfold nodeF nodeF2
  rw [nodeB_eq]
  by_cases hb : nodeB2 x p.tabs.length = true
  case neg => simp [hb]
  have hf : x.from_.all (fun f => inB f 0 23) = true := by
    unfold nodeB2 at hb
    simp only [Bool.and_eq_true] at hb
    exact hb.2.2.2.1
  have e : idxB p.nodes.length x.from_ = x.from_.all fun f => decide (f < p.nodes.length) := by
    unfold idxB
    rw [Bool.eq_iff_iff, List.all_eq_true, List.all_eq_true]
    constructor
    · intro h y hy
      have := inB_iff.1 (h y hy)
      simp; omega
    · intro h y hy
      have h1 := inB_iff.1 (List.all_eq_true.1 hf y hy)
      have h2 := h y hy
      simp at h2
      exact inB_iff.2 (by omega)
  rw [e, hb, Bool.true_and, Bool.true_and, Bool.and_comm]
theorem formB_eq (p : Patch) : formB p = formB2 p := by
  unfold formB formB2
  have e : p.nodes.all (nodeF p) = p.nodes.all (nodeF2 p) := by
    congr 1
    funext x
    exact nodeF_eq p x
  rw [e]
  cases inB p.inp 0 4 <;> cases tablesB p.tabs <;> cases decide (p.nodes.length ≤ 24) <;> cases decide (p.outs.length ≤ 4) <;> cases idxB p.nodes.length p.outs <;> cases p.nodes.all (nodeF2 p) <;> rfl
set_option maxHeartbeats 2000000 in
theorem l07Formed_s {M : Mem} {lo hi id0 off0 : Nat} {us : List Value} {x : Patch} (h : patchP.rd lo hi M x us) (hc0 : Cl M id0 off0 us) : Ctr Tryz.prog M.length 157 [.pointer (some ⟨id0, off0, none⟩)] M fun r M' => r = .bool (formB x) ∧ Keeps M M' := by
  obtain ⟨u1, u2, u3, rfl, hu1, hu2, hu3⟩ := h
  have hu1V := hu1
  obtain ⟨A1, n1, c1, rfl, r1, r2, r3⟩ := hu1
  obtain ⟨A2, n2, c2, rfl, p1, p2, p3⟩ := hu2
  obtain ⟨A3, n3, c3, rfl, q1, q2, q3⟩ := hu3
  have ht := r3.1
  have hn := p3.1
  have ho := q3.1
  have b0 : cellAt M id0 off0 = some (iv x.inp) := hc0 0 _ rfl
  have b1 : cellAt M id0 (off0 + 1) = some (.slice A1 n1 c1) := hc0 1 _ rfl
  have b2 : cellAt M id0 (off0 + 2) = some (.slice A2 n2 c2) := hc0 2 _ rfl
  have b3 : cellAt M id0 (off0 + 3) = some (.slice A3 n3 c3) := hc0 3 _ rfl
  have no : (inB x.inp 0 4 && tablesB x.tabs && decide (x.nodes.length ≤ 24) && decide (x.outs.length ≤ 4)) = false → formB2 x = false := fun h => by unfold formB2; rw [h]; rfl
  rw [hn, ho] at no
  rw [formB_eq]
  first | (refine ctr_fn Tryz.func157 rfl Tryz.ntmps157 Tryz.results157 rfl rfl (by simp) ?_) | (refine ctr_fnC Tryz.func157 rfl Tryz.ntmps157 Tryz.results157 rfl (by simp) ?_)
  simp (disch := omega) [b0, b2]
  refine awCall_det' (l00In_a x.inp 0 4) (by simp) ?_
  by_cases g1 : inB x.inp 0 4 = true
  case neg =>
    rw [Bool.not_eq_true] at g1
    simp [g1]
    exact ⟨no (by rw [g1]; rfl), Keeps.refl _⟩
  simp (disch := omega) [g1, b1]
  refine awCall_det' (l06Tables_s hu1V) (by simp) ?_
  by_cases g2 : tablesB x.tabs = true
  case neg =>
    rw [Bool.not_eq_true] at g2
    simp [g2]
    exact ⟨no (by rw [g2]; simp), Keeps.refl _⟩
  simp [g2]
  by_cases g3 : n2 ≤ 24
  case neg =>
    have g3' : (24 : Int) < n2 := by omega
    simp [g3']
    exact ⟨no (by simp [g3]), Keeps.refl _⟩
  have g3' : ¬ (24 : Int) < n2 := by omega
  by_cases g4 : n3 ≤ 4
  case neg =>
    have g4' : (4 : Int) < n3 := by omega
    simp (disch := omega) [g3', g4', b3]
    exact ⟨no (by simp [g4]), Keeps.refl _⟩
  have g4' : ¬ (4 : Int) < n3 := by omega
  simp (disch := omega) [g3', g4', b3]
  have hts : x.tabs.length ≤ 4 := by
    unfold tablesB at g2
    simp only [Bool.and_eq_true, decide_eq_true_eq] at g2
    exact g2.2
  have key : formB2 x = (x.nodes.all (nodeF2 x) && idxB n2 x.outs) := by unfold formB2; rw [g1, g2, hn, ho]; simp [g3, g4]
  rw [key]
  clear key no
  have bad : ∀ k, k < n2 → nodeF2 x (el x.nodes k) = false → (x.nodes.all (nodeF2 x) && idxB n2 x.outs) = false := fun k hk h => by rw [all_no (by omega) h]; rfl
  generalize hG : (x.nodes.all (nodeF2 x) && idxB n2 x.outs) = G at bad ⊢
  refine awLoop_T (fun m T M' => ∃ k : Nat, k + m = n2 ∧ M' = M ∧ look T 4 = some (iv k) ∧ look T 3 = some (iv n2) ∧ look T 0 = some (.pointer (some ⟨id0, off0, none⟩)) ∧ ∀ i, i < k → nodeF2 x (el x.nodes i) = true) n2 ⟨0, by omega, rfl, by simp, by simp, by simp, fun i hi => by omega⟩ ?_
  rintro m T M1 ⟨k, hm, rfl, t4, t3, t0, hkk⟩
  by_cases hlt : k < n2
  case neg =>
    obtain rfl : k = n2 := by omega
    have hall : x.nodes.all (nodeF2 x) = true := all_yes fun i hi => hkk i (by omega)
    rw [hall, Bool.true_and] at hG
    simp (disch := omega) [t4, t3]
    refine awLoop_T (fun m T M' => ∃ j : Nat, j + m = n3 ∧ M' = M1 ∧ look T 7 = some (iv j) ∧ look T 3 = some (iv k) ∧ look T 0 = some (.pointer (some ⟨id0, off0, none⟩)) ∧ ∀ i, i < j → inB (el x.outs i) 0 (k - 1) = true) n3 ⟨0, by omega, rfl, by simp, by simp [t3], by simp [t0], fun i hi => by omega⟩ ?_
    clear t4 t3 t0 T hkk
    rintro m' T M2 ⟨j, hj, rfl, t7, t3, t0, hjj⟩
    by_cases hlt2 : j < n3
    · obtain ⟨id, off, rfl, he, hc⟩ := q3.sl.at_ hlt2
      have d1 := int_cell hc
      simp only [Nat.mul_one] at d1
      simp (disch := omega) [t7, t3, t0, b3, hlt2, he, d1, wrap_in]
      refine awCall_det' (l00In_a (el x.outs j) 0 (k - 1)) (Nat.le_refl _) ?_
      by_cases hs : inB (el x.outs j) 0 (k - 1) = true
      · simp (disch := omega) [hs, t7, t3, t0, wrap_in]
        refine lpI (m' - 1) (by omega) ⟨j + 1, by omega, rfl, by simp, by simp [t3], by simp [t0], fun i hi => ?_⟩
        by_cases e : i = j
        · rw [e]; exact hs
        · exact hjj i (by omega)
      · rw [Bool.not_eq_true] at hs
        simp [hs]
        exact ⟨by rw [← hG]; exact all_no (p := fun y => inB y 0 ((k : Int) - 1)) (show j < x.outs.length by omega) hs, Keeps.refl _⟩
    · obtain rfl : j = n3 := by omega
      simp (disch := omega) [t7, t0, b3]
      exact ⟨by rw [← hG]; exact all_yes fun i hi => hjj i (by omega), Keeps.refl _⟩
  obtain ⟨id, off, us, rfl, he, hrd, hc⟩ := p3.at_ hlt
  have hrd2 := hrd
  obtain ⟨u, rfl, hu⟩ := hrd2
  obtain ⟨A4, n4, c4, rfl, s1, s2, s3⟩ := hu
  have hfl := s3.1
  replace s3 := s3.sl
  have d0 : cellAt M1 id (off + k * 4) = some (iv (el x.nodes k).k) := hc 0 _ rfl
  have d1 : cellAt M1 id (off + k * 4 + 1) = some (iv (el x.nodes k).a) := hc 1 _ rfl
  have d3 : cellAt M1 id (off + k * 4 + 3) = some (.slice A4 n4 c4) := hc 3 _ rfl
  have kb : nodeF2 x (el x.nodes k) = (nodeB2 (el x.nodes k) n1 && (!(decide ((el x.nodes k).k = 1) && decide (x.inp ≤ (el x.nodes k).a)) && (el x.nodes k).from_.all fun f => decide (f < (n2 : Int)))) := by unfold nodeF2; rw [ht, hn]
  have bad' := bad k hlt
  have next : nodeF2 x (el x.nodes k) = true → ∀ i, i < k + 1 → nodeF2 x (el x.nodes i) = true := fun h i hi => by
    by_cases e : i = k
    · rw [e]; exact h
    · exact hkk i (by omega)
  generalize hy : el x.nodes k = y at *
  simp (disch := omega) [t4, t3, t0, hlt, b2, he]
  refine awDraw_E 23 [[],[],[1],[2,1],[3,2,1],[4,3,2,1],[0,5,4,3,2,1],[6,0,5,4,3,2,1],[7,6,0,5,4,3,2,1],[8,7,6,0,5,4,3,2,1],[9,8,7,6,0,5,4,3,2,1],[10,9,8,7,6,0,5,4,3,2,1],[11,10,9,8,7,6,0,5,4,3,2,1],[12,11,10,9,8,7,6,0,5,4,3,2,1],[13,12,11,10,9,8,7,6,0,5,4,3,2,1],[14,13,12,11,10,9,8,7,6,0,5,4,3,2,1],[15,14,13,12,11,10,9,8,7,6,0,5,4,3,2,1],[16,15,14,13,12,11,10,9,8,7,6,0,5,4,3,2,1],[17,16,15,14,13,12,11,10,9,8,7,6,0,5,4,3,2,1],[14,13,12,11,10,9,8,7,6,0,5,4,3,2,1],[19,14,13,12,11,10,9,8,7,6,0,5,4,3,2,1],[20,19,14,13,12,11,10,9,8,7,6,0,5,4,3,2,1],[21,20,19,14,13,12,11,10,9,8,7,6,0,5,4,3,2,1],[18,17,16,15,14,13,12,11,10,9,8,7,6,0,5,4,3,2,1,22,21,20,19],[14,13,12,11,10,9,8,7,6,0,5,4,3,2,1,23,18,17,16,15,22,21,20,19],[8,7,6,0,5,4,3,2,1,24,14,13,12,11,10,9,23,18,17,16,15,22,21,20,19]] (by kernel_rfl) (by kernel_rfl) ?_
  simp (disch := omega) [t0, b1]
  refine awCall_det' (l06Ok_s n1 (by omega) (by omega) hrd hc) (Nat.le_refl _) ?_
  by_cases f1 : nodeB2 y n1 = true
  case neg =>
    rw [Bool.not_eq_true] at f1
    simp [f1]
    exact ⟨bad' (by rw [kb, f1]; rfl), Keeps.refl _⟩
  have rest : (decide (y.k = 1) && decide (x.inp ≤ y.a)) = false → nodeF2 x y = y.from_.all fun f => decide (f < (n2 : Int)) := fun h => by rw [kb, f1, h]; rfl
  by_cases f4 : (decide (y.k = 1) && decide (x.inp ≤ y.a)) = true
  case pos =>
    have f4' := f4
    simp only [Bool.and_eq_true, decide_eq_true_eq] at f4'
    simp (disch := omega) [f1, f4'.1, f4'.2, d0, d1, b0, t0]
    exact ⟨bad' (by rw [kb, f4]; simp), Keeps.refl _⟩
  rw [Bool.not_eq_true] at f4
  have rest := rest f4
  by_cases f3 : y.k = 1
  case' pos =>
    have f5 : ¬ x.inp ≤ y.a := by simpa [f3] using f4
    simp (disch := omega) [f1, f3, f5, d0, d1, b0, t0]
  case' neg =>
    simp (disch := omega) [f1, f3, d0, d1, b0, t0]
  all_goals
    refine awLoop_T (fun m' T M' => ∃ j : Nat, j + m' = n4 ∧ M' = M1 ∧ look T 6 = some (iv j) ∧ look T 5 = some (.pointer (some ⟨id, off + k * 4, none⟩)) ∧ look T 4 = some (iv k) ∧ look T 3 = some (iv n2) ∧ look T 0 = some (.pointer (some ⟨id0, off0, none⟩)) ∧ ∀ i, i < j → decide (el y.from_ i < (n2 : Int)) = true) n4 ⟨0, by omega, rfl, by simp, by simp, by simp [t4], by simp [t3], by simp [t0], fun i hi => by omega⟩ ?_
    clear t4 t3 t0 T
    rintro m' T M2 ⟨j, hj, rfl, t6, t5, t4, t3, t0, hjj⟩
    by_cases hlt2 : j < n4
    · obtain ⟨id', off', rfl, he', hc'⟩ := s3.at_ hlt2
      have dd := int_cell hc'
      simp only [Nat.mul_one] at dd
      by_cases hs : el y.from_ j < (n2 : Int)
      · have hs' : ¬ (n2 : Int) ≤ el y.from_ j := by omega
        simp (disch := omega) [t6, t5, t3, d3, hlt2, he', dd, hs', wrap_in]
        refine lpI (m' - 1) (by omega) ⟨j + 1, by omega, rfl, by simp, by simp [t5], by simp [t4], by simp [t3], by simp [t0], fun i hi => ?_⟩
        by_cases e : i = j
        · rw [e]; exact decide_eq_true hs
        · exact hjj i (by omega)
      · have hs' : (n2 : Int) ≤ el y.from_ j := by omega
        simp (disch := omega) [t6, t5, t3, d3, hlt2, he', dd, hs']
        exact ⟨bad' (by rw [rest]; exact all_no (p := fun f => decide (f < (n2 : Int))) (show j < y.from_.length by omega) (decide_eq_false hs)), Keeps.refl _⟩
    · obtain rfl : j = n4 := by omega
      have hall : (y.from_.all fun f => decide (f < (n2 : Int))) = true := all_yes fun i hi => hjj i (by omega)
      simp (disch := omega) [t6, t5, d3, t4, wrap_in]
      exact lpI (m - 1) (by omega) ⟨k + 1, by omega, rfl, by simp, by simp [t3], by simp [t0], next (by rw [rest]; exact hall)⟩
theorem l07Formed_d {M : Mem} {lo hi id0 off0 : Nat} {us : List Value} {x : Patch} (h : patchP.rd lo hi M x us) (hc0 : Cl M id0 off0 us) : Det Tryz.prog M.length 157 [.pointer (some ⟨id0, off0, none⟩)] M (.bool (formB x)) M := (l07Formed_s h hc0).pure rfl
/-- What is taken, as the reference keeps it. -/
structure TkOut (ns : List Node) (tk : List Bool) (out : List Int) : Prop where
  len : tk.length = ns.length
  iff : ∀ i : Nat, i < ns.length → (el tk i = true ↔ (i : Int) ∈ out)
theorem TkOut.nil (ns : List Node) : TkOut ns (List.replicate ns.length false) [] := ⟨by simp, fun i hi => by simp [el, hi]⟩
theorem TkOut.next {ns : List Node} {tk : List Bool} {out : List Int} (h : TkOut ns tk out) {i : Nat} (hi : i < ns.length) : TkOut ns (tk.set i true) (out ++ [(i : Int)]) := by
  refine ⟨by simp [h.len], fun j hj => ?_⟩
  by_cases e : j = i
  · subst e
    have : el (tk.set j true) j = true := by simp [el, h.len, hj]
    simp [this]
  · have : el (tk.set i true) j = el tk j := by simp [el, List.getElem?_set_ne (Ne.symm e)]
    rw [this, h.iff j hj]
    simp
    omega
theorem TkOut.rdy {ns : List Node} {tk : List Bool} {out : List Int} (h : TkOut ns tk out) {i : Nat} (hi : i < ns.length) (hw : ∀ k, k < (waits (el ns i)).length → ∃ f : Nat, el (waits (el ns i)) k = f ∧ f < ns.length) :
    rdyT ns tk i = (!decide ((i : Int) ∈ out) && (waits (el ns i)).all fun f => decide (f ∈ out)) := by
  unfold rdyT
  have e1 : el tk i = decide ((i : Int) ∈ out) := by
    have := h.iff i hi
    rw [Bool.eq_iff_iff, this]
    simp
  rw [e1]
  congr 1
  generalize waits (el ns i) = W at hw
  rw [Bool.eq_iff_iff, List.all_eq_true, List.all_eq_true]
  have key : ∀ y, y ∈ W → (el tk y.toNat = true ↔ decide (y ∈ out) = true) := by
    intro y hy
    obtain ⟨k, hk, rfl⟩ := List.getElem_of_mem hy
    obtain ⟨f, hf, hfl⟩ := hw k hk
    rw [el_eq hk, hf]
    have := h.iff f hfl
    simp [this]
  exact ⟨fun hh y hy => (key y hy).1 (hh y hy), fun hh y hy => (key y hy).2 (hh y hy)⟩
theorem l07All_s {M : Mem} {lo hi lo' hi' : Nat} {u v : Value} {l o : List Int} (h : SlV intP lo hi M u l) (h' : SlV intP lo' hi' M v o) : Det Tryz.prog M.length 200 [u, v] M (.bool (l.all fun f => decide (f ∈ o))) M := by
  obtain ⟨A, n, c, rfl, h1, h2, h3⟩ := h
  have hv := h'
  obtain ⟨A2, n2, c2, rfl⟩ := h'.isSl
  have hl := h3.1
  replace h3 := h3.sl
  first | (refine det_fn Tryz.func200 rfl Tryz.ntmps200 Tryz.results200 rfl rfl rfl (by simp) ?_) | (refine det_fnC Tryz.func200 rfl Tryz.ntmps200 Tryz.results200 rfl rfl (by simp) ?_)
  simp
  refine awLoop_T (fun m T M' => ∃ k : Nat, k + m = n ∧ M' = M ∧ look T 5 = some (iv k) ∧ look T 0 = some (.slice A n c) ∧ look T 1 = some (.slice A2 n2 c2) ∧ ∀ i, i < k → decide (el l i ∈ o) = true) n ⟨0, by omega, rfl, by simp, by simp, by simp, fun i hi => by omega⟩ ?_
  rintro m T M' ⟨k, hm, rfl, t5, t0, t1, hk⟩
  by_cases hlt : k < n
  · obtain ⟨id, off, rfl, he, hc⟩ := h3.at_ hlt
    have c1 := int_cell hc
    simp only [Nat.mul_one] at c1
    simp (disch := omega) [t5, t0, t1, hlt, c1, he]
    refine awCall_det' (l00Has_s (el l k) hv) (Nat.le_refl _) ?_
    by_cases hs : el l k ∈ o
    · simp (disch := omega) [hs, t5, t0, t1, wrap_in]
      refine lpI (m - 1) (by omega) ⟨k + 1, by omega, rfl, by simp, by simp [t0], by simp [t1], fun i hi => ?_⟩
      by_cases e : i = k
      · rw [e]; exact decide_eq_true hs
      · exact hk i (by omega)
    · simp [hs]
      exact ⟨⟨_, el_mem (by omega), hs⟩, Keeps.refl _⟩
  · obtain rfl : k = n := by omega
    have := all_yes (p := fun f => decide (f ∈ o)) (l := l) fun i hi => hk i (by omega)
    simp [t5, t0, Keeps.refl]
    intro y hy
    have := List.all_eq_true.1 this y hy
    simpa using this
theorem l07Waits_s {M : Mem} {lo hi id off : Nat} {us : List Value} {x : Node} (h : nodeP.rd lo hi M x us) (hc : Cl M id off us) : ∃ u N, Det Tryz.prog M.length 201 [.pointer (some ⟨id, off, none⟩)] M u (M ++ N) ∧ ∃ lo' hi', SlV intP lo' hi' (M ++ N) u (waits x) := by
  obtain ⟨u, rfl, hu⟩ := h
  have hV := hu
  obtain ⟨A, n, c, rfl, h1, h2, h3⟩ := hu
  have c0 : cellAt M id off = some (iv x.k) := hc 0 _ rfl
  have c3 : cellAt M id (off + 3) = some (.slice A n c) := hc 3 _ rfl
  by_cases hk : x.k = 6
  · refine ⟨.slice (some ⟨M.length, 0, none⟩) 0 0, [.live ⟨[], true, true, 2, 1⟩], Ctr.det ?_, 0, 0, ⟨_, 0, 0, rfl, by omega, (fun h => by cases h), by unfold waits; rw [if_pos hk]; rfl, fun h => by omega⟩⟩
    first | (refine ctr_fn Tryz.func201 rfl Tryz.ntmps201 Tryz.results201 rfl rfl (by simp) ?_) | (refine ctr_fnC Tryz.func201 rfl Tryz.ntmps201 Tryz.results201 rfl (by simp) ?_)
    simp (disch := omega) [c0, hk]
  · refine ⟨.slice A n c, [], Ctr.det ?_, lo, hi, by unfold waits; rw [if_neg hk]; simpa using hV⟩
    first | (refine ctr_fn Tryz.func201 rfl Tryz.ntmps201 Tryz.results201 rfl rfl (by simp) ?_) | (refine ctr_fnC Tryz.func201 rfl Tryz.ntmps201 Tryz.results201 rfl (by simp) ?_)
    simp (disch := omega) [c0, hk, c3]
end Go.Proofs.YtimijeeihicohaaGreat

namespace Go.Proofs.YtimijeeihicohaaGreat
open Go.RowKit
set_option linter.unusedVariables false
set_option linter.unusedSimpArgs false
set_option maxRecDepth 100000
attribute [local simp] List.getElem?_cons_zero
attribute [local irreducible] awCond awCall awLoop awDraw ow retQ retC resQ Keeps
set_option maxHeartbeats 4000000 in
theorem l07Order_s {M : Mem} {lo hi id0 off0 : Nat} {us : List Value} {x : Patch} (h : patchP.rd lo hi M x us) (hc0 : Cl M id0 off0 us) (hx : ∀ y, y ∈ x.nodes → idxB x.nodes.length y.from_ = true) (hn24 : x.nodes.length ≤ 24) :
    Ctr Tryz.prog M.length 158 [.pointer (some ⟨id0, off0, none⟩)] M fun r M' => ∃ u, r = .tuple #[u, .bool (decide ((ordL x.nodes).length = x.nodes.length))] ∧ ((ordL x.nodes).length = x.nodes.length → Acc intR 2 M.length M' u (ordL x.nodes)) ∧ Keeps M M' := by
  obtain ⟨u1, u2, u3, rfl, hu1, hu2, hu3⟩ := h
  obtain ⟨A2, n2, c2, rfl, p1, p2, p3⟩ := hu2
  have hn := p3.1
  have b2 : cellAt M id0 (off0 + 2) = some (.slice A2 n2 c2) := hc0 2 _ rfl
  first | (refine ctr_fn Tryz.func158 rfl Tryz.ntmps158 Tryz.results158 rfl rfl (by simp) ?_) | (refine ctr_fnC Tryz.func158 rfl Tryz.ntmps158 Tryz.results158 rfl (by simp) ?_)
  simp
  have k0 : Keeps M (M ++ [Slot.live ⟨[], true, true, 2, 1⟩]) := keeps_app _
  have hAc0 : Acc intR 2 M.length (M ++ [Slot.live ⟨[], true, true, 2, 1⟩]) (.slice (some ⟨M.length, 0, none⟩) 0 0) [] := ⟨_, 0, 0, rfl, rfl, .inr ⟨M.length, true, rfl, Nat.le_refl _, by simp [cellsL]⟩⟩
  refine awLoop_T (fun m T M' => ∃ (tk : List Bool) (out : List Int) (v : Value), tk.count false = m ∧ ordL x.nodes = ordT x.nodes m tk out ∧ TkOut x.nodes tk out ∧ m + out.length = n2 ∧ Keeps M M' ∧ Acc intR 2 M.length M' v out ∧ look T 4 = some v ∧ look T 0 = some (.pointer (some ⟨id0, off0, none⟩))) n2
    ⟨List.replicate n2 false, [], _, by simp, by unfold ordL; rw [hn], by rw [← hn]; exact .nil _, by simp, k0, hAc0, by simp, by simp⟩ ?_
  clear k0 hAc0
  rintro c T M1 ⟨tk, out, v, hcnt, hord, hto, hcl, k1, hA1, t4, t0⟩
  obtain ⟨A, q, cc, rfl, hq, hslo, -⟩ := hA1.sl
  have b21 := cellAt_keeps k1 b2
  have l1 := k1.len
  have hoV : SlV intP 0 M1.length M1 (.slice A q cc) out := by
    refine (hA1.slv (by omega)).wide (by omega) (Nat.le_refl _)
  by_cases hlt : q < n2
  case neg =>
    have hc0' : c = 0 := by omega
    subst hc0'
    have hlt' : ¬ (q : Int) < n2 := by omega
    have hL : ordL x.nodes = out := hord
    simp (disch := omega) [t4, t0, b21, hlt']
    exact ⟨_, ⟨rfl, by rw [hL]; omega⟩, fun _ => by rw [hL]; exact hA1, k1⟩
  have hlt' : (q : Int) < n2 := by omega
  simp (disch := omega) [t4, t0, b21, hlt']
  refine awLoop_T (fun m T M' => ∃ i : Nat, i + m = n2 ∧ Keeps M1 M' ∧ look T 6 = some (iv i) ∧ look T 4 = some (.slice A q cc) ∧ look T 0 = some (.pointer (some ⟨id0, off0, none⟩)) ∧ ((look T 5 = some (iv (-1)) ∧ ∀ j, j < i → rdyT x.nodes tk j = false) ∨ ∃ i0 : Nat, look T 5 = some (iv i0) ∧ nextT x.nodes tk = some i0 ∧ i0 < n2)) n2
    ⟨0, by omega, Keeps.refl _, by simp, by simp [t4], by simp [t0], .inl ⟨by simp, fun j hj => by omega⟩⟩ ?_
  clear t4 t0 T
  rintro m T M2 ⟨i, hi, k12, t6, t4, t0, hst⟩
  have k2 := k1.trans k12
  have l2 := k12.len
  have b22 := cellAt_keeps k2 b2
  rcases hst with ⟨t5, hnr⟩ | ⟨i0, t5, hnx, hi0⟩
  · by_cases hltn : i < n2
    · have hltn' : (i : Int) < n2 := by omega
      obtain ⟨id, off, us, rfl, he, hrd, hc⟩ := (p3.keeps k2).at_ hltn
      simp (disch := omega) [t6, t5, t4, t0, b22, hltn']
      refine awCall_det' (l00Has_s (i : Int) (hoV.keeps k12)) (by omega) ?_
      have hyi : idxB n2 (el x.nodes i).from_ = true := by rw [← hn]; exact hx _ (el_mem (by omega))
      have hr := hto.rdy (i := i) (by omega) fun k hk => by
        obtain ⟨f, e1, e2⟩ := waits_idx hyi hk
        exact ⟨f, e1, by omega⟩
      by_cases hin : (i : Int) ∈ out
      · rw [decide_eq_true hin] at hr ⊢
        simp (disch := omega) [t6, wrap_in]
        refine lpI (m - 1) (by omega) ⟨i + 1, by omega, k12, by simp, by simp [t4], by simp [t0], .inl ⟨by simp [t5], fun j hj => ?_⟩⟩
        by_cases e : j = i
        · rw [e, hr]; rfl
        · exact hnr j (by omega)
      · rw [decide_eq_false hin] at hr ⊢
        simp (disch := omega) [t6, t4, t0, b22, hltn, he]
        obtain ⟨w, N, dw, lo', hi', hw⟩ := l07Waits_s hrd hc
        refine awCall_det' dw (by omega) ?_
        have kN : Keeps M2 (M2 ++ N) := keeps_app _
        try simp [t4]
        refine awCall_det' (l07All_s hw ((hoV.keeps k12).keeps kN)) (by simp; omega) ?_
        by_cases ha : ((waits (el x.nodes i)).all fun f => decide (f ∈ out)) = true
        · have hrt : rdyT x.nodes tk i = true := by rw [hr, ha]; rfl
          have hnx : nextT x.nodes tk = some i := nextT_some (by omega) hrt hnr
          rw [ha]
          simp (disch := omega) [t6, wrap_in]
          exact lpI (m - 1) (by omega) ⟨i + 1, by omega, k12.app _, by simp, by simp [t4], by simp [t0], .inr ⟨i, by simp, hnx, by omega⟩⟩
        · rw [Bool.not_eq_true] at ha
          have hrt : rdyT x.nodes tk i = false := by rw [hr, ha]; rfl
          rw [ha]
          simp (disch := omega) [t6, wrap_in]
          refine lpI (m - 1) (by omega) ⟨i + 1, by omega, k12.app _, by simp, by simp [t4], by simp [t0], .inl ⟨by simp [t5], fun j hj => ?_⟩⟩
          by_cases e : j = i
          · rw [e]; exact hrt
          · exact hnr j (by omega)
    · have hltn' : ¬ (i : Int) < n2 := by omega
      have hnx : nextT x.nodes tk = none := nextT_none fun j hj => hnr j (by omega)
      have hL : ordL x.nodes = out := by
        rw [hord]
        cases c with
        | zero => rfl
        | succ c => show (match nextT x.nodes tk with | none => out | some i => _) = out; rw [hnx]
      simp (disch := omega) [t6, t5, t4, t0, b22, hltn']
      exact ⟨_, ⟨rfl, by rw [hL]; omega⟩, fun hh => absurd hh (by rw [hL]; omega), k2⟩
  · have hfr := rdyT_free (ns := x.nodes) (tk := tk) (i := i0) (by
      have := hnx
      unfold nextT at this
      exact List.find?_some this)
    have hcs := count_set_true (tk := tk) (i := i0) (by rw [hto.len]; omega) hfr
    have e1 : ¬ (i0 : Int) < 0 := by omega
    by_cases hltn : (i : Int) < n2
    case' pos => simp (disch := omega) [t6, t5, t4, t0, b22, hltn, e1, fill1I]
    case' neg => simp (disch := omega) [t6, t5, t4, t0, b22, hltn, e1, fill1I]
    all_goals
      refine ((hA1.keeps k12).keeps (keeps_app _)).append (R := intR) (e := 2) (by_ := 8) (a := (i0 : Int)) (Nat.le_refl _) (by simp; omega) (by omega) (by simp) (by kernel_rfl) (by simp [srcOf, intR]) (by rfl) (by omega) (by unfold maxLen; omega) ?_
      intro v' M7 hA7 hS7
      try simp (disch := omega) [t0]
      refine lpI (c - 1) (by omega) ⟨tk.set i0 true, out ++ [(i0 : Int)], v', by omega, ?_, hto.next (by omega), by simp; omega, hS7.keeps (k2.app _) (Nat.le_refl _), hA7, by simp, by simp [t0]⟩
      rw [hord]
      cases c with
      | zero => omega
      | succ c => show (match nextT x.nodes tk with | none => out | some i => _) = _; rw [hnx]; rfl
theorem l07Ok_s {M : Mem} {lo hi id0 off0 : Nat} {us : List Value} {x : Patch} (h : patchP.rd lo hi M x us) (hc0 : Cl M id0 off0 us) : Det Tryz.prog M.length 106 [.pointer (some ⟨id0, off0, none⟩)] M (.bool (patB x)) M := by
  first | (refine det_fn Tryz.func106 rfl Tryz.ntmps106 Tryz.results106 rfl rfl rfl (by simp) ?_) | (refine det_fnC Tryz.func106 rfl Tryz.ntmps106 Tryz.results106 rfl rfl (by simp) ?_)
  simp
  refine awCall_det' (l07Formed_d h hc0) (Nat.le_refl _) ?_
  by_cases hf : formB x = true
  case neg =>
    rw [Bool.not_eq_true] at hf
    simp [hf, patB, Keeps.refl]
  simp [hf]
  obtain ⟨f1, f2, -⟩ := formB_nodes hf
  refine awCall_ctr (l07Order_s h hc0 f2 f1) ?_
  rintro r M1 ⟨u, rfl, -, k1⟩
  simp [patB, hf]
  exact k1
theorem l22Ok_s {M : Mem} {lo hi id0 off0 : Nat} {us : List Value} {x : Inst} (h : instP.rd lo hi M x us) (hc0 : Cl M id0 off0 us) : Det Tryz.prog M.length 59 [.pointer (some ⟨id0, off0, none⟩)] M (.bool (instB x)) M := by
  obtain ⟨ps, es, w, rfl, hp, he, hw⟩ := h
  have hp2 := hp
  have he2 := he
  obtain ⟨u1, u2, u3, rfl, hu1, hu2, hu3⟩ := hp2
  obtain ⟨A1, n1, c1, rfl⟩ := hu1.isSl
  obtain ⟨A2, n2, c2, rfl⟩ := hu2.isSl
  obtain ⟨A3, n3, c3, e3, q1, q2, q3⟩ := hu3
  subst e3
  obtain ⟨A4, n4, c4, rfl⟩ := env_isV he
  have hw2 := hw
  obtain ⟨A5, n5, c5, rfl, r1, r2, r3⟩ := hw2
  have ho := q3.1
  have hs := r3.1
  have b0 : cellAt M id0 off0 = some (iv x.pat.inp) := hc0 0 _ rfl
  have b3 : cellAt M id0 (off0 + 3) = some (.slice A3 n3 c3) := hc0 3 _ rfl
  have b7 : cellAt M id0 (off0 + 7) = some (.slice A5 n5 c5) := hc0 7 _ rfl
  have cp : Cl M id0 off0 [iv x.pat.inp, .slice A1 n1 c1, .slice A2 n2 c2, .slice A3 n3 c3] := fun j y hy => hc0 j y (by
    rw [List.append_assoc, List.getElem?_append_left (List.getElem?_eq_some_iff.1 hy).1]; exact hy)
  have ce : Cl M id0 (off0 + 4) [iv x.env.st, .slice A4 n4 c4, iv x.env.rel] := fun j y hy => by
    have := hc0 (4 + j) y (by
      rw [List.append_assoc, List.getElem?_append_right (by simp), show 4 + j - [iv x.pat.inp, Value.slice A1 n1 c1, .slice A2 n2 c2, .slice A3 n3 c3].length = j by simp, List.getElem?_append_left (List.getElem?_eq_some_iff.1 hy).1]; exact hy)
    rwa [← Nat.add_assoc] at this
  first | (refine det_fn Tryz.func59 rfl Tryz.ntmps59 Tryz.results59 rfl rfl rfl (by simp) ?_) | (refine det_fnC Tryz.func59 rfl Tryz.ntmps59 Tryz.results59 rfl rfl (by simp) ?_)
  simp
  refine awCall_det' (l07Ok_s hp cp) (by simp) ?_
  by_cases g1 : patB x.pat = true
  case neg => simp [g1, instB, Keeps.refl]
  by_cases g2 : x.pat.inp = 3
  case neg => simp (disch := omega) [g1, g2, b0, instB, Keeps.refl]
  by_cases g3 : n3 = 1
  case neg =>
    have g3' : ¬ (n3 : Int) = 1 := by omega
    simp (disch := omega) [g1, g2, g3, g3', b0, b3, ho, instB, Keeps.refl]
  subst g3
  simp (disch := omega) [g1, g2, b0, b3]
  refine awCall_det' (l14Ok_s he ce) (by simp) ?_
  by_cases g4 : envB x.env = true
  case neg => simp [g1, g2, ho, g4, instB, Keeps.refl]
  by_cases g5 : n5 = 12
  case neg =>
    have g5' : ¬ (n5 : Int) = 12 := by omega
    simp (disch := omega) [g1, g2, ho, g4, g5, g5', b7, hs, instB, Keeps.refl]
  subst g5
  simp (disch := omega) [g4, b7]
  refine awCall_det' (l04Samples_s hw) (by simp) ?_
  simp [g1, g2, ho, g4, hs, instB, Keeps.refl]
end Go.Proofs.YtimijeeihicohaaGreat

namespace Go.Proofs.YtimijeeihicohaaGreat
open Go.RowKit
set_option linter.unusedVariables false
set_option linter.unusedSimpArgs false
set_option maxRecDepth 100000
attribute [local simp] List.getElem?_cons_zero
attribute [local irreducible] awCond awCall awLoop awDraw ow retQ retC resQ Keeps
/-- The sample that differs from n by a multiple of 2^32. -/
def smp (n : Int) : Int := (n + 2147483648) % 4294967296 - 2147483648
theorem smp_bd (n : Int) : -2147483648 ≤ smp n ∧ smp n ≤ 2147483647 := by unfold smp; omega
theorem andS (n : Int) : intV .and .i64 n 4294967295 = some (.int .i64 (n % 4294967296)) := by
  have h1 : (BitVec.ofInt 64 (4294967295 : Int)).toNat = 2 ^ 32 - 1 := by decide
  have h2 : ((BitVec.ofInt 64 n).toNat : Int) = n % 18446744073709551616 := by
    rw [BitVec.toNat_ofInt]
    have := Int.emod_nonneg n (show (18446744073709551616 : Int) ≠ 0 by decide)
    show ((n % 18446744073709551616).toNat : Int) = _
    omega
  have key : IntKind.i64.wrap ((BitVec.ofInt 64 n &&& BitVec.ofInt 64 4294967295).toNat : Int) = n % 4294967296 := by
    rw [BitVec.toNat_and, h1, Nat.and_two_pow_sub_one_eq_mod, IntKind.wrap_i64]
    have h3 : (((BitVec.ofInt 64 n).toNat % 2 ^ 32 : Nat) : Int) = (n % 18446744073709551616) % 4294967296 := by
      rw [Int.natCast_emod, h2]
      rfl
    rw [h3]
    omega
  show some (Value.int .i64 (IntKind.i64.wrap ((BitVec.ofInt 64 n &&& BitVec.ofInt 64 4294967295).toNat : Int))) = _
  rw [key]
theorem Wrap_s {M : Mem} (n : Int) : Det Tryz.prog M.length 141 [iv n] M (iv (smp n)) M := by
  have e : IntKind.i64.wrap (IntKind.i32.wrap n) = smp n := by
    rw [IntKind.wrap_i32, IntKind.wrap_i64]; unfold smp; omega
  first | (refine det_fn Tryz.func141 rfl Tryz.ntmps141 Tryz.results141 rfl rfl rfl (by simp) ?_) | (refine det_fnC Tryz.func141 rfl Tryz.ntmps141 Tryz.results141 rfl rfl (by simp) ?_)
  simp [e, Keeps.refl]
theorem l01Wrap_t {M : Mem} (n : Int) : Det Tryz.prog M.length 135 [iv n] M (iv (smp n)) M := by
  have h1 : 0 ≤ n % 4294967296 ∧ n % 4294967296 < 4294967296 := by omega
  first | (refine det_fn Tryz.func135 rfl Tryz.ntmps135 Tryz.results135 rfl rfl rfl (by simp) ?_) | (refine det_fnC Tryz.func135 rfl Tryz.ntmps135 Tryz.results135 rfl rfl (by simp) ?_)
  simp [andS]
  by_cases hb : 2147483647 < n % 4294967296
  · simp (disch := omega) [hb, wrap_in, Keeps.refl]
    unfold smp; omega
  · simp (disch := omega) [hb, wrap_in, Keeps.refl]
    unfold smp; omega
def incr (st : List Int) (key : Int) : Int := smp (el st (key % 12).toNat * 2 ^ (key / 12).toNat)
theorem instB_steps {x : Inst} (h : instB x = true) : x.steps.length = 12 ∧ ∀ i, i < 12 → -2147483648 ≤ el x.steps i ∧ el x.steps i ≤ 2147483647 := by
  unfold instB at h
  simp only [Bool.and_eq_true, decide_eq_true_eq] at h
  obtain ⟨-, -, -, -, h1, h2⟩ := h
  refine ⟨h1, fun i hi => ?_⟩
  have := List.all_eq_true.1 h2 _ (el_mem (l := x.steps) (i := i) (by omega))
  exact inB_iff.1 this
theorem shift_bd {a : Int} {c : Nat} (h1 : -2147483648 ≤ a) (h2 : a ≤ 2147483647) (hc : c ≤ 10) : -9223372036854775808 ≤ a * 2 ^ c ∧ a * 2 ^ c ≤ 9223372036854775807 := by
  have h : c = 0 ∨ c = 1 ∨ c = 2 ∨ c = 3 ∨ c = 4 ∨ c = 5 ∨ c = 6 ∨ c = 7 ∨ c = 8 ∨ c = 9 ∨ c = 10 := by omega
  rcases h with h | h | h | h | h | h | h | h | h | h | h <;> subst h <;> simp <;> omega
theorem shlS {a : Int} {c : Nat} (h1 : -2147483648 ≤ a) (h2 : a ≤ 2147483647) (hc : c ≤ 10) : intV .shl .i64 a c = some (.int .i64 (a * 2 ^ c)) := by
  obtain ⟨g1, g2⟩ := shift_bd h1 h2 hc
  have e : intV .shl .i64 a (c : Int) = some (.int .i64 (IntKind.i64.wrap (a * 2 ^ (min ((c : Int)).toNat IntKind.i64.bits)))) := by
    show (if (c : Int) < 0 then none else _) = _
    simp [show ¬ ((c : Int) < 0) by omega]
  rw [e]
  have : min ((c : Int)).toNat IntKind.i64.bits = c := by
    have : IntKind.i64.bits = 64 := rfl
    rw [this]; omega
  rw [this, wrap_in g1 g2]
theorem increment_i {M : Mem} {lo hi : Nat} {us : List Value} {x : Inst} {key : Int} (h : instP.rd lo hi M x us) (hb : instB x = true) (hk : inB key 0 127 = true) : Det Tryz.prog M.length 93 [.agg us.toArray, iv key] M (iv (incr x.steps key)) M := by
  obtain ⟨ps, es, w, rfl, hp, he, hw⟩ := h
  obtain ⟨A1, n1, c1, A2, n2, c2, A3, n3, c3, rfl⟩ := patch_isV hp
  obtain ⟨A4, n4, c4, rfl⟩ := env_isV he
  obtain ⟨A5, n5, c5, rfl, r1, r2, r3⟩ := hw
  have hk' := inB_iff.1 hk
  obtain ⟨hl, hst⟩ := instB_steps hb
  have hn := r3.1
  obtain ⟨k, rfl⟩ := Int.eq_ofNat_of_zero_le hk'.1
  have e12 : ((k : Int).tmod 12) = ((k % 12 : Nat) : Int) := by rw [Int.tmod_eq_emod_of_nonneg (by omega)]; omega
  have d12 : ((k : Int).tdiv 12) = ((k / 12 : Nat) : Int) := by rw [Int.tdiv_eq_ediv_of_nonneg (by omega)]; omega
  have hlt : k % 12 < n5 := by omega
  obtain ⟨id, off, rfl, hez, hc⟩ := r3.sl.at_ hlt
  have c1' := int_cell hc
  simp only [Nat.mul_one] at c1'
  have hs := hst (k % 12) (by omega)
  have hlt' : ((k % 12 : Nat) : Int) < n5 := by omega
  have t12 : ((k : Int) % 12).toNat = k % 12 := by omega
  have u12 : IntKind.u64.wrap ((k : Int) / 12) = ((k / 12 : Nat) : Int) := by rw [IntKind.wrap_u64]; omega
  have s12 : intV .shl .i64 (el x.steps (k % 12)) ((k : Int) / 12) = some (.int .i64 (el x.steps (k % 12) * 2 ^ (k / 12))) := by
    have := shlS (c := k / 12) hs.1 hs.2 (by omega)
    rw [show (((k / 12 : Nat)) : Int) = (k : Int) / 12 by omega] at this
    exact this
  have l12 : (0 : Int) ≤ (k : Int) % 12 ∧ (k : Int) % 12 < (n5 : Int) := by omega
  first | (refine det_fn Tryz.func93 rfl Tryz.ntmps93 Tryz.results93 rfl rfl rfl (by simp) ?_) | (refine det_fnC Tryz.func93 rfl Tryz.ntmps93 Tryz.results93 rfl rfl (by simp) ?_)
  simp (disch := omega) [e12, d12, wrap_in, hlt', hez, c1', cellAt_app c1', rowEsz_keeps (keeps_app _) hez, t12, u12, s12, l12, binV_shift (op := .shl) rfl]
  refine awCall_det' (Wrap_s _) (by simp) ?_
  refine ⟨?_, keeps_app _⟩
  unfold incr
  rw [show ((k : Int) % 12).toNat = k % 12 by omega, show ((k : Int) / 12).toNat = k / 12 by omega]
theorem l22Increment_s {M : Mem} {lo hi id0 off0 : Nat} {us : List Value} {x : Inst} {key : Int} (h : instP.rd lo hi M x us) (hc0 : Cl M id0 off0 us) (hb : instB x = true) (hk : inB key 0 127 = true) : Det Tryz.prog M.length 85 [.pointer (some ⟨id0, off0, none⟩), iv key] M (iv (incr x.steps key)) M := by
  obtain ⟨ps, es, w, rfl, hp, he, hw⟩ := h
  obtain ⟨A1, n1, c1, A2, n2, c2, A3, n3, c3, rfl⟩ := patch_isV hp
  obtain ⟨A4, n4, c4, rfl⟩ := env_isV he
  obtain ⟨A5, n5, c5, rfl, r1, r2, r3⟩ := hw
  have hk' := inB_iff.1 hk
  obtain ⟨hl, hst⟩ := instB_steps hb
  have hn := r3.1
  have b7 : cellAt M id0 (off0 + 7) = some (.slice A5 n5 c5) := hc0 7 _ rfl
  obtain ⟨k, rfl⟩ := Int.eq_ofNat_of_zero_le hk'.1
  have e12 : ((k : Int).tmod 12) = ((k % 12 : Nat) : Int) := by rw [Int.tmod_eq_emod_of_nonneg (by omega)]; omega
  have d12 : ((k : Int).tdiv 12) = ((k / 12 : Nat) : Int) := by rw [Int.tdiv_eq_ediv_of_nonneg (by omega)]; omega
  have hlt : k % 12 < n5 := by omega
  obtain ⟨id, off, rfl, hez, hc⟩ := r3.sl.at_ hlt
  have c1' := int_cell hc
  simp only [Nat.mul_one] at c1'
  have hs := hst (k % 12) (by omega)
  have hlt' : ((k % 12 : Nat) : Int) < n5 := by omega
  have t12 : ((k : Int) % 12).toNat = k % 12 := by omega
  have u12 : IntKind.u64.wrap ((k : Int) / 12) = ((k / 12 : Nat) : Int) := by rw [IntKind.wrap_u64]; omega
  have s12 : intV .shl .i64 (el x.steps (k % 12)) ((k : Int) / 12) = some (.int .i64 (el x.steps (k % 12) * 2 ^ (k / 12))) := by
    have := shlS (c := k / 12) hs.1 hs.2 (by omega)
    rw [show (((k / 12 : Nat)) : Int) = (k : Int) / 12 by omega] at this
    exact this
  have l12 : (0 : Int) ≤ (k : Int) % 12 ∧ (k : Int) % 12 < (n5 : Int) := by omega
  first | (refine det_fn Tryz.func85 rfl Tryz.ntmps85 Tryz.results85 rfl rfl rfl (by simp) ?_) | (refine det_fnC Tryz.func85 rfl Tryz.ntmps85 Tryz.results85 rfl rfl (by simp) ?_)
  simp (disch := omega) [e12, d12, wrap_in, hlt', hez, c1', b7, t12, u12, s12, l12, binV_shift (op := .shl) rfl]
  refine awCall_det' (l01Wrap_t _) (by simp) ?_
  refine ⟨?_, Keeps.refl _⟩
  unfold incr
  rw [show ((k : Int) % 12).toNat = k % 12 by omega, show ((k : Int) / 12).toNat = k / 12 by omega]
end Go.Proofs.YtimijeeihicohaaGreat

namespace Go.Proofs.YtimijeeihicohaaGreat
open Go.RowKit
set_option linter.unusedVariables false
set_option linter.unusedSimpArgs false
set_option maxRecDepth 100000
attribute [local simp] List.getElem?_cons_zero
attribute [local irreducible] awCond awCall awLoop awDraw ow retQ retC resQ Keeps
structure Clip where
  (src fr len at_ gain : Int)
deriving Inhabited, DecidableEq
def Clip.row (c : Clip) : List Value := [iv c.src, iv c.fr, iv c.len, iv c.at_, iv c.gain]
abbrev Clip.v (c : Clip) : Value := .agg #[iv c.src, iv c.fr, iv c.len, iv c.at_, iv c.gain]
@[simp] theorem clip_fill (x0 x1 x2 x3 x4 : Int) : Instr.fill (fun i => some (i * 5, 5)) (zrow [iv 0, iv 0, iv 0, iv 0, iv 0] 1).toArray [(0, .agg #[iv x0, iv x1, iv x2, iv x3, iv x4])] = some #[iv x0, iv x1, iv x2, iv x3, iv x4] := fill_agg (by omega) rfl rfl
end Go.Proofs.YtimijeeihicohaaGreat

namespace Go.Proofs.YtimijeeihicohaaGreat
open Go.RowKit
set_option linter.unusedVariables false
set_option linter.unusedSimpArgs false
set_option maxRecDepth 100000
attribute [local simp] List.getElem?_cons_zero
attribute [local irreducible] awCond awCall awLoop awDraw ow retQ retC resQ Keeps
end Go.Proofs.YtimijeeihicohaaGreat

namespace Go.Proofs.YtimijeeihicohaaGreat
open Go.RowKit
set_option linter.unusedVariables false
set_option linter.unusedSimpArgs false
set_option maxRecDepth 100000
attribute [local simp] List.getElem?_cons_zero
attribute [local irreducible] awCond awCall awLoop awDraw ow retQ retC resQ Keeps
end Go.Proofs.YtimijeeihicohaaGreat

namespace Go.Proofs.YtimijeeihicohaaGreat
open Go.RowKit
set_option linter.unusedVariables false
set_option linter.unusedSimpArgs false
set_option maxRecDepth 100000
attribute [local simp] List.getElem?_cons_zero
attribute [local irreducible] awCond awCall awLoop awDraw ow retQ retC resQ Keeps
section
variable {α : Type} {k : Nat}
theorem put_splice {b : Nat} {M : Mem} {id p : Nat} {vs cs : List Value} {t : Bool} {e : TypeId} {z : Nat} (hr : M[id]? = some (.live ⟨cs, true, t, e, z⟩)) (hb : b ≤ id) (hp : p + vs.length ≤ cs.length) (h1 : vs.all oneV = true) :
    putCells b M id p vs = some (M.set id (.live ⟨splice cs p vs, true, t, e, z⟩)) := by
  unfold putCells
  rw [hr]
  simp only
  rw [if_pos ⟨hb, trivial, hp, h1⟩]
theorem splice_set [Inhabited α] (R : RecV α k) {l : List α} {i : Nat} {a : α} (hi : i < l.length) : splice (cellsL R l) (i * k) (R.row a) = cellsL R (l.set i a) := by
  have h1 : l = l.take i ++ (el l i :: l.drop (i + 1)) := by
    conv => lhs; rw [← List.take_append_drop i l, drop_el hi]
  have hl : (cellsL R (l.take i)).length = i * k := by rw [cellsL_len, List.length_take, Nat.min_eq_left (by omega)]
  have h2 : cellsL R l = cellsL R (l.take i) ++ (R.row (el l i) ++ cellsL R (l.drop (i + 1))) := by
    conv => lhs; rw [h1]
    rw [cellsL_append, cellsL_cons]
  rw [h2, ← hl, splice_app _ _ _ (by rw [List.length_append, R.len, R.len]; omega), R.len, List.drop_append_of_le_length (by rw [R.len]; omega), List.drop_of_length_le (by rw [R.len]; omega), List.nil_append]
  have h3 : l.set i a = l.take i ++ (a :: l.drop (i + 1)) := List.set_eq_take_append_cons_drop .. |>.trans (by rw [if_pos hi])
  rw [h3, cellsL_append, cellsL_cons]
theorem put_rec [Inhabited α] {R : RecV α k} {b : Nat} {M : Mem} {id i off : Nat} {l : List α} {a : α} {t : Bool} {e : TypeId} (hr : M[id]? = some (.live ⟨cellsL R l, true, t, e, k⟩)) (hb : b ≤ id) (hi : i < l.length) (ho : off = i * k) (h1 : (R.row a).all oneV = true) :
    putCells b M id off (R.row a) = some (M.set id (.live ⟨cellsL R (l.set i a), true, t, e, k⟩)) := by
  subst ho
  rw [put_splice hr hb (by rw [R.len, cellsL_len]; have := Nat.mul_le_mul_right k (show i + 1 ≤ l.length from hi); rw [Nat.add_mul, Nat.one_mul] at this; exact this) h1, splice_set R hi]
end
/-- The list lies in a row of its own. -/
theorem Acc.put {α : Type} {k : Nat} [Inhabited α] {R : RecV α k} {e : TypeId} {B b : Nat} {M : Mem} {A : Option Addr} {n c : Nat} {l : List α} (h : Acc R e B M (.slice A n c) l) (hb : b ≤ B) (h0 : 0 < l.length) :
    ∃ id, A = some ⟨id, 0, none⟩ ∧ B ≤ id ∧ rowEsz M id = some k ∧ (∀ (i j : Nat) x, i < l.length → (R.row (el l i))[j]? = some x → cellAt M id (i * k + j) = some x) ∧
      ∀ (i : Nat) (a : α), i < l.length → (R.row a).all oneV = true → ∃ M', putCells b M id (i * k) (R.row a) = some M' ∧ Acc R e B M' (.slice A n c) (l.set i a) ∧ M'.length = M.length ∧ ∀ (q : Nat) s, q ≠ id → M[q]? = some s → M'[q]? = some s := by
  obtain ⟨A', n', c', he, hl, hA⟩ := h
  injection he with h1 h2 h3
  subst h1; subst h2; subst h3
  rcases hA with ⟨rfl, h1, rfl⟩ | ⟨id, t, rfl, hid, hr⟩
  · omega
  refine ⟨id, rfl, hid, by simp [rowEsz, hr], fun i j x hi hx => ?_, fun i a hi h1 => ⟨_, put_rec hr (by omega) hi rfl h1, ⟨_, _, _, rfl, by simp [hl], .inr ⟨id, t, rfl, hid, List.getElem?_set_self (List.getElem?_eq_some_iff.1 hr).1⟩⟩, by simp, fun q s hq hs => by rw [List.getElem?_set_ne (Ne.symm hq)]; exact hs⟩⟩
  have hj : j < k := by have := (List.getElem?_eq_some_iff.1 hx).1; rwa [R.len] at this
  simp only [cellAt, hr]
  show (cellsL R l)[i * k + j]? = some x
  rw [cellsL_get R hi hj]
  exact hx
end Go.Proofs.YtimijeeihicohaaGreat

namespace Go.Proofs.YtimijeeihicohaaGreat
open Go.RowKit
set_option linter.unusedVariables false
set_option linter.unusedSimpArgs false
set_option maxRecDepth 100000
attribute [local simp] List.getElem?_cons_zero
attribute [local irreducible] awCond awCall awLoop awDraw ow retQ retC resQ Keeps
theorem prod_bd {a b : Int} (h1 : -2147483648 ≤ a) (h2 : a ≤ 2147483647) (h3 : -2147483648 ≤ b) (h4 : b ≤ 2147483647) : -4611686018427387904 ≤ a * b ∧ a * b ≤ 4611686018427387904 := by
  have h : (a * b).natAbs ≤ 2147483648 * 2147483648 := by
    rw [Int.natAbs_mul]
    exact Nat.mul_le_mul (by omega) (by omega)
  omega
def atL (l : List Int) (i : Int) : Int := if 0 ≤ i ∧ i < l.length then el l i.toNat else 0
theorem l01Add_s {M : Mem} (a b : Int) : Det Tryz.prog M.length 152 [iv a, iv b] M (iv (smp (smp a + smp b))) M := by
  have h1 := smp_bd a
  have h2 := smp_bd b
  first | (refine det_fn Tryz.func152 rfl Tryz.ntmps152 Tryz.results152 rfl rfl rfl (by simp) ?_) | (refine det_fnC Tryz.func152 rfl Tryz.ntmps152 Tryz.results152 rfl rfl (by simp) ?_)
  simp
  refine awCall_det' (l01Wrap_t _) (by simp) ?_
  try simp
  refine awCall_det' (l01Wrap_t _) (by simp) ?_
  simp (disch := omega) [wrap_in]
  refine awCall_det' (l01Wrap_t _) (by simp) ?_
  simp [Keeps.refl]
theorem l01Mul_s {M : Mem} (a b : Int) : Det Tryz.prog M.length 154 [iv a, iv b] M (iv (smp (smp a * smp b))) M := by
  have h1 := smp_bd a
  have h2 := smp_bd b
  have h3 := prod_bd h1.1 h1.2 h2.1 h2.2
  first | (refine det_fn Tryz.func154 rfl Tryz.ntmps154 Tryz.results154 rfl rfl rfl (by simp) ?_) | (refine det_fnC Tryz.func154 rfl Tryz.ntmps154 Tryz.results154 rfl rfl (by simp) ?_)
  simp
  refine awCall_det' (l01Wrap_t _) (by simp) ?_
  try simp
  refine awCall_det' (l01Wrap_t _) (by simp) ?_
  simp (disch := omega) [wrap_in]
  refine awCall_det' (l01Wrap_t _) (by simp) ?_
  simp [Keeps.refl]
theorem l03At_s {M : Mem} {lo hi : Nat} {u : Value} {l : List Int} (i : Int) (h : SlV intP lo hi M u l) : Det Tryz.prog M.length 153 [u, iv i] M (iv (atL l i)) M := by
  obtain ⟨A, n, c, rfl, h1, h2, h3⟩ := h
  have hl := h3.1
  replace h3 := h3.sl
  unfold atL
  rw [hl]
  first | (refine det_fn Tryz.func153 rfl Tryz.ntmps153 Tryz.results153 rfl rfl rfl (by simp) ?_) | (refine det_fnC Tryz.func153 rfl Tryz.ntmps153 Tryz.results153 rfl rfl (by simp) ?_)
  simp (disch := omega) [wrap_in]
  refine awCall_det' (l00In_a _ _ _) (by simp) ?_
  by_cases hb : inB i 0 (n - 1) = true
  · have hb' := inB_iff.1 hb
    obtain ⟨k, rfl⟩ := Int.eq_ofNat_of_zero_le hb'.1
    have hlt : k < n := by omega
    obtain ⟨id, off, rfl, he, hc⟩ := h3.at_ hlt
    have c1 := int_cell hc
    simp only [Nat.mul_one] at c1
    simp (disch := omega) [hb, hlt, he, c1, Keeps.refl]
  · have hb' : ¬ (0 ≤ i ∧ i < n) := by
      intro hh
      exact hb (inB_iff.2 ⟨hh.1, by omega⟩)
    simp [hb, hb', Keeps.refl]
theorem size_ia {M : Mem} {A : Option Addr} {n c : Nat} (hn : n ≤ 9223372036854775807) : Det Tryz.prog M.length 155 [.slice A n c] M (iv n) M := by
  first | (refine det_fn Tryz.func155 rfl Tryz.ntmps155 Tryz.results155 rfl rfl rfl (by simp) ?_) | (refine det_fnC Tryz.func155 rfl Tryz.ntmps155 Tryz.results155 rfl rfl (by simp) ?_)
  simp (disch := omega) [wrap_in, Keeps.refl]
theorem at_i {M : Mem} {lo hi : Nat} {u : Value} {l : List Int} (i : Int) (h0 : 0 ≤ i) (h : SlV intP lo hi M u l) : Det Tryz.prog M.length 156 [u, iv i] M (iv (atL l i)) M := by
  obtain ⟨A, n, c, rfl, h1, h2, h3⟩ := h
  have hl := h3.1
  replace h3 := h3.sl
  unfold atL
  rw [hl]
  obtain ⟨k, rfl⟩ := Int.eq_ofNat_of_zero_le h0
  first | (refine det_fn Tryz.func156 rfl Tryz.ntmps156 Tryz.results156 rfl rfl rfl (by simp) ?_) | (refine det_fnC Tryz.func156 rfl Tryz.ntmps156 Tryz.results156 rfl rfl (by simp) ?_)
  simp (disch := omega) [wrap_in]
  refine awCall_det' (size_ia (by omega)) (by simp) ?_
  simp (disch := omega) [wrap_in]
  by_cases hlt : k < n
  · obtain ⟨id, off, rfl, he, hc⟩ := h3.at_ hlt
    have c1 := int_cell hc
    simp only [Nat.mul_one] at c1
    have hg : ¬ n ≤ k := by omega
    simp (disch := omega) [hg, hlt, he, c1, Keeps.refl]
  · have hg : n ≤ k := by omega
    simp [hlt, hg, Keeps.refl]
theorem cellsL_rep (n : Nat) (x : Int) : zrow [iv x] n = cellsL intR (List.replicate n x) := by
  induction n with
  | zero => rfl
  | succ n ih => rw [zrow_succ, ih, List.replicate_succ, cellsL_cons]; rfl
theorem zeros_i {M : Mem} (n : Nat) (hn : n ≤ 4000) : Det Tryz.prog M.length 92 [iv n] M (.slice (some ⟨M.length, 0, none⟩) n n) (M ++ [.live ⟨cellsL intR (List.replicate n 0), true, true, 2, 1⟩]) := by
  refine Ctr.det ?_
  first | (refine ctr_fn Tryz.func92 rfl Tryz.ntmps92 Tryz.results92 rfl rfl (by simp) ?_) | (refine ctr_fnC Tryz.func92 rfl Tryz.ntmps92 Tryz.results92 rfl (by simp) ?_)
  simp
  exact ⟨by omega, by rw [cellsL_rep]⟩
theorem l03Zeros_s {M : Mem} {b : Nat} (n : Nat) (hn : n ≤ 4000) (hb : b ≤ M.length) : Ctr Tryz.prog b 84 [iv n] M fun v M' => Acc intR 2 M.length M' v (List.replicate n 0) ∧ Same M.length M M' := by
  first | (refine ctr_fn Tryz.func84 rfl Tryz.ntmps84 Tryz.results84 rfl rfl (by simp) ?_) | (refine ctr_fnC Tryz.func84 rfl Tryz.ntmps84 Tryz.results84 rfl (by simp) ?_)
  simp
  refine awLoop_T (fun m T M' => ∃ (k : Nat) (v : Value), k + m = n ∧ look T 0 = some (iv m) ∧ look T 3 = some v ∧ Acc intR 2 M.length M' v (List.replicate k 0) ∧ Same M.length M M') n ⟨0, .slice (some ⟨M.length, 0, none⟩) 0 0, by omega, by simp, by simp, ?_, ?_⟩ ?_
  · exact ⟨_, 0, 0, rfl, rfl, .inr ⟨M.length, true, rfl, Nat.le_refl _, by simp [cellsL]⟩⟩
  · exact ⟨by simp, fun i s _ hs => (keeps_app _).get hs⟩
  rintro m T M1 ⟨k, v, hm, t0, t3, ha, hs⟩
  by_cases hlt : 0 < m
  · simp (disch := omega) [t0, t3, hlt]
    rw [fill1I, ow_some]
    simp
    have ha0 := ha
    obtain ⟨A, q, c, rfl, -, -⟩ := ha0
    have ha' : Acc intR 2 M.length (M1 ++ [Slot.live ⟨[iv 0], true, true, 2, 1⟩]) _ _ := ha.keeps (keeps_app _)
    have hl1 := hs.1
    try simp [t3]
    refine Acc.append (R := intR) (e := 2) (by_ := 8) (a := 0) ha' (by omega) (by simp; omega) (by omega) (by simp) (by kernel_rfl) (by simp [srcOf, intR, iv]) (by rfl) (by simp; omega) (by unfold maxLen; simp; omega) ?_
    intro v' M' ha2 hs2
    simp (disch := omega) [t0, wrap_in]
    refine lpI (m - 1) (by omega) ⟨k + 1, v', by omega, by simp; omega, by simp, ?_, ?_⟩
    · rw [List.replicate_succ']; exact ha2
    · exact ⟨by have := hs2.1; simp at this; omega, fun i s h1 h2 => hs2.2 i s h1 ((keeps_app _).get (hs.2 i s h1 h2))⟩
  · obtain rfl : m = 0 := by omega
    obtain rfl : k = n := by omega
    simp [t0, t3, ha, hs]
end Go.Proofs.YtimijeeihicohaaGreat

namespace Go.Proofs.YtimijeeihicohaaGreat
open Go.RowKit
set_option linter.unusedVariables false
set_option linter.unusedSimpArgs false
set_option maxRecDepth 100000
attribute [local simp] List.getElem?_cons_zero
attribute [local irreducible] awCond awCall awLoop awDraw ow retQ retC resQ Keeps
theorem smp_eq {x y : Int} (h : (x - y) % 4294967296 = 0) : smp x = smp y := by unfold smp; omega
theorem smp_wrap (x : Int) : smp (IntKind.i64.wrap x) = smp x := by
  rw [IntKind.wrap_i64]
  unfold smp
  omega
def inV (x : Node) (fr vals : List Int) : List Int := if x.k = 1 then [el fr x.a.toNat] else x.from_.map fun f => el vals f.toNat
def lookV (t : List Int) (x : Int) : Int := el t (t.length * (x % 4294967296) / 4294967296).toNat
def noiseV (s : Int) : Int := if s % 2 = 1 then smp ((((s % 4294967296) / 2).toNat ^^^ 2734686208 : Nat) : Int) else smp ((s % 4294967296) / 2)
def outV (x : Node) (tabs : List (List Int)) (i s : List Int) : Int :=
  if x.k = 1 then el i 0 else if x.k = 2 then x.a else if x.k = 3 then smp (el i 0 + el i 1) else if x.k = 4 then smp (el i 0 - el i 1)
  else if x.k = 5 then smp (x.a * el i 0) else if x.k = 6 then el s 0 else if x.k = 7 then smp (el s 0 + el i 0) else if x.k = 8 then smp (el i 0 - el s 0)
  else if x.k = 9 then smp (el i 0 * el i 1) else if x.k = 10 then el i 0 / 2 ^ x.a.toNat else if x.k = 11 then max (-x.a) (min x.a (el i 0))
  else if x.k = 12 then el s 0 else if x.k = 13 then lookV (el tabs x.a.toNat) (el i 0) else if x.k = 14 then el s 0
  else if x.k = 15 then (if 0 ≤ el i 0 then el i 1 else el i 2) else if x.k = 16 then (if 0 < el i 1 then el i 0 else el s 0)
  else smp (el i 0 + x.a * el s 0)
def nextV (x : Node) (i s : List Int) (out : Int) : List Int :=
  if x.k = 6 then s.drop 1 ++ [el i 0] else if x.k = 17 then s.drop 1 ++ [out] else if x.k = 7 ∨ x.k = 16 then [out] else if x.k = 8 then [el i 0]
  else if x.k = 12 then [smp (el s 0 + el i 0)] else if x.k = 14 then [noiseV (el s 0)] else []
def startV (x : Node) : List Int :=
  if x.k = 6 then List.replicate x.a.toNat 0 else if x.k = 17 then List.replicate x.b.toNat 0 else if x.k = 7 ∨ x.k = 8 ∨ x.k = 16 then [0]
  else if x.k = 12 ∨ x.k = 14 then [x.a] else []
/-- The values of the nodes in a frame, when q nodes of an order are done. -/
def curV (p : Patch) (O : List Int) (cs : List (List Int)) (fr v0 : List Int) : Nat → List Int
  | 0 => v0
  | q + 1 => (curV p O cs fr v0 q).set (el O q).toNat (outV (el p.nodes (el O q).toNat) p.tabs (inV (el p.nodes (el O q).toNat) fr (curV p O cs fr v0 q)) (el cs (el O q).toNat))
theorem curV_len {p : Patch} {O : List Int} {cs : List (List Int)} {fr v0 : List Int} : ∀ q, (curV p O cs fr v0 q).length = v0.length
  | 0 => rfl
  | q + 1 => by rw [curV, List.length_set, curV_len q]
def valsV (p : Patch) (cs : List (List Int)) (fr : List Int) : List Int := curV p (ordL p.nodes) cs fr (List.replicate p.nodes.length 0) p.nodes.length
def nextC (p : Patch) (cs : List (List Int)) (fr V : List Int) : List (List Int) := (List.range p.nodes.length).map fun k => nextV (el p.nodes k) (inV (el p.nodes k) fr V) (el cs k) (el V k)
structure OrdOk (ns : List Node) (O : List Int) : Prop where
  idx : ∀ q, q < O.length → ∃ i : Nat, el O q = i ∧ i < ns.length
  nodup : ∀ q r, q < O.length → r < O.length → el O q = el O r → q = r
  clos : ∀ q, q < O.length → ∀ f, f ∈ waits (el ns (el O q).toNat) → ∃ r, r < q ∧ el O r = f
theorem OrdOk.nil (ns : List Node) : OrdOk ns [] := ⟨fun q h => by simp at h, fun q r h => by simp at h, fun q h => by simp at h⟩
theorem ordT_ok {ns : List Node} (hx : ∀ y, y ∈ ns → idxB ns.length y.from_ = true) : ∀ (m : Nat) (tk : List Bool) (out : List Int), TkOut ns tk out → OrdOk ns out → OrdOk ns (ordT ns m tk out)
  | 0, tk, out, _, h => h
  | m + 1, tk, out, ht, h => by
    rw [ordT]
    cases hn : nextT ns tk with
    | none => exact h
    | some i =>
      have hf := List.find?_some hn
      have hi : i < ns.length := List.mem_range.1 (List.mem_of_find?_eq_some hn)
      have hw : ∀ k, k < (waits (el ns i)).length → ∃ f : Nat, el (waits (el ns i)) k = f ∧ f < ns.length := fun k hk => by
        obtain ⟨f, h1, h2⟩ := waits_idx (hx _ (el_mem hi)) hk
        exact ⟨f, h1, by omega⟩
      rw [ht.rdy hi hw] at hf
      simp only [Bool.and_eq_true, Bool.not_eq_true', decide_eq_false_iff_not, List.all_eq_true, decide_eq_true_eq] at hf
      have hmem : ∀ y, y ∈ out → ∃ r, r < out.length ∧ el out r = y := fun y hy => by
        obtain ⟨r, hr, rfl⟩ := List.getElem_of_mem hy
        exact ⟨r, hr, (el_eq hr).symm⟩
      have hl : ∀ q, q < out.length → el (out ++ [(i : Int)]) q = el out q := fun q hq => el_append_left hq
      have hlast : el (out ++ [(i : Int)]) out.length = i := by rw [el_append_right (Nat.le_refl _), Nat.sub_self]; rfl
      refine ordT_ok hx m _ _ (ht.next hi) ⟨fun q hq => ?_, fun q r hq hr e => ?_, fun q hq f hf' => ?_⟩
      · simp at hq
        by_cases hq' : q < out.length
        · rw [hl q hq']; exact h.idx q hq'
        · obtain rfl : q = out.length := by omega
          exact ⟨i, hlast, hi⟩
      · simp at hq hr
        by_cases hq' : q < out.length
        · by_cases hr' : r < out.length
          · rw [hl q hq', hl r hr'] at e
            exact h.nodup q r hq' hr' e
          · obtain rfl : r = out.length := by omega
            rw [hlast, hl q hq'] at e
            exact absurd (e ▸ el_mem hq') hf.1
        · obtain rfl : q = out.length := by omega
          by_cases hr' : r < out.length
          · rw [hlast, hl r hr'] at e
            exact absurd (e ▸ el_mem hr') hf.1
          · omega
      · simp at hq
        by_cases hq' : q < out.length
        · rw [hl q hq'] at hf'
          obtain ⟨r, h1, h2⟩ := h.clos q hq' f hf'
          exact ⟨r, h1, by rw [hl r (by omega)]; exact h2⟩
        · obtain rfl : q = out.length := by omega
          rw [hlast] at hf'
          obtain ⟨r, h1, h2⟩ := hmem f (hf.2 f (by simpa using hf'))
          exact ⟨r, h1, by rw [hl r h1]; exact h2⟩
theorem ordL_ok {ns : List Node} (hx : ∀ y, y ∈ ns → idxB ns.length y.from_ = true) : OrdOk ns (ordL ns) := ordT_ok hx _ _ _ (.nil ns) (.nil ns)
theorem ordT_tk {ns : List Node} : ∀ (m : Nat) (tk : List Bool) (out : List Int), TkOut ns tk out → tk.count false + out.length = ns.length → ∃ tk', TkOut ns tk' (ordT ns m tk out) ∧ tk'.count false + (ordT ns m tk out).length = ns.length
  | 0, tk, out, h, hc => ⟨tk, h, hc⟩
  | m + 1, tk, out, h, hc => by
    rw [ordT]
    cases hn : nextT ns tk with
    | none => exact ⟨tk, h, hc⟩
    | some i =>
      have hf := List.find?_some hn
      have hi : i < ns.length := List.mem_range.1 (List.mem_of_find?_eq_some hn)
      have := count_set_true (by rw [h.len]; exact hi) (rdyT_free hf)
      exact ordT_tk m _ _ (h.next hi) (by simp; omega)
/-- All indices stand in a whole order. -/
theorem ordL_all {ns : List Node} (hl : (ordL ns).length = ns.length) : ∀ i, i < ns.length → ∃ q, q < ns.length ∧ el (ordL ns) q = (i : Int) := by
  intro i hi
  obtain ⟨tk, h1, h2⟩ := ordT_tk ns.length (List.replicate ns.length false) [] (.nil ns) (by simp)
  have h2' : tk.count false = 0 := by
    have h3 : tk.count false + (ordL ns).length = ns.length := h2
    omega
  have h4 : el tk i = true := by
    cases hb : el tk i with
    | true => rfl
    | false => have := count_pos (by rw [h1.len]; exact hi) hb; omega
  obtain ⟨q, hq, e⟩ := List.getElem_of_mem ((h1.iff i hi).1 h4)
  have hq' : q < (ordL ns).length := hq
  exact ⟨q, by omega, by rw [← el_eq hq']; exact e⟩
theorem el_set_same {α : Type} [Inhabited α] {l : List α} {i : Nat} (a : α) (h : i < l.length) : el (l.set i a) i = a := by simp [el, h]
theorem el_set_other {α : Type} [Inhabited α] {l : List α} {i j : Nat} (a : α) (h : i ≠ j) : el (l.set i a) j = el l j := by simp [el, List.getElem?_set_ne h]
section
variable {p : Patch} {O : List Int} {cs : List (List Int)} {fr v0 v0' : List Int}
theorem outV_congr {x : Node} {tabs : List (List Int)} {s v v' : List Int} (h : ∀ f, f ∈ waits x → el v f.toNat = el v' f.toNat) : outV x tabs (inV x fr v) s = outV x tabs (inV x fr v') s := by
  by_cases h6 : x.k = 6
  · simp [outV, h6]
  · have : inV x fr v = inV x fr v' := by
      unfold inV
      split
      · rfl
      · apply List.map_congr_left
        intro f hf
        exact h f (by unfold waits; rw [if_neg h6]; exact hf)
    rw [this]
theorem inV_congr {x : Node} {v v' : List Int} (h6 : x.k ≠ 6) (h : ∀ f, f ∈ waits x → el v f.toNat = el v' f.toNat) : inV x fr v = inV x fr v' := by
  unfold inV
  split
  · rfl
  · apply List.map_congr_left
    intro f hf
    exact h f (by unfold waits; rw [if_neg h6]; exact hf)
theorem cur_agree (h : OrdOk p.nodes O) (h1 : v0.length = p.nodes.length) (h2 : v0'.length = p.nodes.length) : ∀ q, q ≤ O.length → ∀ s, s < q → el (curV p O cs fr v0 q) (el O s).toNat = el (curV p O cs fr v0' q) (el O s).toNat
  | 0, _, s, hs => by omega
  | q + 1, hq, s, hs => by
    obtain ⟨i, hi, hil⟩ := h.idx q (by omega)
    obtain ⟨j, hj, hjl⟩ := h.idx s (by omega)
    by_cases e : s = q
    · subst e
      rw [curV, curV, el_set_same _ (by rw [curV_len, hi]; simpa [h1] using hil), el_set_same _ (by rw [curV_len, hi]; simpa [h2] using hil)]
      refine outV_congr fun f hf => ?_
      obtain ⟨r, hr, rfl⟩ := h.clos s (by omega) f hf
      exact cur_agree h h1 h2 s (by omega) r hr
    · have hne : (el O q).toNat ≠ (el O s).toNat := fun hh => by
        have := h.nodup q s (by omega) (by omega) (by rw [hi, hj] at hh ⊢; simp at hh; omega)
        omega
      rw [curV, curV, el_set_other _ hne, el_set_other _ hne]
      exact cur_agree h h1 h2 q (by omega) s (by omega)
theorem cur_keep (h : OrdOk p.nodes O) {q s : Nat} (hs : s < q) : ∀ r, q + r ≤ O.length → el (curV p O cs fr v0 (q + r)) (el O s).toNat = el (curV p O cs fr v0 q) (el O s).toNat
  | 0, _ => rfl
  | r + 1, hr => by
    obtain ⟨i, hi, hil⟩ := h.idx (q + r) (by omega)
    obtain ⟨j, hj, hjl⟩ := h.idx s (by omega)
    have hne : (el O (q + r)).toNat ≠ (el O s).toNat := fun hh => by
      have := h.nodup (q + r) s (by omega) (by omega) (by rw [hi, hj] at hh ⊢; simp at hh; omega)
      omega
    rw [← Nat.add_assoc, curV, el_set_other _ hne]
    exact cur_keep h hs r (by omega)
/-- Whatever the values were before, a whole order sets them all. -/
theorem cur_vals (hx : ∀ y, y ∈ p.nodes → idxB p.nodes.length y.from_ = true) (hl : (ordL p.nodes).length = p.nodes.length) (h1 : v0.length = p.nodes.length) : curV p (ordL p.nodes) cs fr v0 p.nodes.length = valsV p cs fr := by
  have ho := ordL_ok hx
  apply List.ext_getElem
  · rw [curV_len, valsV, curV_len, h1]; simp
  · intro i a b
    rw [curV_len, h1] at a
    obtain ⟨q, hq, e⟩ := ordL_all hl i a
    have := cur_agree (cs := cs) (fr := fr) ho h1 (v0' := List.replicate p.nodes.length 0) (by simp) p.nodes.length (by omega) q hq
    rw [e] at this
    rw [el_eq, el_eq]
    simpa [valsV] using this
/-- What a node gets in its turn is what it gets at the end. -/
theorem cur_in (hx : ∀ y, y ∈ p.nodes → idxB p.nodes.length y.from_ = true) (hl : (ordL p.nodes).length = p.nodes.length) (h1 : v0.length = p.nodes.length) {q : Nat} (hq : q < p.nodes.length) (h6 : (el p.nodes (el (ordL p.nodes) q).toNat).k ≠ 6) :
    inV (el p.nodes (el (ordL p.nodes) q).toNat) fr (curV p (ordL p.nodes) cs fr v0 q) = inV (el p.nodes (el (ordL p.nodes) q).toNat) fr (valsV p cs fr) := by
  have ho := ordL_ok hx
  refine inV_congr h6 fun f hf => ?_
  obtain ⟨r, hr, rfl⟩ := ho.clos q (by omega) f hf
  have := cur_keep (v0 := v0) (cs := cs) (fr := fr) ho hr (p.nodes.length - q) (by omega)
  rw [show q + (p.nodes.length - q) = p.nodes.length by omega, cur_vals hx hl h1] at this
  exact this.symm
theorem cur_out (hx : ∀ y, y ∈ p.nodes → idxB p.nodes.length y.from_ = true) (hl : (ordL p.nodes).length = p.nodes.length) (h1 : v0.length = p.nodes.length) {q : Nat} (hq : q < p.nodes.length) :
    outV (el p.nodes (el (ordL p.nodes) q).toNat) p.tabs (inV (el p.nodes (el (ordL p.nodes) q).toNat) fr (curV p (ordL p.nodes) cs fr v0 q)) (el cs (el (ordL p.nodes) q).toNat) = el (valsV p cs fr) (el (ordL p.nodes) q).toNat := by
  have ho := ordL_ok hx
  obtain ⟨i, hi, hil⟩ := ho.idx q (by omega)
  have := cur_keep (v0 := v0) (cs := cs) (fr := fr) ho (Nat.lt_succ_self q) (p.nodes.length - (q + 1)) (by omega)
  rw [show q + 1 + (p.nodes.length - (q + 1)) = p.nodes.length by omega, cur_vals hx hl h1, curV, el_set_same _ (by rw [curV_len, hi, h1]; simpa using hil)] at this
  exact this.symm
end
def frameV (ins : List (List Int)) (t : Nat) : List Int := ins.map fun s => atL s t
/-- The output and the state after some frames. -/
def rendS (p : Patch) (ins : List (List Int)) : Nat → List Int × List (List Int)
  | 0 => ([], p.nodes.map startV)
  | t + 1 => ((rendS p ins t).1 ++ [el (valsV p (rendS p ins t).2 (frameV ins t)) (el p.outs 0).toNat], nextC p (rendS p ins t).2 (frameV ins t) (valsV p (rendS p ins t).2 (frameV ins t)))
theorem rendS_len {p : Patch} {ins : List (List Int)} : ∀ t, (rendS p ins t).1.length = t
  | 0 => rfl
  | t + 1 => by rw [rendS, List.length_append, rendS_len t]; rfl
/-- The state has the right form. -/
def okCs (p : Patch) (cs : List (List Int)) : Prop := cs.length = p.nodes.length ∧ ∀ k, k < p.nodes.length → (el cs k).length = (startV (el p.nodes k)).length
structure NodeOk (p : Patch) (x : Node) : Prop where
  kind : 1 ≤ x.k ∧ x.k ≤ 17
  one : x.k = 5 ∨ x.k = 6 ∨ x.k = 7 ∨ x.k = 8 ∨ x.k = 10 ∨ x.k = 11 ∨ x.k = 12 ∨ x.k = 13 ∨ x.k = 17 → x.from_.length = 1
  two : x.k = 3 ∨ x.k = 4 ∨ x.k = 9 ∨ x.k = 16 → x.from_.length = 2
  three : x.k = 15 → x.from_.length = 3
  zero : x.k = 1 ∨ x.k = 2 ∨ x.k = 14 → x.from_.length = 0
  inp : x.k = 1 → 0 ≤ x.a ∧ x.a < p.inp
  del : x.k = 6 → 1 ≤ x.a ∧ x.a ≤ 16
  shift : x.k = 10 → 0 ≤ x.a ∧ x.a ≤ 31
  clip : x.k = 11 → 0 ≤ x.a ∧ x.a ≤ 2147483647
  tab : x.k = 13 → 0 ≤ x.a ∧ x.a < p.tabs.length
  comb : x.k = 17 → 1 ≤ x.b ∧ x.b ≤ 16
  idx : idxB p.nodes.length x.from_ = true
theorem nodeF_ok {p : Patch} {x : Node} (h : nodeF p x = true) : NodeOk p x := by
  unfold nodeF nodeB at h
  simp only [Bool.and_eq_true, Bool.not_eq_true', Bool.and_eq_false_iff, decide_eq_false_iff_not] at h
  obtain ⟨⟨h1, h2, h3, h4⟩, h5, h6⟩ := h
  have hk := inB_iff.1 h1
  unfold endB at h4
  unfold numB at h2
  simp only [Bool.and_eq_true, Bool.or_eq_true, decide_eq_true_eq] at h4
  have hc : x.k = 1 ∨ x.k = 2 ∨ x.k = 3 ∨ x.k = 4 ∨ x.k = 5 ∨ x.k = 6 ∨ x.k = 7 ∨ x.k = 8 ∨ x.k = 9 ∨ x.k = 10 ∨ x.k = 11 ∨ x.k = 12 ∨ x.k = 13 ∨ x.k = 14 ∨ x.k = 15 ∨ x.k = 16 ∨ x.k = 17 := by omega
  rcases hc with e | e | e | e | e | e | e | e | e | e | e | e | e | e | e | e | e <;> simp [kOf, e, kindsL, el, hasAB, inB] at h2 h4 h6 <;> refine ⟨hk, ?_, ?_, ?_, ?_, ?_, ?_, ?_, ?_, ?_, ?_, h5⟩ <;> (intro hh; first | omega | simp_all)
theorem next_len {p : Patch} {x : Node} (h : NodeOk p x) {i s : List Int} {o : Int} (hs : s.length = (startV x).length) : (nextV x i s o).length = (startV x).length := by
  have h6 := h.del
  have h17 := h.comb
  unfold nextV startV at *
  by_cases e6 : x.k = 6
  · have := h6 e6
    simp [e6] at hs ⊢; omega
  by_cases e17 : x.k = 17
  · have := h17 e17
    simp [e17] at hs ⊢; omega
  by_cases e7 : x.k = 7 ∨ x.k = 16
  · have e : x.k = 7 ∨ x.k = 8 ∨ x.k = 16 := by omega
    simp [e6, e17, e7, e]
  by_cases e8 : x.k = 8
  · simp [e8]
  by_cases e12 : x.k = 12
  · simp [e12]
  by_cases e14 : x.k = 14
  · simp [e14]
  have n1 : ¬ (x.k = 7 ∨ x.k = 8 ∨ x.k = 16) := by omega
  have n2 : ¬ (x.k = 12 ∨ x.k = 14) := by omega
  simp [e6, e17, e7, e8, e12, e14, n1, n2]
theorem nextC_ok {p : Patch} (hn : ∀ y, y ∈ p.nodes → NodeOk p y) {cs : List (List Int)} {fr V : List Int} (h : okCs p cs) : okCs p (nextC p cs fr V) := by
  refine ⟨by simp [nextC], fun k hk => ?_⟩
  have : el (nextC p cs fr V) k = nextV (el p.nodes k) (inV (el p.nodes k) fr V) (el cs k) (el V k) := by simp [nextC, el, hk]
  rw [this]
  exact next_len (hn _ (el_mem hk)) (h.2 k hk)
theorem rendS_ok {p : Patch} (hn : ∀ y, y ∈ p.nodes → NodeOk p y) {ins : List (List Int)} : ∀ t, okCs p (rendS p ins t).2
  | 0 => ⟨by simp [rendS], fun k hk => by simp [rendS, el, hk]⟩
  | t + 1 => nextC_ok hn (rendS_ok hn t)
end Go.Proofs.YtimijeeihicohaaGreat

namespace Go.Proofs.YtimijeeihicohaaGreat
open Go.RowKit
set_option linter.unusedVariables false
set_option linter.unusedSimpArgs false
set_option maxRecDepth 100000
attribute [local simp] List.getElem?_cons_zero
attribute [local irreducible] awCond awCall awLoop awDraw ow retQ retC resQ Keeps
theorem slt {M M' : Mem} (h : Same M.length M M') : Keeps M M' := h.keeps (Keeps.refl _) (Nat.le_refl _)
theorem put_boxJ {b : Nat} {M : Mem} {vs cs : List Value} {t : Bool} {e : TypeId} {z : Nat} (hb : b ≤ M.length) (hl : vs.length = cs.length) (h1 : vs.all oneV = true) :
    putCells b (M ++ [.live ⟨cs, true, t, e, z⟩]) M.length 0 vs = some (M ++ [.live ⟨vs, true, t, e, z⟩]) := by
  rw [put_whole getElem?_snoc_eq hb hl h1]
  simp
end Go.Proofs.YtimijeeihicohaaGreat
