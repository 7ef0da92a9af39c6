/- Parts of the proof, together: Patches: the program's test of their form. Patches: the order of the nodes, as the program finds it. Instruments: the program's test. Instruments: the reference's tests of nodes, tables, envelopes. Nodes and patches: the reference's tests. No conditions. -/
import Derived.Test.YtimijeeihicohaaGreatZzPf10
namespace Go.Proofs.YtimijeeihicohaaGreat
open Go.RowKit
set_option linter.unusedVariables false
set_option linter.unusedSimpArgs false
set_option maxRecDepth 100000
attribute [local simp] List.getElem?_cons_zero
attribute [local irreducible] awCond awCall awLoop awDraw ow retQ retC resQ Keeps
def nodeF (p : Patch) (x : Node) : Bool := nodeB x p.tabs.length && (idxB p.nodes.length x.from_ && !(decide (x.k = 1) && decide (p.inp ≤ x.a)))
def formB (p : Patch) : Bool := (inB p.inp 0 4 && tablesB p.tabs && decide (p.nodes.length ≤ 24) && decide (p.outs.length ≤ 4) && idxB p.nodes.length p.outs) && p.nodes.all (nodeF p)
set_option maxHeartbeats 2000000 in
theorem isWellFormed_i {M : Mem} {lo hi : Nat} {us : List Value} {x : Patch} (h : patchP.rd lo hi M x us) : Det Tryz.prog M.length 171 [.agg us.toArray] M (.bool (formB x)) M := by
  obtain ⟨u1, u2, u3, rfl, hu1, hu2, hu3⟩ := h
  obtain ⟨A1, n1, c1, e1, r1, r2, r3⟩ := id hu1
  obtain ⟨A2, n2, c2, e2, p1, p2, p3⟩ := id hu2
  obtain ⟨A3, n3, c3, e3, q1, q2, q3⟩ := id hu3
  subst e1; subst e2; subst e3
  have ht := r3.1
  have hn := p3.1
  have ho := q3.1
  have szN : ∀ {M : Mem} {A : Option Addr} {n c : Nat}, Det Tryz.prog M.length 192 [.slice A n c] M (iv n) M := by
    intro M A n c
    first | (refine det_fn Tryz.func192 rfl Tryz.ntmps192 Tryz.results192 rfl rfl rfl (by simp) ?_) | (refine det_fnC Tryz.func192 rfl Tryz.ntmps192 Tryz.results192 rfl rfl (by simp) ?_)
    simp [Keeps.refl]
  have szI : ∀ {M : Mem} {A : Option Addr} {n c : Nat}, Det Tryz.prog M.length 155 [.slice A n c] M (iv n) M := by
    intro M A n c
    first | (refine det_fn Tryz.func155 rfl Tryz.ntmps155 Tryz.results155 rfl rfl rfl (by simp) ?_) | (refine det_fnC Tryz.func155 rfl Tryz.ntmps155 Tryz.results155 rfl rfl (by simp) ?_)
    simp [Keeps.refl]
  have szT : ∀ {M : Mem} {A : Option Addr} {n c : Nat}, Det Tryz.prog M.length 211 [.slice A n c] M (iv n) M := by
    intro M A n c
    first | (refine det_fn Tryz.func211 rfl Tryz.ntmps211 Tryz.results211 rfl rfl rfl (by simp) ?_) | (refine det_fnC Tryz.func211 rfl Tryz.ntmps211 Tryz.results211 rfl rfl (by simp) ?_)
    simp [Keeps.refl]
  have no : (inB x.inp 0 4 && tablesB x.tabs && decide (x.nodes.length ≤ 24) && decide (x.outs.length ≤ 4) && idxB x.nodes.length x.outs) = false → formB x = false := fun h => by unfold formB; rw [h]; rfl
  rw [hn, ho] at no
  first | (refine det_fn Tryz.func171 rfl Tryz.ntmps171 Tryz.results171 rfl rfl rfl (by simp) ?_) | (refine det_fnC Tryz.func171 rfl Tryz.ntmps171 Tryz.results171 rfl rfl (by simp) ?_)
  simp
  refine awCall_det' szN (by simp) ?_
  simp
  refine awCall_det' (within_a x.inp 0 4) (by simp) ?_
  by_cases g1 : inB x.inp 0 4 = true
  case neg =>
    rw [Bool.not_eq_true] at g1
    simp [g1]
    exact ⟨no (by rw [g1]; rfl), keeps_app _⟩
  simp [g1]
  refine awCall_det' (areTables_i (hu1.app _)) (by simp) ?_
  by_cases g2 : tablesB x.tabs = true
  case neg =>
    rw [Bool.not_eq_true] at g2
    simp [g2]
    exact ⟨no (by rw [g2]; simp), keeps_app _⟩
  simp [g2]
  by_cases g3 : n2 ≤ 24
  case neg =>
    have g3' : (24 : Int) < n2 := by omega
    simp [g3']
    exact ⟨no (by simp [g3]), keeps_app _⟩
  have g3' : ¬ (24 : Int) < n2 := by omega
  simp [g3']
  refine awCall_det' szI (by simp) ?_
  by_cases g4 : n3 ≤ 4
  case neg =>
    have g4' : (4 : Int) < n3 := by omega
    simp [g4']
    exact ⟨no (by simp [g4]), keeps_app _⟩
  have g4' : ¬ (4 : Int) < n3 := by omega
  simp [g4']
  refine awCall_det' (areIndices_i n2 (by omega) (by omega) (hu3.app _)) (by simp) ?_
  by_cases g5 : idxB n2 x.outs = true
  case neg =>
    rw [Bool.not_eq_true] at g5
    simp [g5]
    exact ⟨no (by rw [g5]; simp), keeps_app _⟩
  simp [g5]
  have key : formB x = x.nodes.all (nodeF x) := by unfold formB; rw [g1, g2, hn, ho, g5]; simp [g3, g4]
  rw [key]
  clear key no
  obtain ⟨M0, hM0⟩ : ∃ M0 : Mem, M0 = M ++ [Slot.live ⟨[iv x.inp, .slice A1 n1 c1, .slice A2 n2 c2, .slice A3 n3 c3], true, true, 39, 4⟩] := ⟨_, rfl⟩
  have k0 : Keeps M M0 := by rw [hM0]; exact keeps_app _
  have b0 : cellAt M0 M.length 0 = some (iv x.inp) := by rw [hM0]; simp
  have b1 : cellAt M0 M.length 1 = some (.slice A1 n1 c1) := by rw [hM0]; simp
  have l0 : M0.length = M.length + 1 := by rw [hM0]; simp
  rw [← hM0]
  clear hM0
  refine awLoop_T (fun m T M' => ∃ k : Nat, k + m = n2 ∧ Keeps M0 M' ∧ look T 39 = some (iv k) ∧ look T 38 = some (iv n2) ∧ look T 37 = some (.slice A2 n2 c2) ∧ look T 3 = some (iv n2) ∧ look T 1 = some (.pointer (some ⟨M.length, 0, none⟩)) ∧ ∀ i, i < k → nodeF x (el x.nodes i) = true) n2 ⟨0, by omega, Keeps.refl _, by simp, by simp, by simp, by simp, by simp, fun i hi => by omega⟩ ?_
  rintro m T M1 ⟨k, hm, k1, t39, t38, t37, t3, t1, hkk⟩
  have l1 := k1.len
  have k01 := k0.trans k1
  by_cases hlt : k < n2
  case neg =>
    obtain rfl : k = n2 := by omega
    simp [t39, t38]
    exact ⟨fun y hy => List.all_eq_true.1 (all_yes (p := nodeF x) fun i hi => hkk i (by omega)) y hy, k01⟩
  obtain ⟨id, off, us, rfl, he, hrd, hc⟩ := (p3.keeps k01).at_ hlt
  have hrd2 := hrd
  obtain ⟨u, rfl, hu⟩ := hrd2
  have huV := hu
  obtain ⟨A4, n4, c4, rfl, -⟩ := hu
  have cl := cellsAt_of (n := 4) hc rfl (by omega)
  have bad : nodeF x (el x.nodes k) = false → x.nodes.all (nodeF x) = false := fun h => all_no (by omega) h
  have kb : nodeF x (el x.nodes k) = (nodeB (el x.nodes k) n1 && (idxB n2 (el x.nodes k).from_ && !(decide ((el x.nodes k).k = 1) && decide (x.inp ≤ (el x.nodes k).a)))) := by unfold nodeF; rw [ht, hn]
  have next : nodeF x (el x.nodes k) = true → ∀ i, i < k + 1 → nodeF x (el x.nodes i) = true := fun h i hi => by
    by_cases e : i = k
    · rw [e]; exact h
    · exact hkk i (by omega)
  generalize hG : x.nodes.all (nodeF x) = G at bad ⊢
  generalize hy : el x.nodes k = y at *
  simp (disch := omega) [t39, t38, t37, hlt, cl, he]
  refine awDraw_E 22 [[],[],[1],[2,1],[0,3,2,1],[4,0,3,2,1],[5,4,0,3,2,1],[6,5,4,0,3,2,1],[7,6,5,4,0,3,2,1],[6,5,4,0,3,2,1],[8,7,6,5,4,0,3,2,1,9],[10,8,7,6,5,4,0,3,2,1,9],[6,5,4,0,3,2,1,11,10,8,7,9],[12,6,5,4,0,3,2,1,11,10,8,7,9],[13,12,6,5,4,0,3,2,1,11,10,8,7,9],[14,13,12,6,5,4,0,3,2,1,11,10,8,7,9],[15,14,13,12,6,5,4,0,3,2,1,11,10,8,7,9],[16,15,14,13,12,6,5,4,0,3,2,1,11,10,8,7,9],[17,16,15,14,13,12,6,5,4,0,3,2,1,11,10,8,7,9],[18,17,16,15,14,13,12,6,5,4,0,3,2,1,11,10,8,7,9],[17,16,15,14,13,12,6,5,4,0,3,2,1,11,10,8,7,9],[20,17,16,15,14,13,12,6,5,4,0,3,2,1,11,10,8,7,9],[19,18,17,16,15,14,13,12,6,5,4,0,3,2,1,11,10,8,7,9,21,20],[17,16,15,14,13,12,6,5,4,0,3,2,1,11,10,8,7,9,22,19,18,21,20],[13,12,6,5,4,0,3,2,1,11,10,8,7,9,23,17,16,15,14,22,19,18,21,20]] (by kernel_rfl) (by kernel_rfl) ?_
  simp (disch := omega) [t1, t3, cellAt_app (cellAt_keeps k1 b1)]
  refine awCall_det' szT (by simp) ?_
  simp
  refine awCall_det' (isNode_i n1 (nodeP.app hrd _)) (by simp <;> omega) ?_
  by_cases f1 : nodeB y n1 = true
  case neg =>
    rw [Bool.not_eq_true] at f1
    simp [f1]
    exact ⟨bad (by rw [kb, f1]; rfl), k01.app _⟩
  simp (disch := omega) [f1, t3, t1]
  refine awCall_det' (areIndices_i n2 (by omega) (by omega) (huV.app _)) (by simp <;> omega) ?_
  by_cases f2 : idxB n2 y.from_ = true
  case neg =>
    rw [Bool.not_eq_true] at f2
    simp [f2]
    exact ⟨bad (by rw [kb, f1, f2]; rfl), k01.app _⟩
  by_cases f3 : y.k = 1
  case neg =>
    simp (disch := omega) [f2, f3, t1, t3, t39, t38, t37, wrap_in]
    exact lpI (m - 1) (by omega) ⟨k + 1, by omega, k1.app _, by simp, by simp [t38], by simp [t37], by simp [t3], by simp [t1], next (by rw [kb, f1, f2]; simp [f3])⟩
  by_cases f4 : x.inp ≤ y.a
  · simp (disch := omega) [f2, f3, f4, t1, t3, cellAt_app (cellAt_keeps k1 b0)]
    exact ⟨bad (by rw [kb]; simp [f3, f4]), k01.app _⟩
  · simp (disch := omega) [f2, f3, f4, t1, t3, cellAt_app (cellAt_keeps k1 b0), t39, t38, t37, wrap_in]
    exact lpI (m - 1) (by omega) ⟨k + 1, by omega, k1.app _, by simp, by simp [t38], by simp [t37], by simp [t3], by simp [t1], next (by rw [kb, f1, f2]; simp [f3, f4])⟩
end Go.Proofs.YtimijeeihicohaaGreat

namespace Go.Proofs.YtimijeeihicohaaGreat
open Go.RowKit
set_option linter.unusedVariables false
set_option linter.unusedSimpArgs false
set_option maxRecDepth 100000
attribute [local simp] List.getElem?_cons_zero
attribute [local irreducible] awCond awCall awLoop awDraw ow retQ retC resQ Keeps
def waits (x : Node) : List Int := if x.k = 6 then [] else x.from_
def rdyT (ns : List Node) (tk : List Bool) (i : Nat) : Bool := !(el tk i) && (waits (el ns i)).all fun f => el tk f.toNat
def nextT (ns : List Node) (tk : List Bool) : Option Nat := (List.range ns.length).find? (rdyT ns tk)
def ordT (ns : List Node) : Nat → List Bool → List Int → List Int
  | 0, _, out => out
  | m + 1, tk, out => match nextT ns tk with
    | none => out
    | some i => ordT ns m (tk.set i true) (out ++ [(i : Int)])
def ordL (ns : List Node) : List Int := ordT ns ns.length (List.replicate ns.length false) []
theorem nextT_none {ns : List Node} {tk : List Bool} (h : ∀ i, i < ns.length → rdyT ns tk i = false) : nextT ns tk = none := by
  unfold nextT
  rw [List.find?_eq_none]
  intro i hi
  rw [h i (List.mem_range.1 hi)]; simp
theorem nextT_some {ns : List Node} {tk : List Bool} {i : Nat} (hi : i < ns.length) (hr : rdyT ns tk i = true) (h : ∀ j, j < i → rdyT ns tk j = false) : nextT ns tk = some i := by
  unfold nextT
  rw [List.find?_eq_some_iff_getElem]
  refine ⟨hr, i, by simpa using hi, by simp, fun j hj => ?_⟩
  simp [h j hj]
theorem rdyT_free {ns : List Node} {tk : List Bool} {i : Nat} (h : rdyT ns tk i = true) : el tk i = false := by
  unfold rdyT at h
  simp only [Bool.and_eq_true, Bool.not_eq_true'] at h
  exact h.1
theorem count_pos {tk : List Bool} {i : Nat} (hi : i < tk.length) (h : el tk i = false) : 0 < tk.count false := by
  rw [List.count_pos_iff]
  rw [← h]; exact el_mem hi
theorem count_set_true {tk : List Bool} {i : Nat} (hi : i < tk.length) (h : el tk i = false) : (tk.set i true).count false + 1 = tk.count false := by
  have h1 := List.count_set (a := true) (b := false) (l := tk) (i := i) hi
  have h2 := count_pos hi h
  rw [h1, el_eq hi, h]
  simp
  omega
theorem splice_setI {α : Type} {k : Nat} [Inhabited α] (R : RecV α k) {l : List α} {i : Nat} {a : α} (hi : i < l.length) : splice (cellsL R l) (i * k) (R.row a) = cellsL R (l.set i a) := by
  have h1 : l = l.take i ++ (el l i :: l.drop (i + 1)) := by
    conv => lhs; rw [← List.take_append_drop i l, drop_el hi]
  have hl : (cellsL R (l.take i)).length = i * k := by rw [cellsL_len, List.length_take, Nat.min_eq_left (by omega)]
  have h2 : cellsL R l = cellsL R (l.take i) ++ (R.row (el l i) ++ cellsL R (l.drop (i + 1))) := by
    conv => lhs; rw [h1]
    rw [cellsL_append, cellsL_cons]
  rw [h2, ← hl, splice_app _ _ _ (by rw [List.length_append, R.len, R.len]; omega), R.len, List.drop_append_of_le_length (by rw [R.len]; omega), List.drop_of_length_le (by rw [R.len]; omega), List.nil_append]
  have h3 : l.set i a = l.take i ++ (a :: l.drop (i + 1)) := List.set_eq_take_append_cons_drop .. |>.trans (by rw [if_pos hi])
  rw [h3, cellsL_append, cellsL_cons]
theorem fill1I {z : Value} {kd : IntKind} {n : Int} : Instr.fill (fun i => some (i, 1)) (zrow [z] 1).toArray [(0, .int kd n)] = some #[.int kd n] := by
  have := fill_int (z := z) (kd := kd) (n := n)
  simpa using this
def boolR : RecV Bool 1 := ⟨fun b => [.bool b], fun _ => rfl⟩
theorem waitsFor_i {M : Mem} {lo hi : Nat} {us : List Value} {x : Node} (h : nodeP.rd lo hi M x us) : ∃ u N, Det Tryz.prog M.length 212 [.agg us.toArray] M u (M ++ N) ∧ SlV intP lo hi M u (waits x) := by
  obtain ⟨u, rfl, hu⟩ := h
  have hV := hu
  obtain ⟨A, n, c, rfl, h1, h2, h3⟩ := hu
  by_cases hk : x.k = 6
  · refine ⟨.slice none 0 0, [.live ⟨[iv x.k, iv x.a, iv x.b, .slice A n c], true, true, 198, 4⟩], Ctr.det ?_, by unfold waits; rw [if_pos hk]; exact .nil⟩
    first | (refine ctr_fn Tryz.func212 rfl Tryz.ntmps212 Tryz.results212 rfl rfl (by simp) ?_) | (refine ctr_fnC Tryz.func212 rfl Tryz.ntmps212 Tryz.results212 rfl (by simp) ?_)
    simp [hk]
  · refine ⟨.slice A n c, [.live ⟨[iv x.k, iv x.a, iv x.b, .slice A n c], true, true, 198, 4⟩], Ctr.det ?_, by unfold waits; rw [if_neg hk]; exact hV⟩
    first | (refine ctr_fn Tryz.func212 rfl Tryz.ntmps212 Tryz.results212 rfl rfl (by simp) ?_) | (refine ctr_fnC Tryz.func212 rfl Tryz.ntmps212 Tryz.results212 rfl (by simp) ?_)
    simp [hk]
theorem waits_idx {x : Node} {n : Int} (h : idxB n x.from_ = true) {i : Nat} (hi : i < (waits x).length) : ∃ f : Nat, el (waits x) i = f ∧ (f : Int) < n := by
  have hm : el (waits x) i ∈ x.from_ := by
    have := el_mem hi
    unfold waits at this ⊢
    split at this
    · cases this
    · rename_i hk
      simp only [hk, if_false] at this ⊢
      exact this
  have := List.all_eq_true.1 h _ hm
  rw [inB_iff] at this
  exact ⟨(el (waits x) i).toNat, by omega, by omega⟩
set_option maxHeartbeats 4000000 in
theorem order_i {M : Mem} {lo hi : Nat} {us : List Value} {x : Patch} (h : patchP.rd lo hi M x us) (hx : ∀ y, y ∈ x.nodes → idxB x.nodes.length y.from_ = true) (hn24 : x.nodes.length ≤ 24) :
    Ctr Tryz.prog M.length 172 [.agg us.toArray] M fun r M' => Acc intR 2 M.length M' r (ordL x.nodes) ∧ Keeps M M' ∧ ∃ a n c, r = .slice (some a) n c := by
  obtain ⟨u1, u2, u3, rfl, hu1, hu2, hu3⟩ := h
  obtain ⟨A1, n1, c1, rfl⟩ := hu1.isSl
  obtain ⟨A2, n2, c2, e2, p1, p2, p3⟩ := hu2
  obtain ⟨A3, n3, c3, rfl⟩ := hu3.isSl
  subst e2
  have hn := p3.1
  first | (refine ctr_fn Tryz.func172 rfl Tryz.ntmps172 Tryz.results172 rfl rfl (by simp) ?_) | (refine ctr_fnC Tryz.func172 rfl Tryz.ntmps172 Tryz.results172 rfl (by simp) ?_)
  simp
  refine ⟨by omega, ?_⟩
  obtain ⟨M0, hM0⟩ : ∃ M0 : Mem, M0 = M ++ [Slot.live ⟨[iv x.inp, .slice A1 n1 c1, .slice A2 n2 c2, .slice A3 n3 c3], true, true, 39, 4⟩, .live ⟨zrow [.bool false] n2, true, true, 4, 1⟩, .live ⟨[], true, true, 2, 1⟩] := ⟨_, rfl⟩
  have k0 : Keeps M M0 := by rw [hM0]; exact keeps_app _
  have b0 : cellAt M0 M.length 2 = some (.slice A2 n2 c2) := by rw [hM0]; simp
  have r0 : M0[M.length + 1]? = some (.live ⟨cellsL boolR (List.replicate n2 false), true, true, 4, 1⟩) := by
    rw [hM0, ← cellsL_zrow]; simp; rfl
  have i0 : M0[M.length + 2]? = some (.live ⟨cellsL intR [], true, true, 2, 1⟩) := by rw [hM0]; simp [cellsL]
  have hAc0 : Acc intR 2 (M.length + 2) M0 (.slice (some ⟨M.length + 2, 0, none⟩) 0 0) [] := ⟨_, 0, 0, rfl, rfl, .inr ⟨M.length + 2, true, rfl, Nat.le_refl _, i0⟩⟩
  refine awLoop_T (fun m T M' => ∃ (f : Bool) (c : Nat) (tk : List Bool) (out : List Int) (v : Value), m = (if f = true then c + 1 else 0) ∧ (f = true → tk.count false = c ∧ ordL x.nodes = ordT x.nodes c tk out) ∧ (f = false → ordL x.nodes = out) ∧ c + out.length ≤ n2 ∧ tk.length = n2 ∧ Keeps M M' ∧ cellAt M' M.length 2 = some (.slice A2 n2 c2) ∧ M'[M.length + 1]? = some (.live ⟨cellsL boolR tk, true, true, 4, 1⟩) ∧ Acc intR 2 (M.length + 2) M' v out ∧ M.length + 3 ≤ M'.length ∧ (∃ a n c, v = .slice (some a) n c) ∧ look T 5 = some (.bool f) ∧ look T 4 = some v ∧ look T 3 = some (.slice (some ⟨M.length + 1, 0, none⟩) n2 n2) ∧ look T 1 = some (.pointer (some ⟨M.length, 0, none⟩))) (n2 + 1)
    ⟨true, n2, List.replicate n2 false, [], _, by simp, fun _ => ⟨by simp, by unfold ordL; rw [hn]⟩, (fun h => by cases h), by simp, by simp, by rw [← hM0]; exact k0, by rw [← hM0]; exact b0, by rw [← hM0]; exact r0, by rw [← hM0]; exact hAc0, by simp, ⟨_, _, _, rfl⟩, by simp, by simp, by simp, by simp⟩ ?_
  clear hM0 k0 b0 r0 i0 hAc0
  rintro m T M1 ⟨f, c, tk, out, v, hm, hft, hff, hcl, htk, k1, b1, r1, hA1, l1, hvs, t5, t4, t3, t1⟩
  cases f
  · simp [t5, t4]
    rw [hff rfl]
    exact ⟨hA1.low (by omega), k1, hvs⟩
  obtain ⟨hcnt, hord⟩ := hft rfl
  simp only [if_pos] at hm
  subst hm
  simp (disch := omega) [t5, t4, t3, t1, b1]
  refine awLoop_T (fun m T M' => ∃ i : Nat, i + m = n2 ∧ (∀ j, j < i → rdyT x.nodes tk j = false) ∧ Keeps M M' ∧ cellAt M' M.length 2 = some (.slice A2 n2 c2) ∧ M'[M.length + 1]? = some (.live ⟨cellsL boolR tk, true, true, 4, 1⟩) ∧ Acc intR 2 (M.length + 2) M' v out ∧ M.length + 3 ≤ M'.length ∧ look T 20 = some (iv i) ∧ look T 19 = some (iv n2) ∧ look T 18 = some (.slice A2 n2 c2) ∧ look T 5 = some (.bool false) ∧ look T 4 = some v ∧ look T 3 = some (.slice (some ⟨M.length + 1, 0, none⟩) n2 n2) ∧ look T 1 = some (.pointer (some ⟨M.length, 0, none⟩))) n2
    ⟨0, by omega, fun j hj => by omega, k1, b1, r1, hA1, l1, by simp, by simp, by simp, by simp, by simp [t4], by simp [t3], by simp [t1]⟩ ?_
  clear b1 r1 hA1 l1 t5 t4 t3 t1 k1 T
  rintro m T M2 ⟨i, hi, hnr, k2, b2, r2, hA2, l2, t20, t19, t18, t5, t4, t3, t1⟩
  by_cases hlt : i < n2
  case neg =>
    simp (disch := omega) [t20, t19, hlt]
    refine lpI 0 (by omega) ⟨false, 0, tk, out, v, by simp, (fun h => by cases h), fun _ => ?_, by omega, htk, k2, b2, r2, hA2, l2, hvs, by simp [t5], by simp [t4], by simp [t3], by simp [t1]⟩
    have hnx : nextT x.nodes tk = none := nextT_none fun j hj => hnr j (by omega)
    rw [hord]
    cases c with
    | zero => rfl
    | succ c => show (match nextT x.nodes tk with | none => out | some i => _) = out; rw [hnx]
  obtain ⟨id, off, us, rfl, he, hrd, hc⟩ := (p3.keeps k2).at_ hlt
  have hrd2 := hrd
  obtain ⟨u, rfl, hu⟩ := hrd2
  obtain ⟨A4, n4, c4, rfl⟩ := hu.isSl
  have cl := cellsAt_of (n := 4) hc rfl (by omega)
  have hlen : (cellsL boolR tk).length = n2 := by rw [cellsL_len, htk, Nat.mul_one]
  have hcell : ∀ j, j < n2 → (cellsL boolR tk)[j]? = some (.bool (el tk j)) := fun j hj => by
    have := cellsL_get boolR (l := tk) (i := j) (j := 0) (by omega) (by omega)
    rw [Nat.mul_one, Nat.add_zero] at this
    rw [this]; rfl
  obtain ⟨M3, hM3⟩ : ∃ M3 : Mem, M3 = M2 ++ [Slot.live ⟨[iv (el x.nodes i).k, iv (el x.nodes i).a, iv (el x.nodes i).b, .slice A4 n4 c4], true, true, 198, 4⟩] := ⟨_, rfl⟩
  have k23 : Keeps M2 M3 := by rw [hM3]; exact keeps_app _
  have n3 : M3.length = M2.length + 1 := by rw [hM3]; simp
  have q3 : cellsAt M3 M2.length 0 4 = some [iv (el x.nodes i).k, iv (el x.nodes i).a, iv (el x.nodes i).b, .slice A4 n4 c4] := by rw [hM3]; simp
  have r3 := k23.get r2
  have e3 : rowEsz M3 (M.length + 1) = some 1 := by simp [rowEsz, r3]
  have c3 : ∀ j, j < n2 → cellAt M3 (M.length + 1) j = some (.bool (el tk j)) := fun j hj => by simp only [cellAt, r3]; exact hcell j hj
  obtain ⟨w, N, dw, hw⟩ := waitsFor_i (nodeP.keeps hrd k23)
  have c30 := c3 i hlt
  simp (disch := omega) [t20, t19, t18, t5, t4, t3, t1, hlt, cl, he]
  rw [← hM3]
  simp (disch := omega) [t20, t19, t18, t5, t4, t3, t1, hlt, e3, c30, q3]
  refine awCall_det' dw (by omega) ?_
  obtain ⟨Aw, nw, cw, rfl, hw1, hw2, hw3⟩ := hw
  have hwl := hw3.1
  simp
  have k34 : Keeps M3 (M3 ++ N) := keeps_app _
  replace hw3 := hw3.keeps k34
  have k4 := (k2.trans k23).trans k34
  have r4 := k34.get r3
  have b4 := cellAt_keeps (k23.trans k34) b2
  have hA4 := hA2.keeps (k23.trans k34)
  have l4 : M.length + 3 ≤ (M3 ++ N).length := by simp; omega
  generalize M3 ++ N = M4 at *
  clear c30 c3 e3 r3 q3 k23 k34 dw hM3 n3 cl hc he
  have e4 : rowEsz M4 (M.length + 1) = some 1 := by simp [rowEsz, r4]
  have c4' : ∀ j, j < n2 → cellAt M4 (M.length + 1) j = some (.bool (el tk j)) := fun j hj => by simp only [cellAt, r4]; exact hcell j hj
  have hyi : idxB n2 (el x.nodes i).from_ = true := by rw [← hn]; exact hx _ (el_mem (by omega))
  have hsl := hw3.sl
  have hrdy : rdyT x.nodes tk i = (!(el tk i) && (waits (el x.nodes i)).all fun f => el tk f.toNat) := rfl
  have hwi : ∀ k, k < nw → ∃ f : Nat, el (waits (el x.nodes i)) k = f ∧ f < n2 := fun k hk => by
    obtain ⟨f, e1, e2⟩ := waits_idx hyi (i := k) (by omega)
    exact ⟨f, e1, by omega⟩
  generalize waits (el x.nodes i) = W at *
  refine awLoop_T (fun m T M' => ∃ k : Nat, k + m = nw ∧ M' = M4 ∧ look T 8 = some (.bool (!(el tk i) && (W.take k).all fun f => el tk f.toNat)) ∧ look T 33 = some (iv k) ∧ look T 32 = some (iv nw) ∧ look T 31 = some (.slice Aw nw cw) ∧ look T 20 = some (iv i) ∧ look T 19 = some (iv n2) ∧ look T 18 = some (.slice (some ⟨id, off, none⟩) n2 c2) ∧ look T 6 = some (iv i) ∧ look T 5 = some (.bool false) ∧ look T 4 = some v ∧ look T 3 = some (.slice (some ⟨M.length + 1, 0, none⟩) n2 n2) ∧ look T 1 = some (.pointer (some ⟨M.length, 0, none⟩))) nw
    ⟨0, by omega, rfl, by simp, by simp, by simp, by simp, by simp [t20], by simp [t19], by simp [t18], by simp, by simp [t5], by simp [t4], by simp [t3], by simp [t1]⟩ ?_
  clear t20 t19 t18 t5 t4 t3 t1 T
  rintro m' T M5 ⟨k, hk, rfl, t8, t33, t32, t31, t20, t19, t18, t6, t5, t4, t3, t1⟩
  by_cases hkw : k < nw
  · obtain ⟨id', off', rfl, he', hc'⟩ := hsl.at_ hkw
    have c1' := int_cell hc'
    simp only [Nat.mul_one] at c1'
    obtain ⟨f, hf, hfn⟩ := hwi k hkw
    rw [hf] at c1'
    have htake : (W.take (k + 1)).all (fun f => el tk f.toNat) = ((W.take k).all (fun f => el tk f.toNat) && el tk f) := by
      rw [take_el (by omega), List.all_append, hf]; simp
    have cf := c4' f hfn
    generalize hg : (W.take k).all (fun f => el tk f.toNat) = g at *
    simp (disch := omega) [t33, t32, t31, hkw, c1', he', t8]
    cases hb : (!(el tk i) && g)
    · simp (disch := omega) [t8, hb, t3, t33, t32, t31, wrap_in]
      refine lpI (m' - 1) (by omega) ⟨k + 1, by omega, rfl, ?_, by simp, by simp [t32], by simp [t31], by simp [t20], by simp [t19], by simp [t18], by simp [t6], by simp [t5], by simp [t4], by simp [t3], by simp [t1]⟩
      rw [htake, ← Bool.and_assoc, hb]; simp
    · simp (disch := omega) [t8, hb, t3, t33, t32, t31, wrap_in, hfn, e4, cf]
      refine lpI (m' - 1) (by omega) ⟨k + 1, by omega, rfl, ?_, by simp, by simp [t32], by simp [t31], by simp [t20], by simp [t19], by simp [t18], by simp [t6], by simp [t5], by simp [t4], by simp [t3], by simp [t1]⟩
      rw [htake, ← Bool.and_assoc, hb]; simp
  · obtain rfl : k = nw := by omega
    rw [List.take_of_length_le (by omega), ← hrdy] at t8
    simp (disch := omega) [t33, t32]
    cases hb : rdyT x.nodes tk i
    · simp (disch := omega) [t8, hb, t20, wrap_in]
      refine lpI (m - 1) (by omega) ⟨i + 1, by omega, fun j hj => ?_, k4, b4, r4, hA4, l4, by simp, by simp [t19], by simp [t18], by simp [t5], by simp [t4], by simp [t3], by simp [t1]⟩
      by_cases e : j = i
      · rw [e]; exact hb
      · exact hnr j (by omega)
    · have hfree := rdyT_free hb
      have hnx : nextT x.nodes tk = some i := nextT_some (by omega) hb hnr
      have hcs := count_set_true (by omega) hfree
      obtain ⟨M6, hput, r6, u6, n6⟩ : ∃ M6 : Mem, putCells M.length M5 (M.length + 1) i [.bool true] = some M6 ∧ M6[M.length + 1]? = some (.live ⟨cellsL boolR (tk.set i true), true, true, 4, 1⟩) ∧ (∀ (q : Nat) s, q ≠ M.length + 1 → M5[q]? = some s → M6[q]? = some s) ∧ M6.length = M5.length := by
        have hp := put_at_row (b := M.length) (p := i) (vs := [.bool true]) r4 (by omega) (by simp; omega) (by simp)
        have hset : splice (cellsL boolR tk) i [.bool true] = cellsL boolR (tk.set i true) := by
          have := splice_setI boolR (l := tk) (i := i) (a := true) (by omega)
          rw [Nat.mul_one] at this
          exact this
        rw [hset] at hp
        exact ⟨_, hp, List.getElem?_set_self (by omega), fun q s hq hs => by rw [List.getElem?_set_ne (Ne.symm hq)]; exact hs, by simp⟩
      have k6 : Keeps M M6 := by
        unfold Keeps
        exact fun q s hs => u6 q s (by have := (List.getElem?_eq_some_iff.1 hs).1; omega) (k4.get hs)
      have b6 : cellAt M6 M.length 2 = some (.slice (some ⟨id, off, none⟩) n2 c2) := by
        unfold cellAt at b4 ⊢
        cases hm : M5[M.length]? with
        | none => rw [hm] at b4; cases b4
        | some s => rw [u6 _ _ (by omega) hm]; rw [hm] at b4; exact b4
      have hA6 : Acc intR 2 (M.length + 2) M6 v out := by
        obtain ⟨A, q, cc, e1, e2, e3⟩ := hA4
        refine ⟨A, q, cc, e1, e2, ?_⟩
        rcases e3 with e3 | ⟨ida, tt, e4, e5, e6⟩
        · exact .inl e3
        · exact .inr ⟨ida, tt, e4, e5, u6 _ _ (by omega) e6⟩
      simp (disch := omega) [t8, hb, t3, t6, hlt, e4, hput, t4, fill1I]
      refine (hA6.keeps (keeps_app _)).append (R := intR) (e := 2) (by_ := 8) (a := (i : Int)) (by omega) (by simp; omega) (by omega) (by simp) (by kernel_rfl) (by simp [srcOf, intR]) (by rfl) (by omega) (by unfold maxLen; omega) ?_
      intro v' M7 hA7 hS7
      try simp (disch := omega) [t20]
      have n7 := hS7.1
      simp only [List.length_append, List.length_cons, List.length_nil] at n7
      have r7 := hS7.2 (M.length + 1) _ (by omega) (by rw [List.getElem?_append_left (by omega)]; exact r6)
      have k7 : Keeps M M7 := hS7.keeps (k6.app _) (by omega)
      have b7 : cellAt M7 M.length 2 = some (.slice (some ⟨id, off, none⟩) n2 c2) := by
        unfold cellAt at b6 ⊢
        cases hm : M6[M.length]? with
        | none => rw [hm] at b6; cases b6
        | some s => rw [hS7.2 M.length s (by omega) (by rw [List.getElem?_append_left (by omega)]; exact hm)]; rw [hm] at b6; exact b6
      have hvs7 : ∃ a n c, v' = .slice (some a) n c := by
        obtain ⟨A, q, cc, e1, e2, e3⟩ := hA7
        rcases e3 with ⟨-, e3, -⟩ | ⟨ida, tt, e3, -⟩
        · simp at e2; omega
        · exact ⟨_, q, cc, by rw [e1, e3]⟩
      refine lpI c (by omega) ⟨true, c - 1, tk.set i true, out ++ [(i : Int)], v', by simp; omega, fun _ => ⟨by omega, ?_⟩, (fun h => by cases h), by simp; omega, by simp [htk], k7, b7, r7, hA7, by omega, hvs7, by simp, by simp, by simp [t3], by simp [t1]⟩
      rw [hord]
      cases c with
      | zero => omega
      | succ c => show (match nextT x.nodes tk with | none => out | some i => _) = _; rw [hnx]; rfl
end Go.Proofs.YtimijeeihicohaaGreat

namespace Go.Proofs.YtimijeeihicohaaGreat
open Go.RowKit
set_option linter.unusedVariables false
set_option linter.unusedSimpArgs false
set_option maxRecDepth 100000
attribute [local simp] List.getElem?_cons_zero
attribute [local irreducible] awCond awCall awLoop awDraw ow retQ retC resQ Keeps
def patB (p : Patch) : Bool := formB p && decide ((ordL p.nodes).length = p.nodes.length)
def instB (i : Inst) : Bool := patB i.pat && (decide (i.pat.inp = 3) && (decide (i.pat.outs.length = 1) && (envB i.env && (decide (i.steps.length = 12) && areSB i.steps))))
theorem formB_nodes {p : Patch} (h : formB p = true) : p.nodes.length ≤ 24 ∧ (∀ y, y ∈ p.nodes → idxB p.nodes.length y.from_ = true) ∧ (∀ y, y ∈ p.nodes → nodeF p y = true) := by
  unfold formB at h
  simp only [Bool.and_eq_true, decide_eq_true_eq, List.all_eq_true] at h
  refine ⟨h.1.1.1.2, fun y hy => ?_, h.2⟩
  have := h.2 y hy
  unfold nodeF at this
  simp only [Bool.and_eq_true] at this
  exact this.2.1
theorem order_b {M : Mem} {lo hi : Nat} {us : List Value} {x : Patch} (h : patchP.rd lo hi M x us) (hf : formB x = true) : Det Tryz.prog M.length 172 [.agg us.toArray] M (.slice (some ⟨M.length, 0, none⟩) (ordL x.nodes).length 0) (M ++ [.dead]) := by
  obtain ⟨h1, h2, -⟩ := formB_nodes hf
  refine ((order_i h h2 h1).mono ?_).blind
  rintro r M' ⟨hA, hk, a, n, c, rfl⟩
  obtain ⟨_, _, _, e, hl, -⟩ := hA.sl
  injection e with e1 e2 e3
  exact ⟨⟨a, c, by rw [← hl.trans e2.symm]⟩, hk⟩
theorem isPatch_i {M : Mem} {lo hi : Nat} {us : List Value} {x : Patch} (h : patchP.rd lo hi M x us) : Det Tryz.prog M.length 117 [.agg us.toArray] M (.bool (patB x)) M := by
  have hx := h
  obtain ⟨u1, u2, u3, rfl, hu1, hu2, hu3⟩ := h
  obtain ⟨A1, n1, c1, rfl⟩ := hu1.isSl
  obtain ⟨A2, n2, c2, e2, p1, p2, p3⟩ := hu2
  obtain ⟨A3, n3, c3, rfl⟩ := hu3.isSl
  subst e2
  have hn := p3.1
  first | (refine det_fn Tryz.func117 rfl Tryz.ntmps117 Tryz.results117 rfl rfl rfl (by simp) ?_) | (refine det_fnC Tryz.func117 rfl Tryz.ntmps117 Tryz.results117 rfl rfl (by simp) ?_)
  simp
  by_cases hf : formB x = true
  case neg =>
    rw [Bool.not_eq_true] at hf
    refine awDraw_E 9 [[],[0],[1,0],[2,1,0],[3,2,1,0],[4,3,2,1,0],[2,1,0],[6,2,1,0],[7,6,2,1,0],[5,4,3,2,1,0,8,7,6],[2,1,0,9,5,4,3,8,7,6],[10,2,1,0,9,5,4,3,8,7,6]] (by kernel_rfl) (by kernel_rfl) ?_
    simp
    refine awCall_det' (isWellFormed_i (patchP.app hx _)) (by simp) ?_
    simp [hf, patB, keeps_app]
  refine awDraw_D 9 [[],[0],[1,0],[2,1,0],[3,2,1,0],[4,3,2,1,0],[2,1,0],[6,2,1,0],[7,6,2,1,0],[5,4,3,2,1,0,8,7,6],[2,1,0,9,5,4,3,8,7,6],[10,2,1,0,9,5,4,3,8,7,6]] (by kernel_rfl) (by decide +kernel) ?_
  simp
  refine awCall_det' (isWellFormed_i (patchP.app hx _)) (by simp) ?_
  simp [hf]
  refine awCall_det' (order_b (patchP.app hx _) hf) (by simp) ?_
  simp
  by_cases hl : (ordL x.nodes).length = n2
  · simp [patB, hf, hn, hl, keeps_app]
  · have hl' : ¬ ((ordL x.nodes).length : Int) = n2 := by omega
    simp [patB, hf, hn, hl, hl', keeps_app]
theorem isInstrument_i {M : Mem} {lo hi : Nat} {us : List Value} {x : Inst} (h : instP.rd lo hi M x us) : Det Tryz.prog M.length 67 [.agg us.toArray] M (.bool (instB x)) M := by
  obtain ⟨ps, es, w, rfl, hp, he, hw⟩ := h
  have hp2 := hp
  obtain ⟨u1, u2, u3, rfl, hu1, hu2, hu3⟩ := hp2
  obtain ⟨A1, n1, c1, rfl⟩ := hu1.isSl
  obtain ⟨A2, n2, c2, rfl⟩ := hu2.isSl
  obtain ⟨A3, n3, c3, e3, q1, q2, q3⟩ := hu3
  subst e3
  obtain ⟨A4, n4, c4, rfl⟩ := env_isV he
  have hw2 := hw
  obtain ⟨A5, n5, c5, rfl, r1, r2, r3⟩ := hw2
  have ho := q3.1
  have hs := r3.1
  first | (refine det_fn Tryz.func67 rfl Tryz.ntmps67 Tryz.results67 rfl rfl rfl (by simp) ?_) | (refine det_fnC Tryz.func67 rfl Tryz.ntmps67 Tryz.results67 rfl rfl (by simp) ?_)
  simp
  refine awCall_det' (isPatch_i (patchP.app hp _)) (by simp) ?_
  by_cases g1 : patB x.pat = true
  case neg => simp [g1, instB, keeps_app]
  by_cases g2 : x.pat.inp = 3
  case neg => simp [g1, g2, instB, keeps_app]
  by_cases g3 : n3 = 1
  case neg =>
    have g3' : ¬ (n3 : Int) = 1 := by omega
    simp [g1, g2, g3, g3', ho, instB, keeps_app]
  subst g3
  simp [g1, g2]
  refine awCall_det' (isEnvelope_i (envP.app he _)) (by simp) ?_
  by_cases g4 : envB x.env = true
  case neg => simp [g1, g2, ho, g4, instB, keeps_app]
  by_cases g5 : n5 = 12
  case neg =>
    have g5' : ¬ (n5 : Int) = 12 := by omega
    simp [g1, g2, ho, g4, g5, g5', hs, instB, keeps_app]
  subst g5
  simp [g4]
  refine awCall_det' (areSamples_i (hw.app _)) (by simp) ?_
  simp [g1, g2, ho, g4, hs, instB, keeps_app]
end Go.Proofs.YtimijeeihicohaaGreat

namespace Go.Proofs.YtimijeeihicohaaGreat
open Go.RowKit
set_option linter.unusedVariables false
set_option linter.unusedSimpArgs false
set_option maxRecDepth 100000
attribute [local simp] List.getElem?_cons_zero
attribute [local irreducible] awCond awCall awLoop awDraw ow retQ retC resQ Keeps
theorem l00Has_s {M : Mem} {lo hi : Nat} {u : Value} {l : List Int} (z : Int) (h : SlV intP lo hi M u l) : Det Tryz.prog M.length 199 [u, iv z] M (.bool (decide (z ∈ l))) M := by
  obtain ⟨A, n, c, rfl, h1, h2, h3⟩ := h
  have hl := h3.1
  replace h3 := h3.sl
  first | (refine det_fn Tryz.func199 rfl Tryz.ntmps199 Tryz.results199 rfl rfl rfl (by simp) ?_) | (refine det_fnC Tryz.func199 rfl Tryz.ntmps199 Tryz.results199 rfl rfl (by simp) ?_)
  simp
  refine awLoop_T (fun m T M' => ∃ k : Nat, k + m = n ∧ M' = M ∧ look T 5 = some (iv k) ∧ look T 0 = some (.slice A n c) ∧ look T 1 = some (iv z) ∧ ∀ i, i < k → el l i ≠ z) n ⟨0, by omega, rfl, by simp, by simp, by simp, fun i hi => by omega⟩ ?_
  rintro m T M' ⟨k, hm, rfl, t5, t0, t1, hk⟩
  by_cases hlt : k < n
  · obtain ⟨id, off, rfl, he, hc⟩ := h3.at_ hlt
    have c1 := int_cell hc
    simp only [Nat.mul_one] at c1
    by_cases hz : el l k = z
    · simp (disch := omega) [t5, t0, t1, hlt, c1, he, hz]
      refine ⟨?_, Keeps.refl _⟩
      rw [← hz]
      exact el_mem (by omega)
    · simp (disch := omega) [t5, t0, t1, hlt, c1, he, hz, wrap_in]
      refine lpI (m - 1) (by omega) ⟨k + 1, by omega, rfl, by simp, by simp [t0], by simp [t1], fun i hi => ?_⟩
      by_cases e : i = k
      · rw [e]; exact hz
      · exact hk i (by omega)
  · obtain rfl : k = n := by omega
    have hz : z ∉ l := fun hh => by
      obtain ⟨i, hi, e⟩ := List.getElem_of_mem hh
      rw [el_eq hi] at e
      exact hk i (by omega) e
    simp [t5, t0, Keeps.refl, hz]
theorem l04Samples_s {M : Mem} {lo hi : Nat} {u : Value} {l : List Int} (h : SlV intP lo hi M u l) : Det Tryz.prog M.length 108 [u] M (.bool (areSB l)) M := by
  obtain ⟨A, n, c, rfl, h1, h2, h3⟩ := h
  have hl := h3.1
  replace h3 := h3.sl
  first | (refine det_fn Tryz.func108 rfl Tryz.ntmps108 Tryz.results108 rfl rfl rfl (by simp) ?_) | (refine det_fnC Tryz.func108 rfl Tryz.ntmps108 Tryz.results108 rfl rfl (by simp) ?_)
  simp
  refine awLoop_T (fun m T M' => ∃ k : Nat, k + m = n ∧ M' = M ∧ look T 3 = some (iv k) ∧ look T 0 = some (.slice A n c) ∧ ∀ i, i < k → sampleB (el l i) = true) n ⟨0, by omega, rfl, by simp, by simp, fun i hi => by omega⟩ ?_
  rintro m T M' ⟨k, hm, rfl, t3, t0, hk⟩
  by_cases hlt : k < n
  · obtain ⟨id, off, rfl, he, hc⟩ := h3.at_ hlt
    have c1 := int_cell hc
    simp only [Nat.mul_one] at c1
    simp (disch := omega) [t3, t0, hlt, c1, he]
    refine awCall_det' (l01Sample_a (el l k)) (Nat.le_refl _) ?_
    by_cases hs : sampleB (el l k) = true
    · have hs' : inB (el l k) (-2147483648) 2147483647 = true := hs
      simp (disch := omega) [hs', t3, t0, wrap_in]
      refine lpI (m - 1) (by omega) ⟨k + 1, by omega, rfl, by simp, by simp [t0], fun i hi => ?_⟩
      by_cases e : i = k
      · rw [e]; exact hs
      · exact hk i (by omega)
    · rw [Bool.not_eq_true] at hs
      have hs' : inB (el l k) (-2147483648) 2147483647 = false := hs
      simp [hs']
      exact ⟨all_no (by omega) hs, Keeps.refl _⟩
  · obtain rfl : k = n := by omega
    simp [t3, t0, Keeps.refl]
    exact all_yes fun i hi => hk i (by omega)
theorem l03Ok_s {M : Mem} {lo hi : Nat} {u : Value} {l : List Int} (h : SlV intP lo hi M u l) (hb : l.length ≤ 4000) : Det Tryz.prog M.length 224 [u] M (.bool (areSB l)) M := by
  obtain ⟨A, n, c, rfl, h1, h2, h3⟩ := h
  have hl := h3.1
  replace h3 := h3.sl
  have e0 : ¬ (4000 : Int) < n := by omega
  first | (refine det_fn Tryz.func224 rfl Tryz.ntmps224 Tryz.results224 rfl rfl rfl (by simp) ?_) | (refine det_fnC Tryz.func224 rfl Tryz.ntmps224 Tryz.results224 rfl rfl (by simp) ?_)
  simp [e0]
  refine awLoop_T (fun m T M' => ∃ k : Nat, k + m = n ∧ M' = M ∧ look T 3 = some (iv k) ∧ look T 0 = some (.slice A n c) ∧ ∀ i, i < k → sampleB (el l i) = true) n ⟨0, by omega, rfl, by simp, by simp, fun i hi => by omega⟩ ?_
  rintro m T M' ⟨k, hm, rfl, t3, t0, hk⟩
  by_cases hlt : k < n
  · obtain ⟨id, off, rfl, he, hc⟩ := h3.at_ hlt
    have c1 := int_cell hc
    simp only [Nat.mul_one] at c1
    simp (disch := omega) [t3, t0, hlt, c1, he]
    refine awCall_det' (l01Sample_a (el l k)) (Nat.le_refl _) ?_
    by_cases hs : sampleB (el l k) = true
    · have hs' : inB (el l k) (-2147483648) 2147483647 = true := hs
      simp (disch := omega) [hs', t3, t0, wrap_in]
      refine lpI (m - 1) (by omega) ⟨k + 1, by omega, rfl, by simp, by simp [t0], fun i hi => ?_⟩
      by_cases e : i = k
      · rw [e]; exact hs
      · exact hk i (by omega)
    · rw [Bool.not_eq_true] at hs
      have hs' : inB (el l k) (-2147483648) 2147483647 = false := hs
      simp [hs']
      exact ⟨all_no (by omega) hs, Keeps.refl _⟩
  · obtain rfl : k = n := by omega
    simp [t3, t0, Keeps.refl]
    exact all_yes fun i hi => hk i (by omega)
theorem lit_slv {M : Mem} {l : List Int} {n : Nat} {cs : List Value} {e : TypeId} (hc : cs = cellsL intR l) (hn : l.length = n) (hb : n ≤ 1000) : SlV intP M.length (M ++ [Slot.live ⟨cs, true, true, e, 1⟩]).length (M ++ [Slot.live ⟨cs, true, true, e, 1⟩]) (.slice (some ⟨M.length, 0, none⟩) n n) l := by
  subst hc
  refine ⟨_, n, n, rfl, by omega, (fun h => by cases h), SlP.of_sl (Sl.new hn) fun a e _ => ?_⟩
  injection e with e
  subst e
  exact ⟨Nat.le_refl _, by simp⟩
theorem fill4I (a b c d : Int) : Instr.fill (fun i => some (i, 1)) (zrow [iv 0] 4).toArray [(0, iv a), (1, iv b), (2, iv c), (3, iv d)] = some #[iv a, iv b, iv c, iv d] := by rfl
theorem l06Tables_s {M : Mem} {lo hi : Nat} {u : Value} {l : List (List Int)} (h : SlV tabP lo hi M u l) : Det Tryz.prog M.length 197 [u] M (.bool (tablesB l)) M := by
  obtain ⟨A, n, c, rfl, h1, h2, h3⟩ := h
  have hl := h3.1
  first | (refine det_fn Tryz.func197 rfl Tryz.ntmps197 Tryz.results197 rfl rfl rfl (by simp) ?_) | (refine det_fnC Tryz.func197 rfl Tryz.ntmps197 Tryz.results197 rfl rfl (by simp) ?_)
  simp
  refine awLoop_T (fun m T M' => ∃ k : Nat, k + m = n ∧ Keeps M M' ∧ look T 3 = some (iv k) ∧ look T 0 = some (.slice A n c) ∧ ∀ i, i < k → tableB (el l i) = true) n ⟨0, by omega, Keeps.refl _, by simp, by simp, fun i hi => by omega⟩ ?_
  rintro m T M1 ⟨k, hm, k1, t3, t0, hk⟩
  have l1 := k1.len
  by_cases hlt : k < n
  · obtain ⟨id, off, us, rfl, he, ⟨u, rfl, hu⟩, hc⟩ := (h3.keeps k1).at_ hlt
    have c1 := (cl_cons.1 hc).1
    simp only [Nat.mul_one] at c1
    have hu2 := hu
    obtain ⟨A1, n1, c1', rfl, p1, p2, p3⟩ := hu2
    have hn1 := p3.1
    have no : tableB (el l k) = false → tablesB l = false := fun h => by unfold tablesB; rw [all_no (by omega) h]; rfl
    have key : tableB (el l k) = (decide ((n1 : Int) ∈ [2, 4, 8, 16]) && areSB (el l k)) := by
      unfold tableB
      rw [hn1]
      congr 1
      rw [Bool.eq_iff_iff]
      simp
      omega
    simp (disch := omega) [t3, t0, hlt, fill4I, cellAt_app c1, he, rowEsz_keeps (keeps_app _) he]
    have hd := l00Has_s (n1 : Int) (lit_slv (M := M1) (n := 4) (l := [2, 4, 8, 16]) (cs := [iv 2, iv 4, iv 8, iv 16]) (e := 2) rfl rfl (by omega))
    refine awCall_det' hd (by simp; omega) ?_
    by_cases g1 : (n1 : Int) ∈ ([2, 4, 8, 16] : List Int)
    case neg =>
      rw [decide_eq_false g1] at key ⊢
      simp
      exact ⟨no (by rw [key]; rfl), k1.app _⟩
    rw [decide_eq_true g1] at key ⊢
    simp (disch := omega) [t3, t0, hlt, cellAt_app c1, rowEsz_keeps (keeps_app _) he]
    refine awCall_det' (l03Ok_s (hu.app _) (by simp at g1; omega)) (by simp; omega) ?_
    by_cases hs : areSB (el l k) = true
    · simp (disch := omega) [hs, t3, t0, wrap_in]
      refine lpI (m - 1) (by omega) ⟨k + 1, by omega, k1.app _, by simp, by simp [t0], fun i hi => ?_⟩
      by_cases e : i = k
      · rw [e, key]; exact hs
      · exact hk i (by omega)
    · rw [Bool.not_eq_true] at hs
      simp [hs]
      exact ⟨no (by rw [key]; exact hs), k1.app _⟩
  · obtain rfl : k = n := by omega
    simp [t3, t0]
    refine ⟨?_, k1⟩
    unfold tablesB
    rw [all_yes fun i hi => hk i (by omega), hl]
    by_cases h4 : k ≤ 4 <;> simp [h4] <;> omega
theorem l14Ok_s {M : Mem} {lo hi id0 off0 : Nat} {us : List Value} {x : Envl} (h : envP.rd lo hi M x us) (hc0 : Cl M id0 off0 us) : Det Tryz.prog M.length 107 [.pointer (some ⟨id0, off0, none⟩)] M (.bool (envB x)) M := by
  obtain ⟨u, rfl, hu⟩ := h
  obtain ⟨A, n, c, rfl, h1, h2, h3⟩ := hu
  have hl := h3.1
  replace h3 := h3.sl
  have b0 : cellAt M id0 off0 = some (iv x.st) := hc0 0 _ rfl
  have b1 : cellAt M id0 (off0 + 1) = some (.slice A n c) := hc0 1 _ rfl
  have b2 : cellAt M id0 (off0 + 2) = some (iv x.rel) := hc0 2 _ rfl
  have lev : ∀ {M : Mem} (z : Int), Det Tryz.prog M.length 160 [iv z] M (.bool (inB z 0 65536)) M := fun {M} z => by
    first | (refine det_fn Tryz.func160 rfl Tryz.ntmps160 Tryz.results160 rfl rfl rfl (by simp) ?_) | (refine det_fnC Tryz.func160 rfl Tryz.ntmps160 Tryz.results160 rfl rfl (by simp) ?_)
    simp
    refine awCall_det' (l00In_a _ _ _) (by simp) ?_
    simp [Keeps.refl]
  have len : ∀ {M : Mem} (z : Int), Det Tryz.prog M.length 159 [iv z] M (.bool (inB z 0 4000)) M := fun {M} z => by
    first | (refine det_fn Tryz.func159 rfl Tryz.ntmps159 Tryz.results159 rfl rfl rfl (by simp) ?_) | (refine det_fnC Tryz.func159 rfl Tryz.ntmps159 Tryz.results159 rfl rfl (by simp) ?_)
    simp
    refine awCall_det' (l00In_a _ _ _) (by simp) ?_
    simp [Keeps.refl]
  first | (refine det_fn Tryz.func107 rfl Tryz.ntmps107 Tryz.results107 rfl rfl rfl (by simp) ?_) | (refine det_fnC Tryz.func107 rfl Tryz.ntmps107 Tryz.results107 rfl rfl (by simp) ?_)
  simp
  refine awLoop_T (fun m T M' => ∃ k : Nat, k + m = n ∧ M' = M ∧ look T 3 = some (iv k) ∧ look T 0 = some (.pointer (some ⟨id0, off0, none⟩)) ∧ ∀ i, i < k → segB (el x.segs i) = true) n ⟨0, by omega, rfl, by simp, by simp, fun i hi => by omega⟩ ?_
  rintro m T M1 ⟨k, hm, rfl, t3, t0, hk⟩
  by_cases hlt : k < n
  · obtain ⟨id, off, rfl, he, hc⟩ := h3.at_ hlt
    obtain ⟨c0, c1⟩ := segment_cells hc
    have no : segB (el x.segs k) = false → envB x = false := fun h => by unfold envB; rw [all_no (by omega) h]; rfl
    simp (disch := omega) [t3, t0, hlt, b1, he, c0, c1]
    refine awCall_det' (len (el x.segs k).ln) (by omega) ?_
    by_cases g2 : inB (el x.segs k).ln 0 4000 = true
    · simp (disch := omega) [g2, t3, t0, hlt, b1, he, c0, c1]
      refine awCall_det' (lev (el x.segs k).tg) (by omega) ?_
      by_cases g1 : inB (el x.segs k).tg 0 65536 = true
      · simp (disch := omega) [g1, t3, t0, wrap_in]
        refine lpI (m - 1) (by omega) ⟨k + 1, by omega, rfl, by simp, by simp [t0], fun i hi => ?_⟩
        by_cases e : i = k
        · rw [e]; unfold segB; rw [g1, g2]; rfl
        · exact hk i (by omega)
      · rw [Bool.not_eq_true] at g1
        simp [g1]
        exact ⟨no (by unfold segB; rw [g1]; rfl), Keeps.refl _⟩
    · rw [Bool.not_eq_true] at g2
      simp [g2]
      exact ⟨no (by unfold segB; rw [g2]; simp), Keeps.refl _⟩
  · obtain rfl : k = n := by omega
    have ha : x.segs.all segB = true := all_yes fun i hi => hk i (by omega)
    simp (disch := omega) [t3, t0, b0, b1]
    refine awCall_det' (lev x.st) (by omega) ?_
    by_cases g1 : inB x.st 0 65536 = true
    · simp (disch := omega) [g1, t0, b2]
      refine awCall_det' (len x.rel) (by omega) ?_
      by_cases g2 : inB x.rel 0 4000 = true
      · by_cases g3 : k ≤ 8
        · simp (disch := omega) [g2, t0, b1, g3]
          exact ⟨by unfold envB; rw [ha, g1, g2, hl]; simpa using by omega, Keeps.refl _⟩
        · have g3' : ¬ (k : Int) ≤ 8 := by omega
          simp (disch := omega) [g2, t0, b1, g3']
          exact ⟨by unfold envB; rw [ha, g1, g2, hl]; simpa using by omega, Keeps.refl _⟩
      · rw [Bool.not_eq_true] at g2
        simp [g2]
        exact ⟨by unfold envB; rw [g2]; simp, Keeps.refl _⟩
    · rw [Bool.not_eq_true] at g1
      simp [g1]
      exact ⟨by unfold envB; rw [g1]; simp, Keeps.refl _⟩
end Go.Proofs.YtimijeeihicohaaGreat

namespace Go.Proofs.YtimijeeihicohaaGreat
open Go.RowKit
set_option linter.unusedVariables false
set_option linter.unusedSimpArgs false
set_option maxRecDepth 100000
attribute [local simp] List.getElem?_cons_zero
attribute [local irreducible] awCond awCall awLoop awDraw ow retQ retC resQ Keeps
theorem l00Min_t {M : Mem} (a b : Int) : Det Tryz.prog M.length 232 [iv a, iv b] M (iv (min a b)) M := by
  first | (refine det_fn Tryz.func232 rfl Tryz.ntmps232 Tryz.results232 rfl rfl rfl (by simp) ?_) | (refine det_fnC Tryz.func232 rfl Tryz.ntmps232 Tryz.results232 rfl rfl (by simp) ?_)
  simp
  by_cases h : a < b
  · simp [h, Keeps.refl]; omega
  · simp [h, Keeps.refl]; omega
theorem l00Max_v {M : Mem} (a b : Int) : Det Tryz.prog M.length 151 [iv a, iv b] M (iv (max a b)) M := by
  first | (refine det_fn Tryz.func151 rfl Tryz.ntmps151 Tryz.results151 rfl rfl rfl (by simp) ?_) | (refine det_fnC Tryz.func151 rfl Tryz.ntmps151 Tryz.results151 rfl rfl (by simp) ?_)
  simp
  by_cases h : b < a
  · simp [h, Keeps.refl]; omega
  · simp [h, Keeps.refl]; omega
theorem fill10I (a b c d e f g h i j : Int) : Instr.fill (fun i => some (i, 1)) (zrow [iv 0] 10).toArray [(0, iv a), (1, iv b), (2, iv c), (3, iv d), (4, iv e), (5, iv f), (6, iv g), (7, iv h), (8, iv i), (9, iv j)] = some #[iv a, iv b, iv c, iv d, iv e, iv f, iv g, iv h, iv i, iv j] := by
  have := fill_recs intR [a, b, c, d, e, f, g, h, i, j] (n := 10) (z := [iv 0]) (by omega) rfl rfl
  simp [Instr.fill, Value.cells, zrow]
theorem l06HasA_s {M : Mem} (z : Int) : Det Tryz.prog M.length 239 [iv z] M (.bool (decide (z ∈ hasAL))) M := by
  first | (refine det_fn Tryz.func239 rfl Tryz.ntmps239 Tryz.results239 rfl rfl rfl (by simp) ?_) | (refine det_fnC Tryz.func239 rfl Tryz.ntmps239 Tryz.results239 rfl rfl (by simp) ?_)
  simp [fill10I]
  have hd := l00Has_s z (lit_slv (M := M) (n := 10) (l := hasAL) (cs := [iv 1, iv 2, iv 5, iv 6, iv 10, iv 11, iv 12, iv 13, iv 14, iv 17]) (e := 2) rfl rfl (by omega))
  refine awCall_det' hd (by simp) ?_
  simp [keeps_app]
theorem fill18I : Instr.fill (fun i => some (i, 1)) (zrow [iv 0] 18).toArray [(0, iv (-1)), (1, iv 0), (2, iv 0), (3, iv 2), (4, iv 2), (5, iv 1), (6, iv 1), (7, iv 1), (8, iv 1), (9, iv 2), (10, iv 1), (11, iv 1), (12, iv 1), (13, iv 1), (14, iv 0), (15, iv 3), (16, iv 2), (17, iv 1)] = some #[iv (-1), iv 0, iv 0, iv 2, iv 2, iv 1, iv 1, iv 1, iv 1, iv 2, iv 1, iv 1, iv 1, iv 1, iv 0, iv 3, iv 2, iv 1] := by
  simp [Instr.fill, Value.cells, zrow]
theorem l06Arity_s {M : Mem} (z : Int) (hz : inB z 1 17 = true) : Det Tryz.prog M.length 227 [iv z] M (iv (el arityL z.toNat)) M := by
  have hz' := inB_iff.1 hz
  obtain ⟨k, rfl⟩ := Int.eq_ofNat_of_zero_le (show 0 ≤ z by omega)
  have hk : k < 18 := by omega
  have hk' : (k : Int) < 18 := by omega
  have hg : (cellsL intR arityL)[k]? = some (iv (el arityL k)) := by
    have := cellsL_get intR (l := arityL) (i := k) (j := 0) hk (by omega)
    rw [Nat.mul_one, Nat.add_zero] at this
    rw [this]; rfl
  replace hg : ([iv (-1), iv 0, iv 0, iv 2, iv 2, iv 1, iv 1, iv 1, iv 1, iv 2, iv 1, iv 1, iv 1, iv 1, iv 0, iv 3, iv 2, iv 1] : List Value)[k]? = some (iv (el arityL k)) := hg
  first | (refine det_fn Tryz.func227 rfl Tryz.ntmps227 Tryz.results227 rfl rfl rfl (by simp) ?_) | (refine det_fnC Tryz.func227 rfl Tryz.ntmps227 Tryz.results227 rfl rfl (by simp) ?_)
  simp only [Int.toNat_natCast]
  generalize el arityL k = y at hg ⊢
  simp (disch := omega) [fill18I, hk']
  obtain ⟨_, e⟩ := List.getElem?_eq_some_iff.1 hg
  exact ⟨e, keeps_app _⟩
set_option maxHeartbeats 1000000 in
theorem l06A_s {M : Mem} {id off : Nat} {x : Node} {u : Value} (t : Int) (ht : 0 ≤ t) (ht' : t ≤ 1099511627776) (hc : Cl M id off [iv x.k, iv x.a, iv x.b, u]) : Det Tryz.prog M.length 226 [.pointer (some ⟨id, off, none⟩), iv t] M (.bool (aB x t)) M := by
  have c0 : cellAt M id off = some (iv x.k) := hc 0 _ rfl
  have c1 : cellAt M id (off + 1) = some (iv x.a) := hc 1 _ rfl
  unfold aB
  first | (refine det_fn Tryz.func226 rfl Tryz.ntmps226 Tryz.results226 rfl rfl rfl (by simp) ?_) | (refine det_fnC Tryz.func226 rfl Tryz.ntmps226 Tryz.results226 rfl rfl (by simp) ?_)
  simp (disch := omega) [c0]
  by_cases k1 : x.k = 1
  · simp (disch := omega) [k1, c1]
    refine awCall_det' (l00In_a _ _ _) (Nat.le_refl _) ?_
    simp [Keeps.refl]
  by_cases k6 : x.k = 6
  · simp (disch := omega) [k6, c1]
    refine awCall_det' (l00In_a _ _ _) (Nat.le_refl _) ?_
    simp [Keeps.refl]
  by_cases k10 : x.k = 10
  · simp (disch := omega) [k10, c1]
    refine awCall_det' (l00In_a _ _ _) (Nat.le_refl _) ?_
    simp [Keeps.refl]
  by_cases k11 : x.k = 11
  · simp (disch := omega) [k11, c1]
    refine awCall_det' (l00In_a _ _ _) (Nat.le_refl _) ?_
    simp [Keeps.refl]
  by_cases k13 : x.k = 13
  · simp (disch := omega) [k13]
    refine awDraw_E 8 [[],[0],[1,0],[2,1,0],[],[4],[5,4],[6,5,4],[3,2,1,0,7,6,5,4],[8,3,2,1,0,7,6,5,4]] (by kernel_rfl) (by kernel_rfl) ?_
    simp (disch := omega) [c1]
    refine awCall_det' (l00Max_v t 0) (Nat.le_refl _) ?_
    simp
    refine awCall_det' (l00Min_t (max t 0) 4) (Nat.le_refl _) ?_
    simp (disch := omega) [wrap_in]
    refine awCall_det' (l00In_a x.a 0 (min (max t 0) 4 - 1)) (Nat.le_refl _) ?_
    simp [Keeps.refl, k13]
  simp (disch := omega) [k1, k6, k10, k11, k13, c0]
  refine awCall_det' (l06HasA_s x.k) (Nat.le_refl _) ?_
  by_cases hA : x.k ∈ hasAL
  · simp (disch := omega) [hA, c1]
    refine awCall_det' (l01Sample_a x.a) (Nat.le_refl _) ?_
    simp [Keeps.refl, sampleB, k1, k6, k10, k11, k13]
  · simp (disch := omega) [hA, c1, Keeps.refl, k1, k6, k10, k11, k13]
set_option maxHeartbeats 1000000 in
theorem l06Ok_s {M : Mem} {lo hi id off : Nat} {us : List Value} {x : Node} (t : Int) (ht : 0 ≤ t) (ht' : t ≤ 1099511627776) (h : nodeP.rd lo hi M x us) (hc : Cl M id off us) : Det Tryz.prog M.length 198 [.pointer (some ⟨id, off, none⟩), iv t] M (.bool (nodeB2 x t)) M := by
  obtain ⟨u, rfl, hu⟩ := h
  have hc4 := hc
  obtain ⟨A, n, c, rfl, h1, h2, h3⟩ := hu
  have hl := h3.1
  replace h3 := h3.sl
  have c0 : cellAt M id off = some (iv x.k) := hc 0 _ rfl
  have c2 : cellAt M id (off + 2) = some (iv x.b) := hc 2 _ rfl
  have c3 : cellAt M id (off + 3) = some (.slice A n c) := hc 3 _ rfl
  have kind : Det Tryz.prog M.length 225 [iv x.k] M (.bool (inB x.k 1 17)) M := by
    first | (refine det_fn Tryz.func225 rfl Tryz.ntmps225 Tryz.results225 rfl rfl rfl (by simp) ?_) | (refine det_fnC Tryz.func225 rfl Tryz.ntmps225 Tryz.results225 rfl rfl (by simp) ?_)
    simp
    refine awCall_det' (l00In_a _ _ _) (by simp) ?_
    simp [Keeps.refl]
  first | (refine det_fn Tryz.func198 rfl Tryz.ntmps198 Tryz.results198 rfl rfl rfl (by simp) ?_) | (refine det_fnC Tryz.func198 rfl Tryz.ntmps198 Tryz.results198 rfl rfl (by simp) ?_)
  simp
  refine awDraw_E 23 [[],[0],[1,0],[2,1,0],[3,2,1,0],[4,3,2,1,0],[5,4,3,2,1,0],[6,5,4,3,2,1,0],[6,5,4,3,2,1,0],[7,6,5,4,3,2,1,0,8],[9,7,6,5,4,3,2,1,0,8],[6,5,4,3,2,1,0,10,9,7,8],[11,6,5,4,3,2,1,0,10,9,7,8],[12,11,6,5,4,3,2,1,0,10,9,7,8],[13,12,11,6,5,4,3,2,1,0,10,9,7,8],[14,13,12,11,6,5,4,3,2,1,0,10,9,7,8],[15,14,13,12,11,6,5,4,3,2,1,0,10,9,7,8],[16,15,14,13,12,11,6,5,4,3,2,1,0,10,9,7,8],[12,11,6,5,4,3,2,1,0,10,9,7,8],[18,12,11,6,5,4,3,2,1,0,10,9,7,8],[19,18,12,11,6,5,4,3,2,1,0,10,9,7,8],[20,19,18,12,11,6,5,4,3,2,1,0,10,9,7,8],[21,20,19,18,12,11,6,5,4,3,2,1,0,10,9,7,8],[17,16,15,14,13,12,11,6,5,4,3,2,1,0,10,9,7,8,22,21,20,19,18],[12,11,6,5,4,3,2,1,0,10,9,7,8,23,17,16,15,14,13,22,21,20,19,18]] (by kernel_rfl) (by kernel_rfl) ?_
  simp (disch := omega) [c0]
  refine awCall_det' kind (Nat.le_refl _) ?_
  by_cases hk : inB x.k 1 17 = true
  case neg =>
    rw [Bool.not_eq_true] at hk
    simp [hk, Keeps.refl, nodeB2]
  simp [hk]
  refine awCall_det' (l06A_s t ht ht' hc4) (Nat.le_refl _) ?_
  by_cases ha : aB x t = true
  case neg =>
    rw [Bool.not_eq_true] at ha
    simp [ha, hk, Keeps.refl, nodeB2]
  simp (disch := omega) [ha, c3, c0]
  refine awCall_det' (l06Arity_s x.k hk) (Nat.le_refl _) ?_
  by_cases har : (n : Int) = el arityL x.k.toNat
  case neg => simp [ha, hk, har, Keeps.refl, nodeB2, hl]
  have key : nodeB2 x t = (x.from_.all (fun f => inB f 0 23) && if x.k = 17 then inB x.b 1 16 else decide (x.b = 0)) := by
    unfold nodeB2
    rw [hk, ha, hl, decide_eq_true har]
    rfl
  rw [key]
  clear key
  generalize hB : (x.from_.all (fun f => inB f 0 23) && if x.k = 17 then inB x.b 1 16 else decide (x.b = 0)) = B
  simp [har]
  refine awLoop_T (fun m T M' => ∃ k : Nat, k + m = n ∧ M' = M ∧ look T 5 = some (iv k) ∧ look T 0 = some (.pointer (some ⟨id, off, none⟩)) ∧ ∀ i, i < k → inB (el x.from_ i) 0 23 = true) n ⟨0, by omega, rfl, by simp, by simp, fun i hi => by omega⟩ ?_
  rintro m T M' ⟨k, hm, rfl, t5, t0, hkk⟩
  by_cases hlt : k < n
  · obtain ⟨id', off', rfl, he, hc'⟩ := h3.at_ hlt
    have c1 := int_cell hc'
    simp only [Nat.mul_one] at c1
    simp (disch := omega) [t5, t0, c3, hlt, c1, he]
    refine awCall_det' (l00In_a (el x.from_ k) 0 23) (Nat.le_refl _) ?_
    by_cases hs : inB (el x.from_ k) 0 23 = true
    · simp (disch := omega) [hs, t5, t0, wrap_in]
      refine lpI (m - 1) (by omega) ⟨k + 1, by omega, rfl, by simp, by simp [t0], fun i hi => ?_⟩
      by_cases e : i = k
      · rw [e]; exact hs
      · exact hkk i (by omega)
    · rw [Bool.not_eq_true] at hs
      simp [hs]
      exact ⟨by rw [← hB, all_no (p := fun f => inB f 0 23) (show k < x.from_.length by omega) hs]; rfl, Keeps.refl _⟩
  · obtain rfl : k = n := by omega
    have hall : x.from_.all (fun f => inB f 0 23) = true := all_yes fun i hi => hkk i (by omega)
    rw [hall, Bool.true_and] at hB
    by_cases k17 : x.k = 17
    · rw [if_pos k17] at hB
      simp (disch := omega) [t5, t0, c3, c0, k17, c2]
      refine awCall_det' (l00In_a x.b 1 16) (Nat.le_refl _) ?_
      simp [hB, Keeps.refl]
    · rw [if_neg k17] at hB
      simp (disch := omega) [t5, t0, c3, c0, k17, c2, hB, Keeps.refl]
end Go.Proofs.YtimijeeihicohaaGreat
