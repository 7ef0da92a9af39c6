/- Patches: the order of the nodes, as the program finds it. No conditions. -/
import Derived.Test.YtffbocbjmhkikaaI6
namespace Go.Proofs.Ytffbocbjmhkikaa
open Go.RowKit
set_option linter.unusedVariables false
set_option linter.unusedSimpArgs false
set_option maxRecDepth 100000
attribute [local simp] List.getElem?_cons_zero
attribute [local irreducible] awCond awCall awLoop awDraw ow retQ retC resQ Keeps
def waits (x : Node) : List Int := if x.k = 6 then [] else x.from_
def rdyT (ns : List Node) (tk : List Bool) (i : Nat) : Bool := !(el tk i) && (waits (el ns i)).all fun f => el tk f.toNat
def nextT (ns : List Node) (tk : List Bool) : Option Nat := (List.range ns.length).find? (rdyT ns tk)
def ordT (ns : List Node) : Nat → List Bool → List Int → List Int
  | 0, _, out => out
  | m + 1, tk, out => match nextT ns tk with
    | none => out
    | some i => ordT ns m (tk.set i true) (out ++ [(i : Int)])
def ordL (ns : List Node) : List Int := ordT ns ns.length (List.replicate ns.length false) []
theorem nextT_none {ns : List Node} {tk : List Bool} (h : ∀ i, i < ns.length → rdyT ns tk i = false) : nextT ns tk = none := by
  unfold nextT
  rw [List.find?_eq_none]
  intro i hi
  rw [h i (List.mem_range.1 hi)]; simp
theorem nextT_some {ns : List Node} {tk : List Bool} {i : Nat} (hi : i < ns.length) (hr : rdyT ns tk i = true) (h : ∀ j, j < i → rdyT ns tk j = false) : nextT ns tk = some i := by
  unfold nextT
  rw [List.find?_eq_some_iff_getElem]
  refine ⟨hr, i, by simpa using hi, by simp, fun j hj => ?_⟩
  simp [h j hj]
theorem rdyT_free {ns : List Node} {tk : List Bool} {i : Nat} (h : rdyT ns tk i = true) : el tk i = false := by
  unfold rdyT at h
  simp only [Bool.and_eq_true, Bool.not_eq_true'] at h
  exact h.1
theorem count_pos {tk : List Bool} {i : Nat} (hi : i < tk.length) (h : el tk i = false) : 0 < tk.count false := by
  rw [List.count_pos_iff]
  rw [← h]; exact el_mem hi
theorem count_set_true {tk : List Bool} {i : Nat} (hi : i < tk.length) (h : el tk i = false) : (tk.set i true).count false + 1 = tk.count false := by
  have h1 := List.count_set (a := true) (b := false) (l := tk) (i := i) hi
  have h2 := count_pos hi h
  rw [h1, el_eq hi, h]
  simp
  omega
theorem splice_setI {α : Type} {k : Nat} [Inhabited α] (R : RecV α k) {l : List α} {i : Nat} {a : α} (hi : i < l.length) : splice (cellsL R l) (i * k) (R.row a) = cellsL R (l.set i a) := by
  have h1 : l = l.take i ++ (el l i :: l.drop (i + 1)) := by
    conv => lhs; rw [← List.take_append_drop i l, drop_el hi]
  have hl : (cellsL R (l.take i)).length = i * k := by rw [cellsL_len, List.length_take, Nat.min_eq_left (by omega)]
  have h2 : cellsL R l = cellsL R (l.take i) ++ (R.row (el l i) ++ cellsL R (l.drop (i + 1))) := by
    conv => lhs; rw [h1]
    rw [cellsL_append, cellsL_cons]
  rw [h2, ← hl, splice_app _ _ _ (by rw [List.length_append, R.len, R.len]; omega), R.len, List.drop_append_of_le_length (by rw [R.len]; omega), List.drop_of_length_le (by rw [R.len]; omega), List.nil_append]
  have h3 : l.set i a = l.take i ++ (a :: l.drop (i + 1)) := List.set_eq_take_append_cons_drop .. |>.trans (by rw [if_pos hi])
  rw [h3, cellsL_append, cellsL_cons]
theorem fill1I {z : Value} {kd : IntKind} {n : Int} : Instr.fill (fun i => some (i, 1)) (zrow [z] 1).toArray [(0, .int kd n)] = some #[.int kd n] := by
  have := fill_int (z := z) (kd := kd) (n := n)
  simpa using this
def boolR : RecV Bool 1 := ⟨fun b => [.bool b], fun _ => rfl⟩
theorem waitsFor_i {M : Mem} {lo hi : Nat} {us : List Value} {x : Node} (h : nodeP.rd lo hi M x us) : ∃ u N, Det Try.prog M.length 176 [.agg us.toArray] M u (M ++ N) ∧ SlV intP lo hi M u (waits x) := by
  obtain ⟨u, rfl, hu⟩ := h
  have hV := hu
  obtain ⟨A, n, c, rfl, h1, h2, h3⟩ := hu
  by_cases hk : x.k = 6
  · refine ⟨.slice none 0 0, [.live ⟨[iv x.k, iv x.a, iv x.b, .slice A n c], true, true, 141, 4⟩], Ctr.det ?_, by unfold waits; rw [if_pos hk]; exact .nil⟩
    first | (refine ctr_fn Try.func176 rfl Try.ntmps176 Try.results176 rfl rfl (by simp) ?_) | (refine ctr_fnC Try.func176 rfl Try.ntmps176 Try.results176 rfl (by simp) ?_)
    simp [hk]
  · refine ⟨.slice A n c, [.live ⟨[iv x.k, iv x.a, iv x.b, .slice A n c], true, true, 141, 4⟩], Ctr.det ?_, by unfold waits; rw [if_neg hk]; exact hV⟩
    first | (refine ctr_fn Try.func176 rfl Try.ntmps176 Try.results176 rfl rfl (by simp) ?_) | (refine ctr_fnC Try.func176 rfl Try.ntmps176 Try.results176 rfl (by simp) ?_)
    simp [hk]
theorem waits_idx {x : Node} {n : Int} (h : idxB n x.from_ = true) {i : Nat} (hi : i < (waits x).length) : ∃ f : Nat, el (waits x) i = f ∧ (f : Int) < n := by
  have hm : el (waits x) i ∈ x.from_ := by
    have := el_mem hi
    unfold waits at this ⊢
    split at this
    · cases this
    · rename_i hk
      simp only [hk, if_false] at this ⊢
      exact this
  have := List.all_eq_true.1 h _ hm
  rw [inB_iff] at this
  exact ⟨(el (waits x) i).toNat, by omega, by omega⟩
set_option maxHeartbeats 4000000 in
theorem order_i {M : Mem} {lo hi : Nat} {us : List Value} {x : Patch} (h : patchP.rd lo hi M x us) (hx : ∀ y, y ∈ x.nodes → idxB x.nodes.length y.from_ = true) (hn24 : x.nodes.length ≤ 24) :
    Ctr Try.prog M.length 149 [.agg us.toArray] M fun r M' => Acc intR 2 M.length M' r (ordL x.nodes) ∧ Keeps M M' ∧ ∃ a n c, r = .slice (some a) n c := by
  obtain ⟨u1, u2, u3, rfl, hu1, hu2, hu3⟩ := h
  obtain ⟨A1, n1, c1, rfl⟩ := hu1.isSl
  obtain ⟨A2, n2, c2, e2, p1, p2, p3⟩ := hu2
  obtain ⟨A3, n3, c3, rfl⟩ := hu3.isSl
  subst e2
  have hn := p3.1
  first | (refine ctr_fn Try.func149 rfl Try.ntmps149 Try.results149 rfl rfl (by simp) ?_) | (refine ctr_fnC Try.func149 rfl Try.ntmps149 Try.results149 rfl (by simp) ?_)
  simp
  refine ⟨by omega, ?_⟩
  obtain ⟨M0, hM0⟩ : ∃ M0 : Mem, M0 = M ++ [Slot.live ⟨[iv x.inp, .slice A1 n1 c1, .slice A2 n2 c2, .slice A3 n3 c3], true, true, 36, 4⟩, .live ⟨zrow [.bool false] n2, true, true, 4, 1⟩, .live ⟨[], true, true, 2, 1⟩] := ⟨_, rfl⟩
  have k0 : Keeps M M0 := by rw [hM0]; exact keeps_app _
  have b0 : cellAt M0 M.length 2 = some (.slice A2 n2 c2) := by rw [hM0]; simp
  have r0 : M0[M.length + 1]? = some (.live ⟨cellsL boolR (List.replicate n2 false), true, true, 4, 1⟩) := by
    rw [hM0, ← cellsL_zrow]; simp; rfl
  have i0 : M0[M.length + 2]? = some (.live ⟨cellsL intR [], true, true, 2, 1⟩) := by rw [hM0]; simp [cellsL]
  have hAc0 : Acc intR 2 (M.length + 2) M0 (.slice (some ⟨M.length + 2, 0, none⟩) 0 0) [] := ⟨_, 0, 0, rfl, rfl, .inr ⟨M.length + 2, true, rfl, Nat.le_refl _, i0⟩⟩
  refine awLoop_T (fun m T M' => ∃ (f : Bool) (c : Nat) (tk : List Bool) (out : List Int) (v : Value), m = (if f = true then c + 1 else 0) ∧ (f = true → tk.count false = c ∧ ordL x.nodes = ordT x.nodes c tk out) ∧ (f = false → ordL x.nodes = out) ∧ c + out.length ≤ n2 ∧ tk.length = n2 ∧ Keeps M M' ∧ cellAt M' M.length 2 = some (.slice A2 n2 c2) ∧ M'[M.length + 1]? = some (.live ⟨cellsL boolR tk, true, true, 4, 1⟩) ∧ Acc intR 2 (M.length + 2) M' v out ∧ M.length + 3 ≤ M'.length ∧ (∃ a n c, v = .slice (some a) n c) ∧ look T 5 = some (.bool f) ∧ look T 4 = some v ∧ look T 3 = some (.slice (some ⟨M.length + 1, 0, none⟩) n2 n2) ∧ look T 1 = some (.pointer (some ⟨M.length, 0, none⟩))) (n2 + 1)
    ⟨true, n2, List.replicate n2 false, [], _, by simp, fun _ => ⟨by simp, by unfold ordL; rw [hn]⟩, (fun h => by cases h), by simp, by simp, by rw [← hM0]; exact k0, by rw [← hM0]; exact b0, by rw [← hM0]; exact r0, by rw [← hM0]; exact hAc0, by simp, ⟨_, _, _, rfl⟩, by simp, by simp, by simp, by simp⟩ ?_
  clear hM0 k0 b0 r0 i0 hAc0
  rintro m T M1 ⟨f, c, tk, out, v, hm, hft, hff, hcl, htk, k1, b1, r1, hA1, l1, hvs, t5, t4, t3, t1⟩
  cases f
  · simp [t5, t4]
    rw [hff rfl]
    exact ⟨hA1.low (by omega), k1, hvs⟩
  obtain ⟨hcnt, hord⟩ := hft rfl
  simp only [if_pos] at hm
  subst hm
  simp (disch := omega) [t5, t4, t3, t1, b1]
  refine awLoop_T (fun m T M' => ∃ i : Nat, i + m = n2 ∧ (∀ j, j < i → rdyT x.nodes tk j = false) ∧ Keeps M M' ∧ cellAt M' M.length 2 = some (.slice A2 n2 c2) ∧ M'[M.length + 1]? = some (.live ⟨cellsL boolR tk, true, true, 4, 1⟩) ∧ Acc intR 2 (M.length + 2) M' v out ∧ M.length + 3 ≤ M'.length ∧ look T 20 = some (iv i) ∧ look T 19 = some (iv n2) ∧ look T 18 = some (.slice A2 n2 c2) ∧ look T 5 = some (.bool false) ∧ look T 4 = some v ∧ look T 3 = some (.slice (some ⟨M.length + 1, 0, none⟩) n2 n2) ∧ look T 1 = some (.pointer (some ⟨M.length, 0, none⟩))) n2
    ⟨0, by omega, fun j hj => by omega, k1, b1, r1, hA1, l1, by simp, by simp, by simp, by simp, by simp [t4], by simp [t3], by simp [t1]⟩ ?_
  clear b1 r1 hA1 l1 t5 t4 t3 t1 k1 T
  rintro m T M2 ⟨i, hi, hnr, k2, b2, r2, hA2, l2, t20, t19, t18, t5, t4, t3, t1⟩
  by_cases hlt : i < n2
  case neg =>
    simp (disch := omega) [t20, t19, hlt]
    refine lpI 0 (by omega) ⟨false, 0, tk, out, v, by simp, (fun h => by cases h), fun _ => ?_, by omega, htk, k2, b2, r2, hA2, l2, hvs, by simp [t5], by simp [t4], by simp [t3], by simp [t1]⟩
    have hnx : nextT x.nodes tk = none := nextT_none fun j hj => hnr j (by omega)
    rw [hord]
    cases c with
    | zero => rfl
    | succ c => show (match nextT x.nodes tk with | none => out | some i => _) = out; rw [hnx]
  obtain ⟨id, off, us, rfl, he, hrd, hc⟩ := (p3.keeps k2).at_ hlt
  have hrd2 := hrd
  obtain ⟨u, rfl, hu⟩ := hrd2
  obtain ⟨A4, n4, c4, rfl⟩ := hu.isSl
  have cl := cellsAt_of (n := 4) hc rfl (by omega)
  have hlen : (cellsL boolR tk).length = n2 := by rw [cellsL_len, htk, Nat.mul_one]
  have hcell : ∀ j, j < n2 → (cellsL boolR tk)[j]? = some (.bool (el tk j)) := fun j hj => by
    have := cellsL_get boolR (l := tk) (i := j) (j := 0) (by omega) (by omega)
    rw [Nat.mul_one, Nat.add_zero] at this
    rw [this]; rfl
  obtain ⟨M3, hM3⟩ : ∃ M3 : Mem, M3 = M2 ++ [Slot.live ⟨[iv (el x.nodes i).k, iv (el x.nodes i).a, iv (el x.nodes i).b, .slice A4 n4 c4], true, true, 141, 4⟩] := ⟨_, rfl⟩
  have k23 : Keeps M2 M3 := by rw [hM3]; exact keeps_app _
  have n3 : M3.length = M2.length + 1 := by rw [hM3]; simp
  have q3 : cellsAt M3 M2.length 0 4 = some [iv (el x.nodes i).k, iv (el x.nodes i).a, iv (el x.nodes i).b, .slice A4 n4 c4] := by rw [hM3]; simp
  have r3 := k23.get r2
  have e3 : rowEsz M3 (M.length + 1) = some 1 := by simp [rowEsz, r3]
  have c3 : ∀ j, j < n2 → cellAt M3 (M.length + 1) j = some (.bool (el tk j)) := fun j hj => by simp only [cellAt, r3]; exact hcell j hj
  obtain ⟨w, N, dw, hw⟩ := waitsFor_i (nodeP.keeps hrd k23)
  have c30 := c3 i hlt
  simp (disch := omega) [t20, t19, t18, t5, t4, t3, t1, hlt, cl, he]
  rw [← hM3]
  simp (disch := omega) [t20, t19, t18, t5, t4, t3, t1, hlt, e3, c30, q3]
  refine awCall_det' dw (by omega) ?_
  obtain ⟨Aw, nw, cw, rfl, hw1, hw2, hw3⟩ := hw
  have hwl := hw3.1
  simp
  have k34 : Keeps M3 (M3 ++ N) := keeps_app _
  replace hw3 := hw3.keeps k34
  have k4 := (k2.trans k23).trans k34
  have r4 := k34.get r3
  have b4 := cellAt_keeps (k23.trans k34) b2
  have hA4 := hA2.keeps (k23.trans k34)
  have l4 : M.length + 3 ≤ (M3 ++ N).length := by simp; omega
  generalize M3 ++ N = M4 at *
  clear c30 c3 e3 r3 q3 k23 k34 dw hM3 n3 cl hc he
  have e4 : rowEsz M4 (M.length + 1) = some 1 := by simp [rowEsz, r4]
  have c4' : ∀ j, j < n2 → cellAt M4 (M.length + 1) j = some (.bool (el tk j)) := fun j hj => by simp only [cellAt, r4]; exact hcell j hj
  have hyi : idxB n2 (el x.nodes i).from_ = true := by rw [← hn]; exact hx _ (el_mem (by omega))
  have hsl := hw3.sl
  have hrdy : rdyT x.nodes tk i = (!(el tk i) && (waits (el x.nodes i)).all fun f => el tk f.toNat) := rfl
  have hwi : ∀ k, k < nw → ∃ f : Nat, el (waits (el x.nodes i)) k = f ∧ f < n2 := fun k hk => by
    obtain ⟨f, e1, e2⟩ := waits_idx hyi (i := k) (by omega)
    exact ⟨f, e1, by omega⟩
  generalize waits (el x.nodes i) = W at *
  refine awLoop_T (fun m T M' => ∃ k : Nat, k + m = nw ∧ M' = M4 ∧ look T 8 = some (.bool (!(el tk i) && (W.take k).all fun f => el tk f.toNat)) ∧ look T 33 = some (iv k) ∧ look T 32 = some (iv nw) ∧ look T 31 = some (.slice Aw nw cw) ∧ look T 20 = some (iv i) ∧ look T 19 = some (iv n2) ∧ look T 18 = some (.slice (some ⟨id, off, none⟩) n2 c2) ∧ look T 6 = some (iv i) ∧ look T 5 = some (.bool false) ∧ look T 4 = some v ∧ look T 3 = some (.slice (some ⟨M.length + 1, 0, none⟩) n2 n2) ∧ look T 1 = some (.pointer (some ⟨M.length, 0, none⟩))) nw
    ⟨0, by omega, rfl, by simp, by simp, by simp, by simp, by simp [t20], by simp [t19], by simp [t18], by simp, by simp [t5], by simp [t4], by simp [t3], by simp [t1]⟩ ?_
  clear t20 t19 t18 t5 t4 t3 t1 T
  rintro m' T M5 ⟨k, hk, rfl, t8, t33, t32, t31, t20, t19, t18, t6, t5, t4, t3, t1⟩
  by_cases hkw : k < nw
  · obtain ⟨id', off', rfl, he', hc'⟩ := hsl.at_ hkw
    have c1' := int_cell hc'
    simp only [Nat.mul_one] at c1'
    obtain ⟨f, hf, hfn⟩ := hwi k hkw
    rw [hf] at c1'
    have htake : (W.take (k + 1)).all (fun f => el tk f.toNat) = ((W.take k).all (fun f => el tk f.toNat) && el tk f) := by
      rw [take_el (by omega), List.all_append, hf]; simp
    have cf := c4' f hfn
    generalize hg : (W.take k).all (fun f => el tk f.toNat) = g at *
    simp (disch := omega) [t33, t32, t31, hkw, c1', he', t8]
    cases hb : (!(el tk i) && g)
    · simp (disch := omega) [t8, hb, t3, t33, t32, t31, wrap_in]
      refine lpI (m' - 1) (by omega) ⟨k + 1, by omega, rfl, ?_, by simp, by simp [t32], by simp [t31], by simp [t20], by simp [t19], by simp [t18], by simp [t6], by simp [t5], by simp [t4], by simp [t3], by simp [t1]⟩
      rw [htake, ← Bool.and_assoc, hb]; simp
    · simp (disch := omega) [t8, hb, t3, t33, t32, t31, wrap_in, hfn, e4, cf]
      refine lpI (m' - 1) (by omega) ⟨k + 1, by omega, rfl, ?_, by simp, by simp [t32], by simp [t31], by simp [t20], by simp [t19], by simp [t18], by simp [t6], by simp [t5], by simp [t4], by simp [t3], by simp [t1]⟩
      rw [htake, ← Bool.and_assoc, hb]; simp
  · obtain rfl : k = nw := by omega
    rw [List.take_of_length_le (by omega), ← hrdy] at t8
    simp (disch := omega) [t33, t32]
    cases hb : rdyT x.nodes tk i
    · simp (disch := omega) [t8, hb, t20, wrap_in]
      refine lpI (m - 1) (by omega) ⟨i + 1, by omega, fun j hj => ?_, k4, b4, r4, hA4, l4, by simp, by simp [t19], by simp [t18], by simp [t5], by simp [t4], by simp [t3], by simp [t1]⟩
      by_cases e : j = i
      · rw [e]; exact hb
      · exact hnr j (by omega)
    · have hfree := rdyT_free hb
      have hnx : nextT x.nodes tk = some i := nextT_some (by omega) hb hnr
      have hcs := count_set_true (by omega) hfree
      obtain ⟨M6, hput, r6, u6, n6⟩ : ∃ M6 : Mem, putCells M.length M5 (M.length + 1) i [.bool true] = some M6 ∧ M6[M.length + 1]? = some (.live ⟨cellsL boolR (tk.set i true), true, true, 4, 1⟩) ∧ (∀ (q : Nat) s, q ≠ M.length + 1 → M5[q]? = some s → M6[q]? = some s) ∧ M6.length = M5.length := by
        have hp := put_at_row (b := M.length) (p := i) (vs := [.bool true]) r4 (by omega) (by simp; omega) (by simp)
        have hset : splice (cellsL boolR tk) i [.bool true] = cellsL boolR (tk.set i true) := by
          have := splice_setI boolR (l := tk) (i := i) (a := true) (by omega)
          rw [Nat.mul_one] at this
          exact this
        rw [hset] at hp
        exact ⟨_, hp, List.getElem?_set_self (by omega), fun q s hq hs => by rw [List.getElem?_set_ne (Ne.symm hq)]; exact hs, by simp⟩
      have k6 : Keeps M M6 := by
        unfold Keeps
        exact fun q s hs => u6 q s (by have := (List.getElem?_eq_some_iff.1 hs).1; omega) (k4.get hs)
      have b6 : cellAt M6 M.length 2 = some (.slice (some ⟨id, off, none⟩) n2 c2) := by
        unfold cellAt at b4 ⊢
        cases hm : M5[M.length]? with
        | none => rw [hm] at b4; cases b4
        | some s => rw [u6 _ _ (by omega) hm]; rw [hm] at b4; exact b4
      have hA6 : Acc intR 2 (M.length + 2) M6 v out := by
        obtain ⟨A, q, cc, e1, e2, e3⟩ := hA4
        refine ⟨A, q, cc, e1, e2, ?_⟩
        rcases e3 with e3 | ⟨ida, tt, e4, e5, e6⟩
        · exact .inl e3
        · exact .inr ⟨ida, tt, e4, e5, u6 _ _ (by omega) e6⟩
      simp (disch := omega) [t8, hb, t3, t6, hlt, e4, hput, t4, fill1I]
      refine (hA6.keeps (keeps_app _)).append (R := intR) (e := 2) (by_ := 8) (a := (i : Int)) (by omega) (by simp; omega) (by omega) (by simp) (by kernel_rfl) (by simp [srcOf, intR]) (by rfl) (by omega) (by unfold maxLen; omega) ?_
      intro v' M7 hA7 hS7
      try simp (disch := omega) [t20]
      have n7 := hS7.1
      simp only [List.length_append, List.length_cons, List.length_nil] at n7
      have r7 := hS7.2 (M.length + 1) _ (by omega) (by rw [List.getElem?_append_left (by omega)]; exact r6)
      have k7 : Keeps M M7 := hS7.keeps (k6.app _) (by omega)
      have b7 : cellAt M7 M.length 2 = some (.slice (some ⟨id, off, none⟩) n2 c2) := by
        unfold cellAt at b6 ⊢
        cases hm : M6[M.length]? with
        | none => rw [hm] at b6; cases b6
        | some s => rw [hS7.2 M.length s (by omega) (by rw [List.getElem?_append_left (by omega)]; exact hm)]; rw [hm] at b6; exact b6
      have hvs7 : ∃ a n c, v' = .slice (some a) n c := by
        obtain ⟨A, q, cc, e1, e2, e3⟩ := hA7
        rcases e3 with ⟨-, e3, -⟩ | ⟨ida, tt, e3, -⟩
        · simp at e2; omega
        · exact ⟨_, q, cc, by rw [e1, e3]⟩
      refine lpI c (by omega) ⟨true, c - 1, tk.set i true, out ++ [(i : Int)], v', by simp; omega, fun _ => ⟨by omega, ?_⟩, (fun h => by cases h), by simp; omega, by simp [htk], k7, b7, r7, hA7, by omega, hvs7, by simp, by simp, by simp [t3], by simp [t1]⟩
      rw [hord]
      cases c with
      | zero => omega
      | succ c => show (match nextT x.nodes tk with | none => out | some i => _) = _; rw [hnx]; rfl
end Go.Proofs.Ytffbocbjmhkikaa
