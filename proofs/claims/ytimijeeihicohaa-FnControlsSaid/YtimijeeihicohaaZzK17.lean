/- Parts of the proof, together: The program's controls of a voice, walked. The program's ControlsOf. The law of the controls of a voice is walked. No conditions. -/
import Derived.Test.YtimijeeihicohaaZzK16
import Derived.Test.YtimijeeihicohaaZzK14
import Derived.Test.YtimijeeihicohaaZzK15
namespace Go.Proofs.Ytimijeeihicohaa
open Go.RowKit
set_option linter.unusedVariables false
set_option linter.unusedSimpArgs false
set_option maxRecDepth 100000
attribute [local simp] List.getElem?_cons_zero
attribute [local irreducible] awCond awCall awLoop awDraw ow retQ retC resQ Keeps
theorem okG_len {l : List Gate} (h : okG l = true) : l.length ≤ 60 := by
  unfold okG at h
  simp only [Bool.and_eq_true, decide_eq_true_eq] at h
  exact h.2
theorem okG_bd {l : List Gate} (h : okG l = true) : ∀ i, i < l.length → 0 ≤ (el l i).s ∧ (el l i).s < (el l i).e ∧ (el l i).e ≤ 4000 ∧ (0 ≤ (el l i).k ∧ (el l i).k ≤ 127) ∧ (1 ≤ (el l i).u ∧ (el l i).u ≤ 127) := by
  intro i hi
  unfold okG at h
  simp only [Bool.and_eq_true, decide_eq_true_eq] at h
  have := (h.1 i hi).1
  unfold gateB at this
  simp only [Bool.and_eq_true, decide_eq_true_eq] at this
  obtain ⟨⟨⟨⟨⟨h1, h2⟩, h3⟩, h4⟩, h5⟩, h6⟩ := this
  exact ⟨h2, h3, h4, inB_iff.1 h5, inB_iff.1 h6⟩
theorem doneP_start {l : List Gate} (hs : Sorted l) {k u : Nat} (hk : k < l.length) (hu : (u : Int) = (el l k).s) (t : Nat) : doneP l k 0 t = doneP l k u t := by
  unfold doneP
  by_cases e : cidx l t = k + 1
  · have := (cidx_lt hs hk (t := t)).1 (by omega)
    have h2 : ¬ t < u := by omega
    simp [e, h2]
  · simp [e]
theorem doneP_end {l : List Gate} (hs : Sorted l) {k u n : Nat} (hu : n ≤ u ∨ (k + 1 < l.length ∧ (el l (k + 1)).s ≤ u)) {t : Nat} (ht : t < n) : doneP l k u t = doneP l (k + 1) 0 t := by
  unfold doneP
  by_cases e : cidx l t = k + 1
  · have h2 : t < u := by
      rcases hu with hu | ⟨hu, hu'⟩
      · omega
      · have : ¬ (el l (k + 1)).s ≤ (t : Int) := fun h => by have := (cidx_lt hs hu (t := t)).2 h; omega
        omega
    simp [e, h2]
  · by_cases e1 : cidx l t ≤ k
    · have : cidx l t ≤ k + 1 := by omega
      simp [e1, this]
    · have h1 : ¬ cidx l t ≤ k + 1 := by omega
      simp [e, e1, h1]
theorem doneP_all (l : List Gate) (t : Nat) : doneP l l.length 0 t = allP l t := by
  unfold doneP allP
  have := cidx_le l t
  simp [this]
theorem doneP_none (l : List Gate) (t : Nat) : doneP l 0 0 t = false := by
  unfold doneP
  by_cases h : 0 < cidx l t
  · have : ¬ cidx l t ≤ 0 := by omega
    simp [this]
  · simp [h]
set_option maxHeartbeats 2000000 in
theorem controls_i {M : Mem} {b lo hi : Nat} {us : List Value} {x : Inst} {A : Option Addr} {n c N : Nat} {l : List Gate} (h : instP.rd lo hi M x us) (hb : instB x = true) (hg : Sl gateR M A n l) (hok : okG l = true) (hN : N ≤ 4000) (hbM : b ≤ M.length) :
    Ctr Try.prog b 51 [.agg us.toArray, .slice A n c, iv N] M fun v M' => ∃ oid i0 i1 i2 v0 v1 v2, v = .slice (some ⟨oid, 0, none⟩) 3 3 ∧ Ctl M' M.length oid i0 i1 i2 v0 v1 v2 (mkC N (allP l) (ctl0 x l)) (mkC N (allP l) (ctl1 x l)) (mkC N (allP l) (ctl2 x l)) ∧ Same M.length M M' := by
  have hl := instP.len h
  have ht : us.take 8 = us := List.take_of_length_le (by omega)
  have hgl := hg.1
  first | (refine ctr_fn Try.func51 rfl Try.ntmps51 Try.results51 rfl rfl (by simp) ?_) | (refine ctr_fnC Try.func51 rfl Try.ntmps51 Try.results51 rfl (by simp) ?_)
  simp [hl, ht]
  refine awCall_det' (zeros_i N hN) (by simp <;> omega) ?_
  refine awCall_det' (zeros_i N hN) (by simp <;> omega) ?_
  refine awCall_det' (zeros_i N hN) (by simp <;> omega) ?_
  rw [show ∀ a b c : Addr, Instr.fill (fun i => some (i, 1)) (zrow [Value.slice none 0 0] 3).toArray [(0, Value.slice (some a) N N), (1, Value.slice (some b) N N), (2, Value.slice (some c) N N)] = some #[Value.slice (some a) N N, Value.slice (some b) N N, Value.slice (some c) N N] from fun _ _ _ => rfl, ow_some]
  simp
  have hs := okG_sorted hok
  have hgk := okG_bd hok
  have hz : ∀ f : Nat → Int, mkC N (doneP l 0 0) f = List.replicate N 0 := fun f => mkC_none fun t _ => doneP_none l t
  refine awLoop_T (fun m T M' => ∃ k : Nat, k + m = n ∧ Same M.length M M' ∧ M.length + 4 < M'.length ∧ M'[M.length]? = some (Slot.live ⟨us, true, true, 53, 8⟩) ∧ Ctl M' M.length (M.length + 4) (M.length + 1) (M.length + 2) (M.length + 3) (.slice (some ⟨M.length + 1, 0, none⟩) N N) (.slice (some ⟨M.length + 2, 0, none⟩) N N) (.slice (some ⟨M.length + 3, 0, none⟩) N N) (mkC N (doneP l k 0) (ctl0 x l)) (mkC N (doneP l k 0) (ctl1 x l)) (mkC N (doneP l k 0) (ctl2 x l)) ∧ look T 21 = some (iv k) ∧ look T 20 = some (iv n) ∧ look T 19 = some (.slice A n c) ∧ look T 7 = some (.slice (some ⟨M.length + 4, 0, none⟩) 3 3) ∧ look T 3 = some (.pointer (some ⟨M.length, 0, none⟩)) ∧ look T 1 = some (.slice A n c) ∧ look T 2 = some (iv N)) n ⟨0, by omega, ⟨by simp, fun i s _ hs => (keeps_app _).get hs⟩, by simp, by simp, ⟨by omega, ⟨46, by simp⟩, ⟨by omega, true, N, by simp [mkC_len], by simp [hz]⟩, ⟨by omega, true, N, by simp [mkC_len], by simp [hz]⟩, ⟨by omega, true, N, by simp [mkC_len], by simp [hz]⟩, by omega⟩, by simp, by simp, by simp, by simp, by simp, by simp, by simp⟩ ?_
  rintro m T M1 ⟨k, hm, hS, hM1, hbx, hC, t21, t20, t19, t7, t3, t1, t2⟩
  by_cases hlt : k < n
  · have hK := slt hS
    obtain ⟨id, off, rfl, he, hc⟩ := (hg.keeps hK).at_ hlt
    have hcl := gate_load hc
    have hn60 : n ≤ 60 := by have := okG_len hok; omega
    by_cases hk1 : k + 1 < n
    · obtain ⟨_, _, e0, _, hc1⟩ := (hg.keeps hK).at_ hk1
      cases e0
      obtain ⟨z0, z1, z2, z3, z4⟩ := gate_cells hc1
      have hk1' : (k : Int) + 1 < n := by omega
      have w1 := hgk (k + 1) (by omega)
      simp (disch := omega) [t21, t20, t19, t1, t2, hlt, hk1', wrap_in, he, hcl, z1, cellAt_app z1, rowEsz_keeps (keeps_app _) he]
      refine ⟨by omega, ?_⟩
      obtain ⟨U, hU, hUN, hUle, hUe⟩ : ∃ U : Nat, (U : Int) = (if (el l (k + 1)).s < (N : Int) then (el l (k + 1)).s else (N : Int)) ∧ U ≤ N ∧ (k + 1 < l.length → (U : Int) ≤ (el l (k + 1)).s) ∧ (N ≤ U ∨ (k + 1 < l.length ∧ (el l (k + 1)).s ≤ U)) := by
        by_cases hc : (el l (k + 1)).s < (N : Int)
        · exact ⟨(el l (k + 1)).s.toNat, by rw [if_pos hc]; omega, by omega, fun _ => by omega, .inr ⟨by omega, by omega⟩⟩
        · exact ⟨N, by rw [if_neg hc], by omega, fun _ => by omega, .inl (by omega)⟩
      rw [← hU]
      have w := hgk k (by omega)
      obtain ⟨s0, hs0⟩ : ∃ s0 : Nat, (s0 : Int) = (el l k).s := ⟨(el l k).s.toNat, by omega⟩
      have hstart : ∀ f : Nat → Int, mkC N (doneP l k 0) f = mkC N (doneP l k s0) f := fun f => mkC_congr fun t _ => doneP_start hs (by omega) hs0 t
      rw [hstart, hstart, hstart] at hC
      refine awLoop_T (fun m T M' => ∃ u : Nat, u + m = max s0 U ∧ s0 ≤ u ∧ Same M.length M M' ∧ M1.length < M'.length ∧ M'[M.length]? = some (Slot.live ⟨us, true, true, 53, 8⟩) ∧ M'[M1.length]? = some (Slot.live ⟨[iv (el l k).o, iv (el l k).s, iv (el l k).e, iv (el l k).k, iv (el l k).u], true, true, 63, 5⟩) ∧ Ctl M' M.length (M.length + 4) (M.length + 1) (M.length + 2) (M.length + 3) (.slice (some ⟨M.length + 1, 0, none⟩) N N) (.slice (some ⟨M.length + 2, 0, none⟩) N N) (.slice (some ⟨M.length + 3, 0, none⟩) N N) (mkC N (doneP l k u) (ctl0 x l)) (mkC N (doneP l k u) (ctl1 x l)) (mkC N (doneP l k u) (ctl2 x l)) ∧ look T 11 = some (iv u) ∧ look T 10 = some (iv U) ∧ look T 9 = some (.pointer (some ⟨M1.length, 0, none⟩)) ∧ look T 21 = some (iv k) ∧ look T 20 = some (iv n) ∧ look T 19 = some (.slice (some ⟨id, off, none⟩) n c) ∧ look T 7 = some (.slice (some ⟨M.length + 4, 0, none⟩) 3 3) ∧ look T 3 = some (.pointer (some ⟨M.length, 0, none⟩)) ∧ look T 1 = some (.slice (some ⟨id, off, none⟩) n c) ∧ look T 2 = some (iv N)) (max s0 U - s0) ⟨s0, by omega, Nat.le_refl _, ⟨by have := hS.1; simp; omega, fun i s h1 h2 => (keeps_app _).get (hS.2 i s h1 h2)⟩, by simp, (keeps_app _).get hbx, by simp, hC.keeps (keeps_app _), by simp [hs0], by simp, by simp, by simp [t21], by simp [t20], by simp [t19], by simp [t7], by simp [t3], by simp [t1], by simp [t2]⟩ ?_
      clear hC hS hbx t21 t20 t19 t7 t3 t1 t2 T
      rintro m' T M3 ⟨u, hm', hsu, hS, hM3, hbx, hgb, hC, t11, t10, t9, t21, t20, t19, t7, t3, t1, t2⟩
      by_cases hu : u < U
      · have hK3 := slt hS
        have h3 := instP.keeps h hK3
        obtain ⟨o0, o1, o2, oez⟩ := hC.cells
        have cI : cellsAt M3 M.length 0 8 = some us := by simp [cellsAt, hbx, hl, ht]
        have b3 : cellAt M3 M1.length 3 = some (iv (el l k).k) := by simp [cellAt, hgb]
        simp (disch := omega) [t11, t10, hu]
        refine awDraw_E 8 [[],[0],[1,0],[],[],[],[5],[4,6,5],[2,1,0,3,4,5,6,7],[8,2,1,0,3,4,5,6,7]] (by kernel_rfl) (by kernel_rfl) ?_
        simp (disch := omega) [t11, t10, t9, t7, t3, hu, wrap_in, o0, oez, cI, b3]
        have huN : u < N := by omega
        have hci : cidx l u = k + 1 := cidx_at hs (by omega) (by omega) (fun h => by have := hUle h; omega)
        have hgl0 : gateL l u = el l k := by simp [gateL, hci]
        have hset : ∀ f : Nat → Int, (mkC N (doneP l k u) f).set u (f u) = mkC N (doneP l k (u + 1)) f := fun f => mkC_set fun t _ => doneP_step hci t
        have hk127 : inB (el l k).k 0 127 = true := inB_iff.2 w.2.2.2.1
        have ez0 : rowEsz M3 (M.length + 1) = some 1 := by obtain ⟨_, _, _, hh⟩ := hC.r0; simp [rowEsz, hh]
        refine awCall_det' (d := true) (increment_i h3 hb hk127) (Nat.le_refl _) ⟨rfl, ?_⟩
        obtain ⟨M4, p1, hC4, l4, o4⟩ := hC.put0 hbM (i := u) (by rw [mkC_len]; exact huN) (incr x.steps (el l k).k)
        have hv0 : incr x.steps (el l k).k = ctl0 x l u := by unfold ctl0; rw [hgl0]
        rw [hv0, hset] at hC4
        have hbx4 := o4 _ _ (by omega) hbx
        have hgb4 := o4 _ _ (by omega) hgb
        simp (disch := omega) [ez0, huN, p1]
        obtain ⟨o0', o1', o2', oez'⟩ := hC4.cells
        have b4 : cellAt M4 M1.length 4 = some (iv (el l k).u) := by simp [cellAt, hgb4]
        have ez1 : rowEsz M4 (M.length + 2) = some 1 := by obtain ⟨_, _, _, hh⟩ := hC4.r1; simp [rowEsz, hh]
        obtain ⟨M5, p2, hC5, l5, o5⟩ := hC4.put1 hbM (i := u) (by rw [mkC_len]; exact huN) (el l k).u
        have hv1 : (el l k).u = ctl1 x l u := by unfold ctl1; rw [hgl0]
        rw [show (mkC N (doneP l k u) (ctl1 x l)).set u (el l k).u = mkC N (doneP l k (u + 1)) (ctl1 x l) by rw [hv1]; exact hset _] at hC5
        have hbx5 := o5 _ _ (by omega) hbx4
        have hgb5 := o5 _ _ (by omega) hgb4
        refine awDraw_E 6 [[],[0],[1,0],[],[],[4],[2,1,0,3,4,5],[6,2,1,0,3,4,5]] (by kernel_rfl) (by kernel_rfl) ?_
        simp (disch := omega) [t11, t9, t7, huN, wrap_in, o1', oez', b4, ez1, p2]
        have hS5 : Same M.length M M5 := ⟨by have := hS.1; omega, fun i s h1 h2 => o5 i s (by omega) (o4 i s (by omega) (hS.2 i s h1 h2))⟩
        have h5 := instP.keeps h (slt hS5)
        obtain ⟨ps, es, ww, hus, hp, he5, hw5⟩ := h5
        have hpl := patchP.len hp
        have hel := envP.len he5
        have cE : cellsAt M5 M.length 4 3 = some es := by
          simp only [cellsAt, hbx5]
          rw [if_pos (by simp only [hl]; omega), hus]
          simp [hpl, hel, List.drop_append_of_le_length, List.drop_of_length_le, List.take_of_length_le]
        obtain ⟨q0, q1, q2, qez⟩ := hC5.cells
        have c1 : cellAt M5 M1.length 1 = some (iv (el l k).s) := by simp [cellAt, hgb5]
        have c2 : cellAt M5 M1.length 2 = some (iv (el l k).e) := by simp [cellAt, hgb5]
        have ez2 : rowEsz M5 (M.length + 3) = some 1 := by obtain ⟨_, _, _, hh⟩ := hC5.r2; simp [rowEsz, hh]
        have hbe : envB x.env = true := by unfold instB at hb; simp only [Bool.and_eq_true] at hb; exact hb.2.2.2.1
        obtain ⟨M6, p3, hC6, l6, o6⟩ := hC5.put2 hbM (i := u) (by rw [mkC_len]; exact huN) (levelV x.env ((el l k).e - (el l k).s) (u - (el l k).s))
        have hv2 : levelV x.env ((el l k).e - (el l k).s) (u - (el l k).s) = ctl2 x l u := by unfold ctl2; rw [hgl0]
        rw [show (mkC N (doneP l k u) (ctl2 x l)).set u (levelV x.env ((el l k).e - (el l k).s) (u - (el l k).s)) = mkC N (doneP l k (u + 1)) (ctl2 x l) by rw [hv2]; exact hset _] at hC6
        refine awDraw_E 16 [[],[0],[1,0],[],[],[4],[],[6],[],[8],[7,6,9,8],[],[],[12],[11,13,12],[5,4,10,7,6,9,8,14,11,13,12],[2,1,0,3,4,5,6,7,8,9,10,11,12,13,14,15],[16,2,1,0,3,4,5,6,7,8,9,10,11,12,13,14,15]] (by kernel_rfl) (by kernel_rfl) ?_
        simp (disch := omega) [t11, t9, t7, t3, huN, wrap_in, q2, qez, c1, c2, cE]
        refine awCall_det' (d := true) (levelAt_i ((el l k).e - (el l k).s) (u - (el l k).s) he5 hbe (by omega) (by omega) (by omega) (by omega)) (Nat.le_refl _) ⟨rfl, ?_⟩
        simp (disch := omega) [ez2, huN, p3, t11, wrap_in]
        refine lpI (m' - 1) (by omega) ⟨u + 1, by omega, by omega, ⟨by have := hS5.1; omega, fun i s h1 h2 => o6 i s (by omega) (hS5.2 i s h1 h2)⟩, by omega, o6 _ _ (by omega) hbx5, o6 _ _ (by omega) hgb5, hC6, by simp, by simp [t10], by simp [t9], by simp [t21], by simp [t20], by simp [t19], by simp [t7], by simp [t3], by simp [t1], by simp [t2]⟩
      · have hend : ∀ f : Nat → Int, mkC N (doneP l k u) f = mkC N (doneP l (k + 1) 0) f := fun f => mkC_congr fun t ht => doneP_end hs (by omega) ht
        rw [hend, hend, hend] at hC
        simp (disch := omega) [t11, t10, hu, t21, wrap_in]
        refine lpI (m - 1) (by omega) ⟨k + 1, by omega, hS, by omega, hbx, hC, by simp, by simp [t20], by simp [t19], by simp [t7], by simp [t3], by simp [t1], by simp [t2]⟩
    · have hk1' : ¬ (k : Int) + 1 < n := by omega
      simp (disch := omega) [t21, t20, t19, t1, t2, hlt, hk1', wrap_in, he, hcl]
      have hUN : N ≤ N := Nat.le_refl _
      have hUle : k + 1 < l.length → (N : Int) ≤ (el l (k + 1)).s := fun h => by omega
      have hUe : N ≤ N ∨ (k + 1 < l.length ∧ (el l (k + 1)).s ≤ (N : Int)) := .inl (Nat.le_refl _)
      have w := hgk k (by omega)
      obtain ⟨s0, hs0⟩ : ∃ s0 : Nat, (s0 : Int) = (el l k).s := ⟨(el l k).s.toNat, by omega⟩
      have hstart : ∀ f : Nat → Int, mkC N (doneP l k 0) f = mkC N (doneP l k s0) f := fun f => mkC_congr fun t _ => doneP_start hs (by omega) hs0 t
      rw [hstart, hstart, hstart] at hC
      refine awLoop_T (fun m T M' => ∃ u : Nat, u + m = max s0 N ∧ s0 ≤ u ∧ Same M.length M M' ∧ M1.length < M'.length ∧ M'[M.length]? = some (Slot.live ⟨us, true, true, 53, 8⟩) ∧ M'[M1.length]? = some (Slot.live ⟨[iv (el l k).o, iv (el l k).s, iv (el l k).e, iv (el l k).k, iv (el l k).u], true, true, 63, 5⟩) ∧ Ctl M' M.length (M.length + 4) (M.length + 1) (M.length + 2) (M.length + 3) (.slice (some ⟨M.length + 1, 0, none⟩) N N) (.slice (some ⟨M.length + 2, 0, none⟩) N N) (.slice (some ⟨M.length + 3, 0, none⟩) N N) (mkC N (doneP l k u) (ctl0 x l)) (mkC N (doneP l k u) (ctl1 x l)) (mkC N (doneP l k u) (ctl2 x l)) ∧ look T 11 = some (iv u) ∧ look T 10 = some (iv N) ∧ look T 9 = some (.pointer (some ⟨M1.length, 0, none⟩)) ∧ look T 21 = some (iv k) ∧ look T 20 = some (iv n) ∧ look T 19 = some (.slice (some ⟨id, off, none⟩) n c) ∧ look T 7 = some (.slice (some ⟨M.length + 4, 0, none⟩) 3 3) ∧ look T 3 = some (.pointer (some ⟨M.length, 0, none⟩)) ∧ look T 1 = some (.slice (some ⟨id, off, none⟩) n c) ∧ look T 2 = some (iv N)) (max s0 N - s0) ⟨s0, by omega, Nat.le_refl _, ⟨by have := hS.1; simp; omega, fun i s h1 h2 => (keeps_app _).get (hS.2 i s h1 h2)⟩, by simp, (keeps_app _).get hbx, by simp, hC.keeps (keeps_app _), by simp [hs0], by simp, by simp, by simp [t21], by simp [t20], by simp [t19], by simp [t7], by simp [t3], by simp [t1], by simp [t2]⟩ ?_
      clear hC hS hbx t21 t20 t19 t7 t3 t1 t2 T
      rintro m' T M3 ⟨u, hm', hsu, hS, hM3, hbx, hgb, hC, t11, t10, t9, t21, t20, t19, t7, t3, t1, t2⟩
      by_cases hu : u < N
      · have hK3 := slt hS
        have h3 := instP.keeps h hK3
        obtain ⟨o0, o1, o2, oez⟩ := hC.cells
        have cI : cellsAt M3 M.length 0 8 = some us := by simp [cellsAt, hbx, hl, ht]
        have b3 : cellAt M3 M1.length 3 = some (iv (el l k).k) := by simp [cellAt, hgb]
        simp (disch := omega) [t11, t10, hu]
        refine awDraw_E 8 [[],[0],[1,0],[],[],[],[5],[4,6,5],[2,1,0,3,4,5,6,7],[8,2,1,0,3,4,5,6,7]] (by kernel_rfl) (by kernel_rfl) ?_
        simp (disch := omega) [t11, t10, t9, t7, t3, hu, wrap_in, o0, oez, cI, b3]
        have huN : u < N := by omega
        have hci : cidx l u = k + 1 := cidx_at hs (by omega) (by omega) (fun h => by have := hUle h; omega)
        have hgl0 : gateL l u = el l k := by simp [gateL, hci]
        have hset : ∀ f : Nat → Int, (mkC N (doneP l k u) f).set u (f u) = mkC N (doneP l k (u + 1)) f := fun f => mkC_set fun t _ => doneP_step hci t
        have hk127 : inB (el l k).k 0 127 = true := inB_iff.2 w.2.2.2.1
        have ez0 : rowEsz M3 (M.length + 1) = some 1 := by obtain ⟨_, _, _, hh⟩ := hC.r0; simp [rowEsz, hh]
        refine awCall_det' (d := true) (increment_i h3 hb hk127) (Nat.le_refl _) ⟨rfl, ?_⟩
        obtain ⟨M4, p1, hC4, l4, o4⟩ := hC.put0 hbM (i := u) (by rw [mkC_len]; exact huN) (incr x.steps (el l k).k)
        have hv0 : incr x.steps (el l k).k = ctl0 x l u := by unfold ctl0; rw [hgl0]
        rw [hv0, hset] at hC4
        have hbx4 := o4 _ _ (by omega) hbx
        have hgb4 := o4 _ _ (by omega) hgb
        simp (disch := omega) [ez0, huN, p1]
        obtain ⟨o0', o1', o2', oez'⟩ := hC4.cells
        have b4 : cellAt M4 M1.length 4 = some (iv (el l k).u) := by simp [cellAt, hgb4]
        have ez1 : rowEsz M4 (M.length + 2) = some 1 := by obtain ⟨_, _, _, hh⟩ := hC4.r1; simp [rowEsz, hh]
        obtain ⟨M5, p2, hC5, l5, o5⟩ := hC4.put1 hbM (i := u) (by rw [mkC_len]; exact huN) (el l k).u
        have hv1 : (el l k).u = ctl1 x l u := by unfold ctl1; rw [hgl0]
        rw [show (mkC N (doneP l k u) (ctl1 x l)).set u (el l k).u = mkC N (doneP l k (u + 1)) (ctl1 x l) by rw [hv1]; exact hset _] at hC5
        have hbx5 := o5 _ _ (by omega) hbx4
        have hgb5 := o5 _ _ (by omega) hgb4
        refine awDraw_E 6 [[],[0],[1,0],[],[],[4],[2,1,0,3,4,5],[6,2,1,0,3,4,5]] (by kernel_rfl) (by kernel_rfl) ?_
        simp (disch := omega) [t11, t9, t7, huN, wrap_in, o1', oez', b4, ez1, p2]
        have hS5 : Same M.length M M5 := ⟨by have := hS.1; omega, fun i s h1 h2 => o5 i s (by omega) (o4 i s (by omega) (hS.2 i s h1 h2))⟩
        have h5 := instP.keeps h (slt hS5)
        obtain ⟨ps, es, ww, hus, hp, he5, hw5⟩ := h5
        have hpl := patchP.len hp
        have hel := envP.len he5
        have cE : cellsAt M5 M.length 4 3 = some es := by
          simp only [cellsAt, hbx5]
          rw [if_pos (by simp only [hl]; omega), hus]
          simp [hpl, hel, List.drop_append_of_le_length, List.drop_of_length_le, List.take_of_length_le]
        obtain ⟨q0, q1, q2, qez⟩ := hC5.cells
        have c1 : cellAt M5 M1.length 1 = some (iv (el l k).s) := by simp [cellAt, hgb5]
        have c2 : cellAt M5 M1.length 2 = some (iv (el l k).e) := by simp [cellAt, hgb5]
        have ez2 : rowEsz M5 (M.length + 3) = some 1 := by obtain ⟨_, _, _, hh⟩ := hC5.r2; simp [rowEsz, hh]
        have hbe : envB x.env = true := by unfold instB at hb; simp only [Bool.and_eq_true] at hb; exact hb.2.2.2.1
        obtain ⟨M6, p3, hC6, l6, o6⟩ := hC5.put2 hbM (i := u) (by rw [mkC_len]; exact huN) (levelV x.env ((el l k).e - (el l k).s) (u - (el l k).s))
        have hv2 : levelV x.env ((el l k).e - (el l k).s) (u - (el l k).s) = ctl2 x l u := by unfold ctl2; rw [hgl0]
        rw [show (mkC N (doneP l k u) (ctl2 x l)).set u (levelV x.env ((el l k).e - (el l k).s) (u - (el l k).s)) = mkC N (doneP l k (u + 1)) (ctl2 x l) by rw [hv2]; exact hset _] at hC6
        refine awDraw_E 16 [[],[0],[1,0],[],[],[4],[],[6],[],[8],[7,6,9,8],[],[],[12],[11,13,12],[5,4,10,7,6,9,8,14,11,13,12],[2,1,0,3,4,5,6,7,8,9,10,11,12,13,14,15],[16,2,1,0,3,4,5,6,7,8,9,10,11,12,13,14,15]] (by kernel_rfl) (by kernel_rfl) ?_
        simp (disch := omega) [t11, t9, t7, t3, huN, wrap_in, q2, qez, c1, c2, cE]
        refine awCall_det' (d := true) (levelAt_i ((el l k).e - (el l k).s) (u - (el l k).s) he5 hbe (by omega) (by omega) (by omega) (by omega)) (Nat.le_refl _) ⟨rfl, ?_⟩
        simp (disch := omega) [ez2, huN, p3, t11, wrap_in]
        refine lpI (m' - 1) (by omega) ⟨u + 1, by omega, by omega, ⟨by have := hS5.1; omega, fun i s h1 h2 => o6 i s (by omega) (hS5.2 i s h1 h2)⟩, by omega, o6 _ _ (by omega) hbx5, o6 _ _ (by omega) hgb5, hC6, by simp, by simp [t10], by simp [t9], by simp [t21], by simp [t20], by simp [t19], by simp [t7], by simp [t3], by simp [t1], by simp [t2]⟩
      · have hend : ∀ f : Nat → Int, mkC N (doneP l k u) f = mkC N (doneP l (k + 1) 0) f := fun f => mkC_congr fun t ht => doneP_end hs (by omega) ht
        rw [hend, hend, hend] at hC
        simp (disch := omega) [t11, t10, hu, t21, wrap_in]
        refine lpI (m - 1) (by omega) ⟨k + 1, by omega, hS, by omega, hbx, hC, by simp, by simp [t20], by simp [t19], by simp [t7], by simp [t3], by simp [t1], by simp [t2]⟩
  · obtain rfl : k = n := by omega
    have hall : ∀ f : Nat → Int, mkC N (doneP l k 0) f = mkC N (allP l) f := fun f => mkC_congr fun t _ => by rw [← hgl]; exact doneP_all l t
    rw [hall, hall, hall] at hC
    simp [t21, t20, t19, t7]
    exact ⟨⟨_, _, _, _, _, _, hC⟩, hS⟩
end Go.Proofs.Ytimijeeihicohaa

namespace Go.Proofs.Ytimijeeihicohaa
open Go.RowKit
set_option linter.unusedVariables false
set_option linter.unusedSimpArgs false
set_option maxRecDepth 100000
attribute [local simp] List.getElem?_cons_zero
attribute [local irreducible] awCond awCall awLoop awDraw ow retQ retC resQ Keeps
theorem codeV_ok {x : Inst} {l : List Gate} {N : Int} {one : Bool} (h : codeV x l N one = 0) : instB x = true ∧ okG l = true ∧ inB N 0 4000 = true ∧ (one = true → oneB l = true) ∧ playB l = true := by
  unfold codeV at h
  cases h1 : instB x <;> cases h2 : okG l <;> cases h3 : inB N 0 4000 <;> cases h4 : oneB l <;> cases h5 : playB l <;> cases one <;> simp [h1, h2, h3, h4, h5] at h ⊢
/-- What ControlsOf hands back. -/
def CtR (x : Inst) (l : List Gate) (N : Int) (M : Mem) (r : Value) (M' : Mem) : Prop :=
  Same M.length M M' ∧ ((codeV x l N true = 0 ∧ ∃ oid i0 i1 i2 v0 v1 v2, r = .tuple #[.slice (some ⟨oid, 0, none⟩) 3 3, iv 0] ∧ Ctl M' M.length oid i0 i1 i2 v0 v1 v2 (mkC N.toNat (allP l) (ctl0 x l)) (mkC N.toNat (allP l) (ctl1 x l)) (mkC N.toNat (allP l) (ctl2 x l))) ∨
    (codeV x l N true ≠ 0 ∧ r = .tuple #[.slice none 0 0, iv (codeV x l N true)]))
theorem Ctl.low' {M : Mem} {B B' oid i0 i1 i2 : Nat} {v0 v1 v2 : Value} {l0 l1 l2 : List Int} (h : Ctl M B oid i0 i1 i2 v0 v1 v2 l0 l1 l2) (hb : B' ≤ B) : Ctl M B' oid i0 i1 i2 v0 v1 v2 l0 l1 l2 :=
  ⟨Nat.le_trans hb h.low, h.orow, ⟨Nat.le_trans hb h.r0.low, h.r0.row⟩, ⟨Nat.le_trans hb h.r1.low, h.r1.row⟩, ⟨Nat.le_trans hb h.r2.low, h.r2.row⟩, h.apart⟩
theorem ControlsOf_i {M : Mem} {b lo hi : Nat} {us : List Value} {x : Inst} {A : Option Addr} {n c : Nat} {l : List Gate} (N : Int) (h : instP.rd lo hi M x us) (hg : Sl gateR M A n l) (hn : n ≤ 1099511627776) (hb : b ≤ M.length) :
    Ctr Try.prog b 22 [.agg us.toArray, .slice A n c, iv N] M fun r M' => CtR x l N M r M' := by
  have hl := instP.len h
  have ht : us.take 8 = us := List.take_of_length_le (by omega)
  first | (refine ctr_fn Try.func22 rfl Try.ntmps22 Try.results22 rfl rfl (by simp) ?_) | (refine ctr_fnC Try.func22 rfl Try.ntmps22 Try.results22 rfl (by simp) ?_)
  simp [hl, ht]
  refine awCall_det' (gatesCode_i N true (instP.app h _) (hg.keeps (keeps_app _)) hn) (by simp <;> omega) ?_
  by_cases hc : codeV x l N true = 0
  · obtain ⟨e1, e2, e3, e4, e5⟩ := codeV_ok hc
    have k3 := inB_iff.1 e3
    obtain ⟨K, rfl⟩ := Int.eq_ofNat_of_zero_le k3.1
    simp [hc, hl, ht]
    refine awCall_ctr (controls_i (instP.app h _) e1 (hg.keeps (keeps_app _)) e2 (by omega) (by simp <;> omega)) ?_
    rintro _ M' ⟨oid, i0, i1, i2, v0, v1, v2, rfl, hC, hS⟩
    try simp
    exact ⟨⟨by have := hS.1; simp at this; omega, fun i s h1 h2 => hS.2 i s (by simp; omega) ((keeps_app _).get h2)⟩, .inl ⟨hc, _, _, _, _, _, _, _, rfl, hC.low' (by simp)⟩⟩
  · simp [hc]
    exact ⟨⟨by simp, fun i s _ h2 => (keeps_app _).get h2⟩, .inr ⟨hc, rfl⟩⟩
end Go.Proofs.Ytimijeeihicohaa

namespace Go.Proofs.Ytimijeeihicohaa
open Go.RowKit
set_option linter.unusedVariables false
set_option linter.unusedSimpArgs false
set_option maxRecDepth 100000
attribute [local simp] List.getElem?_cons_zero
attribute [local irreducible] awCond awCall awLoop awDraw ow retQ retC resQ Keeps
theorem OwL.sl {α : Type} {k : Nat} {R : RecV α k} {lo hi : Nat} {M : Mem} {v : Value} {l : List α} (h : OwL R lo hi M v l) : ∃ A n c, v = .slice A n c ∧ Sl R M A n l := by
  obtain ⟨A, n, c, rfl, h2, h3, _⟩ := h
  exact ⟨A, n, c, rfl, h3⟩
theorem LevelAt_s {M : Mem} {lo hi : Nat} {us : List Value} {e : Envl} (gate a : Int) (h : envP.rd lo hi M e us) (hb : envB e = true) (h1 : 0 ≤ gate) (h2 : gate ≤ 4000) (h3 : 0 ≤ a) (h4 : a ≤ 4000) : Det Try.prog M.length 24 [.agg us.toArray, iv gate, iv a] M (.tuple #[iv (levelV e gate a), iv 0]) M := by
  have hl := envP.len h
  have ht : us.take 3 = us := List.take_of_length_le (by omega)
  have hcl : ∀ L : Mem, Cl (M ++ [.live ⟨us, true, true, 51, 3⟩] ++ L) M.length 0 us := fun L j x hx => by
    refine cellAt_keeps (keeps_app L) ?_
    simp [cellAt, hx]
  have hcl0 : Cl (M ++ [.live ⟨us, true, true, 51, 3⟩]) M.length 0 us := by simpa using hcl []
  have i1 : inB gate 0 1000000000 = true := inB_iff.2 (by omega)
  have i2 : inB a 0 1000000000 = true := inB_iff.2 (by omega)
  first | (refine det_fn Try.func24 rfl Try.ntmps24 Try.results24 rfl rfl rfl (by simp) ?_) | (refine det_fnC Try.func24 rfl Try.ntmps24 Try.results24 rfl rfl (by simp) ?_)
  simp [hl, ht]
  refine awCall_det' (l14Ok_s (envP.app h _) hcl0) (by simp) ?_
  simp [hb]
  refine awCall_det' (l00In_a gate 0 1000000000) (by simp) ?_
  simp [i1]
  refine awCall_det' (l00In_a a 0 1000000000) (by simp) ?_
  simp [i2]
  refine awCall_det' (l14At_s gate a (envP.app h _) hcl0 hb h1 h2 h3 h4) (by simp) ?_
  simp [keeps_app]
theorem mkC_at' {n t : Nat} {p : Nat → Bool} {f : Nat → Int} (h : t < n) : el (mkC n p f) t = if p t = true then f t else 0 := by
  simp [el, mkC, h]
theorem cellI {M : Mem} {id t : Nat} {l : List Int} {o b : Bool} {e : TypeId} {z : Nat} (h : M[id]? = some (.live ⟨cellsL intR l, o, b, e, z⟩)) (ht : t < l.length) : cellAt M id t = some (iv (el l t)) := by
  have := cellsL_get intR (l := l) (i := t) (j := 0) ht (by omega)
  rw [Nat.mul_one, Nat.add_zero] at this
  rw [cell_hr h, this]
  rfl
set_option maxHeartbeats 4000000 in
theorem lawControls_a {M : Mem} {A B : Option Addr} {n c m d : Nat} {cs ds : List Int} (h : Sl codeR M A n cs) (hcs : ∀ x, x ∈ cs → 0 ≤ x ∧ x ≤ 255) (h2 : Sl codeR M B m ds) (hds : ∀ x, x ∈ ds → 0 ≤ x ∧ x ≤ 255) :
    Det Try.prog M.length 5 [.slice A n c, .slice B m d] M (.bool true) M := by
  have K0 := Keeps.refl M
  by_cases hlong : (decide (1048576 < n) || decide (1048576 < m)) = true
  · first | (refine det_fn Try.func5 rfl Try.ntmps5 Try.results5 rfl rfl rfl (by simp) ?_) | (refine det_fnC Try.func5 rfl Try.ntmps5 Try.results5 rfl rfl (by simp) ?_)
    simp
    refine awCall_det' v8Long_a (by omega) ?_
    simp [hlong, K0]
  have hn : n ≤ 1048576 := by simp at hlong; omega
  have hm : m ≤ 1048576 := by simp at hlong; omega
  simp only [Bool.not_eq_true] at hlong
  first | (refine det_fn Try.func5 rfl Try.ntmps5 Try.results5 rfl rfl rfl (by simp) ?_) | (refine det_fnC Try.func5 rfl Try.ntmps5 Try.results5 rfl rfl (by simp) ?_)
  simp
  refine awCall_det' v8Long_a (by omega) ?_
  simp [hlong]
  refine awCall_ctr (E8Instrument_b h hn hcs) ?_
  rintro r M1 ⟨x, us, rfl, hx, hu8, hu1, hxB, k1⟩
  have n1 := k1.len
  obtain ⟨q, hq⟩ : ∃ q, q = M1.length := ⟨_, rfl⟩
  have qp := put_box (b := M.length) (M := M1) (t := true) (e := 53) (z := 8) (cs := [iv 0, .slice none 0 0, .slice none 0 0, .slice none 0 0, iv 0, .slice none 0 0, iv 0, .slice none 0 0]) (vs := us) (by omega) (by simpa using hu8) hu1
  have ht : us.take 8 = us := List.take_of_length_le (by omega)
  simp [hu8, ht, qp]
  obtain ⟨M2, hM2⟩ : ∃ M2, M2 = M1 ++ [Slot.live ⟨us, true, true, 53, 8⟩] := ⟨_, rfl⟩
  rw [← hM2, ← hq]
  have K2 : Keeps M M2 := by rw [hM2]; exact k1.trans (keeps_app _)
  have b2 : M2[q]? = some (.live ⟨us, true, true, 53, 8⟩) := by rw [hM2, hq]; exact getElem?_snoc_eq
  have hx2 : instP.rd M.length q M2 x us := by rw [hM2, hq]; exact instP.app hx _
  have n2 : M2.length = q + 1 := by rw [hM2, hq]; simp
  clear hM2 hx qp
  refine awCall_ctr ((E8Gates_a (h2.keeps K2) hm hds).weaken (by omega)) ?_
  rintro r M3 ⟨gl, r3, k3, hgl, hD⟩
  have n3 := k3.len
  obtain ⟨A3, n3', c3, rfl, s3⟩ := r3.sl
  try simp
  refine awCall_ctr ((AllocateVoices_s 1 s3 (by have := s3.1; omega)).weaken (by omega)) ?_
  rintro r M4 ⟨w0, rfl, r4, k4⟩
  have n4 := k4.len
  obtain ⟨y, hG⟩ := hD.alloc (V := 1) (by omega)
  have hal : alV gl 1 = ((allocP 1 gl).1, (allocP 1 gl).2, 0) := by
    have hV : inB 1 1 4 = true := by decide
    unfold alV
    rw [hD.ok hgl, hV, show (1 : Int).toNat = 1 from rfl]
    rfl
  have hlen := (allocP_len 1 gl ([], 0)).1
  have hvo := alloc_voices (V := 1) (by omega) gl
  rw [hal] at r4
  replace r4 : OwL gateR M3.length M4.length M4 w0 (allocP 1 gl).1 := r4
  replace hlen : (allocP 1 gl).1.length ≤ gl.length := by simpa [allocP] using hlen
  try simp [hal]
  generalize (allocP 1 gl).1 = out at r4 hG hlen hvo
  have K4 := (K2.trans k3).trans k4
  refine awCall_ctr ((v8At_a 0 60 (h2.keeps K4) hds (by omega) (by omega) hm).weaken (by omega)) ?_
  rintro r M5 ⟨rfl, N, rfl, N0, N1⟩
  have b5 := (k3.trans k4).get b2
  have c5 := cells_hr (n := 8) b5 hu8.symm
  simp only at c5
  have hx5 := instP.keeps (instP.keeps hx2 k3) k4
  obtain ⟨A5, n5', c5', rfl, s5⟩ := r4.sl
  have hl5 := s5.1
  try simp
  try simp [c5, hu8, ht]
  refine awCall_ctr (ControlsOf_i N hx5 s5 (by omega) (by omega)) ?_
  rintro r M6 ⟨S6, hR⟩
  obtain ⟨K, rfl⟩ := Int.eq_ofNat_of_zero_le N0
  have hok : okG out = true := hG.ok (by omega)
  have hone : oneB out = true := by
    unfold oneB
    rw [List.all_eq_true]
    intro z hz
    obtain ⟨i, hi, rfl⟩ := List.getElem_of_mem hz
    rw [el_eq hi]
    have a1 := hvo i hi
    have a2 := hvo 0 (by omega)
    have a3 := (gateB_iff.1 (hG.gate i hi)).1.1
    have a4 := (gateB_iff.1 (hG.gate 0 (by omega))).1.1
    exact decide_eq_true (by omega)
  have hcode : codeV x out K true = 0 := by
    have hN : inB (K : Int) 0 4000 = true := inB_iff.2 (by omega)
    unfold codeV
    simp [hxB, hok, hN, hone, hG.playB]
  obtain ⟨_, oid, i0, i1, i2, v0, v1, v2, rfl, hC⟩ := hR.resolve_right fun h => h.1 hcode
  rw [Int.toNat_natCast] at hC
  obtain ⟨o0, o1, o2, oe⟩ := hC.cells
  obtain ⟨_, t0, d0, e0, w0⟩ := hC.r0
  obtain ⟨_, t1, d1, e1, w1⟩ := hC.r1
  obtain ⟨_, t2, d2, e2, w2⟩ := hC.r2
  rw [mkC_len] at e0 e1 e2
  have K56 : Keeps M5 M6 := S6.keeps (Keeps.refl _) (Nat.le_refl _)
  have K6 := K4.trans K56
  have b6 := K56.get b5
  have hx6 := instP.keeps hx5 K56
  have s6 := s5.keeps K56
  have n6 := K56.len
  have c6 := cells_hr (n := 8) b6 hu8.symm
  simp only at c6
  obtain ⟨ps, es, su, hue, hp, he, hsu⟩ := id hx6
  subst hue
  have e8 : cellsAt M6 q 4 3 = some es := by
    have hpl := patchP.len hp
    have hel := envP.len he
    unfold cellsAt
    rw [b6]
    simp only [List.length_append, List.length_singleton, hpl, hel]
    rw [if_pos (by omega), List.append_assoc, ← hpl, List.drop_left, ← hel, List.take_left]
  subst e0; subst e1; subst e2
  simp (disch := omega) [o0, o1, o2, oe]
  have hsort := okG_sorted hok
  have z0 : rowEsz M6 i0 = some 1 := by simp [rowEsz, w0]
  have z1 : rowEsz M6 i1 = some 1 := by simp [rowEsz, w1]
  have z2 : rowEsz M6 i2 = some 1 := by simp [rowEsz, w2]
  have w0' : ∀ t, t < K → cellAt M6 i0 t = some (iv (if allP out t = true then ctl0 x out t else 0)) := fun t ht => by rw [cellI w0 (by rw [mkC_len]; exact ht), mkC_at' ht]
  have w1' : ∀ t, t < K → cellAt M6 i1 t = some (iv (if allP out t = true then ctl1 x out t else 0)) := fun t ht => by rw [cellI w1 (by rw [mkC_len]; exact ht), mkC_at' ht]
  have w2' : ∀ t, t < K → cellAt M6 i2 t = some (iv (if allP out t = true then ctl2 x out t else 0)) := fun t ht => by rw [cellI w2 (by rw [mkC_len]; exact ht), mkC_at' ht]
  refine awLoop_T (fun m T M' => ∃ t : Nat, t + m = K ∧ M' = M6 ∧ look T 12 = some (iv t) ∧ look T 10 = some (.slice (some ⟨oid, 0, none⟩) 3 3) ∧ look T 9 = some (iv K) ∧ look T 6 = some (.slice A5 n5' c5') ∧ look T 5 = some (.pointer (some ⟨q, 0, none⟩))) K ⟨0, by omega, rfl, by simp, by simp, by simp, by simp, by simp⟩ ?_
  rintro m T M7 ⟨t, ht, rfl, f12, f10, f9, f6, f5⟩
  rcases m with _ | m
  · have e : ¬ (t : Int) < K := by omega
    have e' : ¬ t < K := by omega
    simp (disch := omega) [f12, f9, e, e', K6]
  have e : (t : Int) < K := by omega
  have e' : t < K := by omega
  have cle := cidx_le out t
  simp (disch := omega) [f12, f9, e, e']
  refine awLoop_T (fun m' T M' => ∃ j : Nat, j + m' = n5' ∧ M' = M7 ∧ look T 14 = some (iv j) ∧ look T 13 = some (iv ((min j (cidx out t) : Nat) - 1)) ∧ look T 12 = some (iv t) ∧ look T 10 = some (.slice (some ⟨oid, 0, none⟩) 3 3) ∧ look T 9 = some (iv K) ∧ look T 6 = some (.slice A5 n5' c5') ∧ look T 5 = some (.pointer (some ⟨q, 0, none⟩))) n5' ⟨0, by omega, rfl, by simp, by simp, by simp [f12], by simp [f10], by simp [f9], by simp [f6], by simp [f5]⟩ ?_
  rintro m' T' M8 ⟨j, hj, rfl, g14, g13, g12, g10, g9, g6, g5⟩
  rcases m' with _ | m'
  · have ej : ¬ (j : Int) < n5' := by omega
    have ej' : ¬ j < n5' := by omega
    have emin : min j (cidx out t) = cidx out t := by omega
    rw [emin] at g13
    by_cases c0 : cidx out t = 0
    · have hall : allP out t = false := by unfold allP; simp [c0]
      have a0 := w0' t e'
      have a1 := w1' t e'
      have a2 := w2' t e'
      simp only [hall, Bool.false_eq_true, if_false] at a0 a1 a2
      rw [c0] at g13
      replace g13 : look T' 13 = some (iv (-1)) := by rw [g13]; rfl
      simp (disch := omega) [g14, g6, ej, ej', g13, g10, g12, o0, o1, o2, oe, z0, z1, z2, a0, a1, a2, e, e', wrap_in]
      exact lpI m (by omega) ⟨t + 1, by omega, rfl, by simp, by simp [g10], by simp [g9], by simp [g6], by simp [g5]⟩
    · have hall : allP out t = true := by unfold allP; simp; omega
      have a0 := w0' t e'
      have a1 := w1' t e'
      have a2 := w2' t e'
      simp only [hall, if_true] at a0 a1 a2
      have hlt : ¬ ((cidx out t : Nat) : Int) - 1 < 0 := by omega
      obtain ⟨kk, hkk⟩ : ∃ kk, cidx out t = kk + 1 := ⟨cidx out t - 1, by omega⟩
      rw [hkk] at g13
      replace g13 : look T' 13 = some (iv kk) := by rw [g13]; congr 1; simp
      have hg : gateL out t = el out kk := by unfold gateL; rw [hkk]; rfl
      have hk5 : kk < n5' := by omega
      have hk5' : (kk : Int) < n5' := by omega
      have hkn : ¬ (kk : Int) < 0 := by omega
      obtain ⟨gid, goff, ge, gesz, gcl⟩ := s6.at_ hk5
      subst ge
      have g0 : cellAt M8 gid (goff + kk * 5 + 1) = some (iv (el out kk).s) := gcl 1 _ rfl
      have g1 : cellAt M8 gid (goff + kk * 5 + 2) = some (iv (el out kk).e) := gcl 2 _ rfl
      have g2 : cellAt M8 gid (goff + kk * 5 + 3) = some (iv (el out kk).k) := gcl 3 _ rfl
      have g3 : cellAt M8 gid (goff + kk * 5 + 4) = some (iv (el out kk).u) := gcl 4 _ rfl
      have hgb := gateB_iff.1 (hG.gate kk (by omega))
      have hst := (cidx_lt hsort (t := t) (k := kk) (by omega)).1 (by omega)
      have hinc : incV x (el out kk).k = (incr x.steps (el out kk).k, 0) := by
        have : inB (el out kk).k 0 127 = true := inB_iff.2 (by omega)
        unfold incV
        rw [hxB, this]
        rfl
      have hEB : envB x.env = true := by
        unfold instB at hxB
        simp only [Bool.and_eq_true] at hxB
        exact hxB.2.2.2.1
      simp only [ctl0, ctl1, ctl2, hg] at a0 a1 a2
      simp (disch := omega) [g14, g6, ej, ej', g13, hkn]
      refine awDraw_E 11 [[],[],[],[1,2],[3,1,2],[4,3,1,2],[0,5,4,3,1,2],[6,0,5,4,3,1,2],[7,6,0,5,4,3,1,2],[7,6,0,5,4,3,1,2],[8,7,6,0,5,4,3,1,2],[9,7,6,0,5,4,3,1,2,10,8]] (by kernel_rfl) (by kernel_rfl) ?_
      simp (disch := omega) [g5, g6, g13, c6, hk5, hk5', gesz, g2]
      refine awCall_det' (IncrementOf_i (el out kk).k (by rw [← List.append_assoc]; exact hx6)) (by omega) ?_
      simp [hinc]
      refine awDraw_E 25 [[],[0],[],[],[2,3],[4,2,3],[5,4,2,3],[],[],[7,8],[9,7,8],[10,9,7,8],[6,5,4,2,3,11,10,9,7,8],[],[],[],[14,15],[16,14,15],[17,16,14,15],[13,18,17,16,14,15],[1,0,12,6,5,4,2,3,11,10,9,7,8,19,13,18,17,16,14,15],[20,1,0,12,6,5,4,2,3,11,10,9,7,8,19,13,18,17,16,14,15],[21,20,1,0,12,6,5,4,2,3,11,10,9,7,8,19,13,18,17,16,14,15],[21,20,1,0,12,6,5,4,2,3,11,10,9,7,8,19,13,18,17,16,14,15],[22,21,20,1,0,12,6,5,4,2,3,11,10,9,7,8,19,13,18,17,16,14,15],[23,21,20,1,0,12,6,5,4,2,3,11,10,9,7,8,19,13,18,17,16,14,15,24,22]] (by kernel_rfl) (by kernel_rfl) ?_
      simp (disch := omega) [g5, g6, g12, g13, e8, hk5, hk5', gesz, g0, g1, wrap_in]
      refine awCall_det' (LevelAt_s ((el out kk).e - (el out kk).s) (t - (el out kk).s) he hEB (by omega) (by omega) (by omega) (by omega)) (by omega) ?_
      simp
      refine awDraw_E 38 [[],[0],[1,0],[2,1,0],[3,2,1,0],[2,1,0,4,3],[5,2,1,0,4,3],[6,5,2,1,0,4,3],[7,6,5,2,1,0,4,3],[8,7,6,5,2,1,0,4,3],[6,5,2,1,0,4,3],[9,8,7,6,5,2,1,0,4,3,10],[11,9,8,7,6,5,2,1,0,4,3,10],[6,5,2,1,0,4,3],[12,11,9,8,7,6,5,2,1,0,4,3,10,13],[6,5,2,1,0,4,3,14,12,11,9,8,7,10,13],[15,6,5,2,1,0,4,3,14,12,11,9,8,7,10,13],[16,15,6,5,2,1,0,4,3,14,12,11,9,8,7,10,13],[17,16,15,6,5,2,1,0,4,3,14,12,11,9,8,7,10,13],[18,17,16,15,6,5,2,1,0,4,3,14,12,11,9,8,7,10,13],[16,15,6,5,2,1,0,4,3,14,12,11,9,8,7,10,13],[19,18,17,16,15,6,5,2,1,0,4,3,14,12,11,9,8,7,10,13,20],[21,19,18,17,16,15,6,5,2,1,0,4,3,14,12,11,9,8,7,10,13,20],[16,15,6,5,2,1,0,4,3,14,12,11,9,8,7,10,13],[16,15,6,5,2,1,0,4,3,14,12,11,9,8,7,10,13],[23,16,15,6,5,2,1,0,4,3,14,12,11,9,8,7,10,13,24],[25,23,16,15,6,5,2,1,0,4,3,14,12,11,9,8,7,10,13,24],[26,25,23,16,15,6,5,2,1,0,4,3,14,12,11,9,8,7,10,13,24],[22,21,19,18,17,16,15,6,5,2,1,0,4,3,14,12,11,9,8,7,10,13,20,27,26,25,23,24],[16,15,6,5,2,1,0,4,3,14,12,11,9,8,7,10,13,28,22,21,19,18,17,20,27,26,25,23,24],[29,16,15,6,5,2,1,0,4,3,14,12,11,9,8,7,10,13,28,22,21,19,18,17,20,27,26,25,23,24],[30,29,16,15,6,5,2,1,0,4,3,14,12,11,9,8,7,10,13,28,22,21,19,18,17,20,27,26,25,23,24],[31,30,29,16,15,6,5,2,1,0,4,3,14,12,11,9,8,7,10,13,28,22,21,19,18,17,20,27,26,25,23,24],[32,31,30,29,16,15,6,5,2,1,0,4,3,14,12,11,9,8,7,10,13,28,22,21,19,18,17,20,27,26,25,23,24],[30,29,16,15,6,5,2,1,0,4,3,14,12,11,9,8,7,10,13,28,22,21,19,18,17,20,27,26,25,23,24],[33,32,31,30,29,16,15,6,5,2,1,0,4,3,14,12,11,9,8,7,10,13,28,22,21,19,18,17,20,27,26,25,23,24,34],[35,33,32,31,30,29,16,15,6,5,2,1,0,4,3,14,12,11,9,8,7,10,13,28,22,21,19,18,17,20,27,26,25,23,24,34],[30,29,16,15,6,5,2,1,0,4,3,14,12,11,9,8,7,10,13,28,22,21,19,18,17,20,27,26,25,23,24],[36,35,33,32,31,30,29,16,15,6,5,2,1,0,4,3,14,12,11,9,8,7,10,13,28,22,21,19,18,17,20,27,26,25,23,24,34,37],[30,29,16,15,6,5,2,1,0,4,3,14,12,11,9,8,7,10,13,28,22,21,19,18,17,20,27,26,25,23,24,38,36,35,33,32,31,34,37]] (by kernel_rfl) (by kernel_rfl) ?_
      simp (disch := omega) [g5, g6, g10, g12, g13, o0, o1, o2, oe, z0, z1, z2, a0, a1, a2, e, e', hk5, hk5', gesz, g3, wrap_in]
      exact lpI m (by omega) ⟨t + 1, by omega, rfl, by simp, by simp [g10], by simp [g9], by simp [g6], by simp [g5]⟩
  · have ej : (j : Int) < n5' := by omega
    have ej' : j < n5' := by omega
    obtain ⟨gid, goff, ge, gesz, gcl⟩ := s6.at_ ej'
    have gs : cellAt M8 gid (goff + j * 5 + 1) = some (iv (el out j).s) := gcl 1 _ rfl
    subst ge
    have hc := cidx_lt hsort (t := t) (k := j) (by omega)
    by_cases hst : (el out j).s ≤ t
    · have := hc.2 hst
      simp (disch := omega) [g14, g6, ej, ej', g12, gesz, gs, hst, wrap_in]
      refine lpI m' (by omega) ⟨j + 1, by omega, rfl, by simp, by simp; omega, by simp [g12], by simp [g10], by simp [g9], by simp [g6], by simp [g5]⟩
    · have : ¬ j < cidx out t := fun h => hst (hc.1 h)
      simp (disch := omega) [g14, g6, ej, ej', g12, gesz, gs, hst, wrap_in]
      refine lpI m' (by omega) ⟨j + 1, by omega, rfl, by simp, ?_, by simp [g12], by simp [g10], by simp [g9], by simp [g6], by simp [g5]⟩
      have e1 : min (j + 1) (cidx out t) = min j (cidx out t) := by omega
      rw [e1]
      simp [g13]
end Go.Proofs.Ytimijeeihicohaa
