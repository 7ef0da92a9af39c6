/- The law of the voices is walked. No conditions. -/
import Derived.Test.YtdcfofaojalilaaG15
import Derived.Test.YtdcfofaojalilaaG16
namespace Go.Proofs.Ytdcfofaojalilaa
open Go.RowKit
set_option linter.unusedVariables false
set_option linter.unusedSimpArgs false
set_option maxRecDepth 100000
attribute [local simp] List.getElem?_cons_zero
attribute [local irreducible] awCond awCall awLoop awDraw ow retQ retC resQ Keeps
theorem DrG.ord {l : List Gate} {x : Int} (h : DrG l x) : OrdG l x := by
  refine ⟨fun g hg => ?_, List.pairwise_iff_getElem.2 fun i j hi hj hij => ?_⟩
  · obtain ⟨i, hi, rfl⟩ := List.getElem_of_mem hg
    rw [el_eq hi]
    exact h.1 i hi
  · rw [el_eq hi, el_eq hj]
    have : ∀ d, i + d < l.length → (el l i).s ≤ (el l (i + d)).s := fun d => by
      induction d with
      | zero => exact fun _ => Int.le_refl _
      | succ d ih => exact fun hd => Int.le_trans (ih (by omega)) (h.2 (i + (d + 1)) (by omega) hd)
    have := this (j - i) (by omega)
    rwa [show i + (j - i) = j by omega] at this
set_option maxHeartbeats 4000000 in
theorem lawVoices_a {M : Mem} {A B : Option Addr} {n c m d : Nat} {cs ds : List Int} (h : Sl codeR M A n cs) (hcs : ∀ x, x ∈ cs → 0 ≤ x ∧ x ≤ 255) (h2 : Sl codeR M B m ds) (hds : ∀ x, x ∈ ds → 0 ≤ x ∧ x ≤ 255) :
    Det Try.prog M.length 10 [.slice A n c, .slice B m d] M (.bool true) M := by
  have K0 := Keeps.refl M
  by_cases hlong : (decide (1048576 < n) || decide (1048576 < m)) = true
  · first | (refine det_fn Try.func10 rfl Try.ntmps10 Try.results10 rfl rfl rfl (by simp) ?_) | (refine det_fnC Try.func10 rfl Try.ntmps10 Try.results10 rfl rfl (by simp) ?_)
    simp
    refine awCall_det' v8Long_a (by omega) ?_
    simp [hlong, K0]
  have hn : n ≤ 1048576 := by simp at hlong; omega
  have hm : m ≤ 1048576 := by simp at hlong; omega
  simp only [Bool.not_eq_true] at hlong
  first | (refine det_fn Try.func10 rfl Try.ntmps10 Try.results10 rfl rfl rfl (by simp) ?_) | (refine det_fnC Try.func10 rfl Try.ntmps10 Try.results10 rfl rfl (by simp) ?_)
  simp
  refine awCall_det' v8Long_a (by omega) ?_
  simp [hlong]
  refine awCall_ctr (E8Gates_a h hn hcs) ?_
  rintro r M1 ⟨l, r1, k1, hl, hD⟩
  have n1 := k1.len
  try simp (disch := omega) [wrap_in]
  refine awCall_ctr ((v8At_a 0 4 (h2.keeps k1) hds (by omega) (by omega) hm).weaken (by omega)) ?_
  rintro r' M2 ⟨rfl, V, rfl, v0, v1⟩
  simp (disch := omega) [wrap_in]
  refine awCall_ctr ((AllocateVoices_il r1.rd (1 + V) (by omega)).weaken (by omega)) ?_
  rintro _ M3 ⟨w0, rfl, r2, k2⟩
  have n2 := k2.len
  obtain ⟨V', rfl⟩ := Int.eq_ofNat_of_zero_le v0
  have hO := hD.ord
  have hG := alloc_good (V := 1 + V') (by omega) l 4000 hO
  have hal : alV l (1 + (V' : Int)) = ((allocP (1 + V') l).1, (allocP (1 + V') l).2, 0) := by
    have hV : inB (1 + (V' : Int)) 1 4 = true := inB_iff.2 (by omega)
    unfold alV
    rw [hD.ok hl, hV, show (1 + (V' : Int)).toNat = 1 + V' by omega]
    rfl
  have hlen := allocP_len (1 + V') l ([], 0)
  have hmore := alloc_more (1 + V') l
  have hiff := alloc_iff (V := 1 + V') (by omega) hO
  have hemb := alloc_emb (V := 1 + V') (by omega) l 4000 hO
  have hvo := alloc_voices (V := 1 + V') (by omega) l
  have hwh := alloc_whole (V := 1 + V') (l := l)
  have hneed := need_f hO 4 1 (by omega) (by omega) (.inr rfl)
  rw [hal] at r2
  replace r2 : OwL gateR M2.length M3.length M3 w0 (allocP (1 + V') l).1 := r2
  replace hlen : (allocP (1 + V') l).1.length ≤ l.length ∧ 0 ≤ (allocP (1 + V') l).2 ∧ (allocP (1 + V') l).2 ≤ l.length := by simpa [allocP] using hlen
  simp [hal]
  generalize (allocP (1 + V') l).1 = out at r2 hG hlen hmore hemb hvo hwh
  generalize (allocP (1 + V') l).2 = sh at hlen hmore hiff hwh ⊢
  have K3 := k1.trans k2
  replace r1 := r1.keeps k2
  have hpl : polyV l = (polyN l l, 0) := by unfold polyV; rw [hD.ok hl]; rfl
  have hnv : needV l = if polyN l l > 4 then (0, 3) else (if polyN l l = 0 then 1 else polyN l l, 0) := by unfold needV; rw [hD.ok hl, ← hneed]; rfl
  have hpb : 0 ≤ polyN l l ∧ polyN l l ≤ l.length := polyN_bd l l 0 (Int.le_refl _) (by omega)
  clear hal k1 k2 h2 h
  refine awCall_det' (PolyphonyOf_il r1.rd (by omega)) (by omega) ?_
  simp (disch := omega) [hpl, wrap_in]
  generalize hP : polyN l l = P at *
  refine awCall_det' (ArePlayable_sl r2.rd (by omega)) (by omega) ?_
  obtain ⟨lo1, hi1, r1⟩ : ∃ lo hi, OwL gateR lo hi M3 r l := ⟨_, _, r1⟩
  obtain ⟨A1, q1, c1, rfl, hq1, hS1, hA1, -⟩ := id r1
  obtain ⟨A2, q2, c2, rfl, hq2, hS2, hA2, -⟩ := id r2
  have hl1 := hS1.1
  have hl2 := hS2.1
  have hok : okG out = true := hG.ok (by omega)
  have a1 : ¬ (q1 : Int) < q2 := by omega
  have a2 : ¬ sh < 0 := by omega
  have a3 : ¬ (q1 : Int) < sh := by omega
  have a4 : ¬ sh < (q1 : Int) - q2 := by omega
  simp (disch := omega) [hG.playB, hok, wrap_in, a1, a2, a3, a4]
  have hemb0 : Emb (out.drop 0) (l.drop 0) := hemb
  have hcase : (P ≤ 1 + (V' : Int) ∧ sh = 0 ∧ q2 = q1) ∨ (¬ P ≤ 1 + (V' : Int) ∧ sh ≠ 0) := by
    by_cases hp : P ≤ 1 + (V' : Int)
    · have := hiff.1 (by omega)
      exact .inl ⟨hp, this, by have := hwh this; omega⟩
    · exact .inr ⟨hp, fun h => hp (by have := hiff.2 h; omega)⟩
  have fin : ∀ M' : Mem, M' = M3 → M3 = M' := fun _ e => e.symm
  have nxt : ∀ i at_ : Nat, i < q2 → at_ < q1 → Emb (out.drop i) (l.drop at_) → (From (el out i) (el l at_) ∧ Emb (out.drop (i + 1)) (l.drop (at_ + 1))) ∨ (¬ From (el out i) (el l at_) ∧ Emb (out.drop i) (l.drop (at_ + 1))) := by
    intro i at_ hi ha hE
    rw [drop_el (l := out) (i := i) (by omega), drop_el (l := l) (i := at_) (by omega)] at hE
    by_cases hf : From (el out i) (el l at_)
    · refine .inl ⟨hf, ?_⟩
      cases hE with
      | skip _ h => exact h.drop1 rfl
      | take _ h => exact h
    · refine .inr ⟨hf, ?_⟩
      rw [drop_el (l := out) (i := i) (by omega)]
      cases hE with
      | skip _ h => exact h
      | take h _ => exact absurd h hf
  have noend : ∀ i : Nat, i < q2 → ¬ Emb (out.drop i) (l.drop q1) := by
    intro i hi hE
    rw [drop_el (l := out) (i := i) (by omega), List.drop_of_length_le (l := l) (i := q1) (by omega)] at hE
    cases hE
  have hN : (4 < P → needV l = (0, 3)) ∧ (¬ 4 < P → P = 0 → needV l = (1, 0)) ∧ (¬ 4 < P → P ≠ 0 → needV l = (P, 0)) := by
    refine ⟨fun h => by rw [hnv, if_pos h], fun h h0 => by rw [hnv, if_neg h, if_pos h0], fun h h0 => by rw [hnv, if_neg h, if_neg h0]⟩
  clear hiff hwh hneed hemb hpl hnv hmore hD hO
  rcases hcase with ⟨p1, p2, p3⟩ | ⟨p1, p2⟩
  case' inl => have p4 : ¬ (1 + (V' : Int) < P) := by omega
  case' inl => simp [p1, p2, p3, p4]
  case' inr => have p4 : 1 + (V' : Int) < P := by omega
  case' inr => simp [p1, p2, p4]
  all_goals
    refine awLoop_T (fun k T M' => ∃ i at_ : Nat, i + k = q2 ∧ at_ ≤ q1 ∧ M' = M3 ∧ Emb (out.drop i) (l.drop at_) ∧ look T 13 = some (iv i) ∧ look T 12 = some (iv at_) ∧ look T 7 = some (.slice A2 q2 c2) ∧ look T 5 = some (.slice A1 q1 c1) ∧ look T 6 = some (iv (1 + V')) ∧ look T 10 = some (iv P)) q2 ⟨0, 0, by omega, by omega, rfl, hemb0, by simp, by simp, by simp [*], by simp, by simp, by simp⟩ ?_
    rintro k T M4 ⟨i, at_, hik, hat, rfl, hE, e13, e12, e7, e5, e6, e10⟩
    by_cases hi : i < q2
    · simp (disch := omega) [e13, e12, e7, e5, e6, e10, hi]
      refine awLoop_T (fun k' T M' => ∃ at_ : Nat, at_ + k' = q1 ∧ M' = M4 ∧ Emb (out.drop i) (l.drop at_) ∧ look T 13 = some (iv i) ∧ look T 12 = some (iv at_) ∧ look T 7 = some (.slice A2 q2 c2) ∧ look T 5 = some (.slice A1 q1 c1) ∧ look T 6 = some (iv (1 + V')) ∧ look T 10 = some (iv P)) (q1 - at_) ⟨at_, by omega, rfl, hE, by simp [e13], by simp [e12], by simp [e7], by simp [e5], by simp [e6], by simp [e10]⟩ ?_
      clear e13 e12 e7 e5 e6 e10 hE T
      rintro k' T M5 ⟨at2, hk', rfl, hE, e13, e12, e7, e5, e6, e10⟩
      by_cases ha : at2 < q1
      · obtain ⟨id1, off1, eA1, he1, hc1⟩ := hS1.at_ ha
        obtain ⟨x0, x1, x2, x3, x4⟩ := gate_cells hc1
        obtain ⟨id2, off2, eA2, he2, hc2⟩ := hS2.at_ hi
        obtain ⟨y0, y1, y2, y3, y4⟩ := gate_cells hc2
        rw [eA1] at e5
        rw [eA2] at e7
        rcases nxt i at2 hi ha hE with ⟨hf, hE2⟩ | ⟨hf, hE2⟩
        · obtain ⟨f1, f2, f3, f4⟩ := hf
          have f4' : ¬ (el l at2).e < (el out i).e := by omega
          have hv := hvo i (by omega)
          have hv' : ¬ 1 + (V' : Int) ≤ (el out i).o := by omega
          have ha' : ¬ q1 ≤ at2 := by omega
          simp
          refine awDraw_E 53 [[],[],[1],[0,2,1],[3,0,2,1],[4,3,0,2,1],[4,3,0,2,1],[5,4,3,0,2,1,6],[7,5,4,3,0,2,1,6],[8,7,5,4,3,0,2,1,6],[4,3,0,2,1],[4,3,0,2,1],[10,4,3,0,2,1,11],[12,10,4,3,0,2,1,11],[13,12,10,4,3,0,2,1,11],[9,8,7,5,4,3,0,2,1,6,14,13,12,10,11],[15,9,8,7,5,4,3,0,2,1,6,14,13,12,10,11],[16,15,9,8,7,5,4,3,0,2,1,6,14,13,12,10,11],[16,15,9,8,7,5,4,3,0,2,1,6,14,13,12,10,11],[17,16,15,9,8,7,5,4,3,0,2,1,6,14,13,12,10,11,18],[19,17,16,15,9,8,7,5,4,3,0,2,1,6,14,13,12,10,11,18],[20,19,17,16,15,9,8,7,5,4,3,0,2,1,6,14,13,12,10,11,18],[16,15,9,8,7,5,4,3,0,2,1,6,14,13,12,10,11],[16,15,9,8,7,5,4,3,0,2,1,6,14,13,12,10,11],[22,16,15,9,8,7,5,4,3,0,2,1,6,14,13,12,10,11,23],[24,22,16,15,9,8,7,5,4,3,0,2,1,6,14,13,12,10,11,23],[25,24,22,16,15,9,8,7,5,4,3,0,2,1,6,14,13,12,10,11,23],[21,20,19,17,16,15,9,8,7,5,4,3,0,2,1,6,14,13,12,10,11,18,26,25,24,22,23],[16,15,9,8,7,5,4,3,0,2,1,6,14,13,12,10,11,27,21,20,19,17,18,26,25,24,22,23],[28,16,15,9,8,7,5,4,3,0,2,1,6,14,13,12,10,11,27,21,20,19,17,18,26,25,24,22,23],[29,28,16,15,9,8,7,5,4,3,0,2,1,6,14,13,12,10,11,27,21,20,19,17,18,26,25,24,22,23],[29,28,16,15,9,8,7,5,4,3,0,2,1,6,14,13,12,10,11,27,21,20,19,17,18,26,25,24,22,23],[30,29,28,16,15,9,8,7,5,4,3,0,2,1,6,14,13,12,10,11,27,21,20,19,17,18,26,25,24,22,23,31],[32,30,29,28,16,15,9,8,7,5,4,3,0,2,1,6,14,13,12,10,11,27,21,20,19,17,18,26,25,24,22,23,31],[33,32,30,29,28,16,15,9,8,7,5,4,3,0,2,1,6,14,13,12,10,11,27,21,20,19,17,18,26,25,24,22,23,31],[29,28,16,15,9,8,7,5,4,3,0,2,1,6,14,13,12,10,11,27,21,20,19,17,18,26,25,24,22,23],[29,28,16,15,9,8,7,5,4,3,0,2,1,6,14,13,12,10,11,27,21,20,19,17,18,26,25,24,22,23],[35,29,28,16,15,9,8,7,5,4,3,0,2,1,6,14,13,12,10,11,27,21,20,19,17,18,26,25,24,22,23,36],[37,35,29,28,16,15,9,8,7,5,4,3,0,2,1,6,14,13,12,10,11,27,21,20,19,17,18,26,25,24,22,23,36],[38,37,35,29,28,16,15,9,8,7,5,4,3,0,2,1,6,14,13,12,10,11,27,21,20,19,17,18,26,25,24,22,23,36],[34,33,32,30,29,28,16,15,9,8,7,5,4,3,0,2,1,6,14,13,12,10,11,27,21,20,19,17,18,26,25,24,22,23,31,39,38,37,35,36],[29,28,16,15,9,8,7,5,4,3,0,2,1,6,14,13,12,10,11,27,21,20,19,17,18,26,25,24,22,23,40,34,33,32,30,31,39,38,37,35,36],[41,29,28,16,15,9,8,7,5,4,3,0,2,1,6,14,13,12,10,11,27,21,20,19,17,18,26,25,24,22,23,40,34,33,32,30,31,39,38,37,35,36],[42,41,29,28,16,15,9,8,7,5,4,3,0,2,1,6,14,13,12,10,11,27,21,20,19,17,18,26,25,24,22,23,40,34,33,32,30,31,39,38,37,35,36],[42,41,29,28,16,15,9,8,7,5,4,3,0,2,1,6,14,13,12,10,11,27,21,20,19,17,18,26,25,24,22,23,40,34,33,32,30,31,39,38,37,35,36],[43,42,41,29,28,16,15,9,8,7,5,4,3,0,2,1,6,14,13,12,10,11,27,21,20,19,17,18,26,25,24,22,23,40,34,33,32,30,31,39,38,37,35,36,44],[45,43,42,41,29,28,16,15,9,8,7,5,4,3,0,2,1,6,14,13,12,10,11,27,21,20,19,17,18,26,25,24,22,23,40,34,33,32,30,31,39,38,37,35,36,44],[46,45,43,42,41,29,28,16,15,9,8,7,5,4,3,0,2,1,6,14,13,12,10,11,27,21,20,19,17,18,26,25,24,22,23,40,34,33,32,30,31,39,38,37,35,36,44],[42,41,29,28,16,15,9,8,7,5,4,3,0,2,1,6,14,13,12,10,11,27,21,20,19,17,18,26,25,24,22,23,40,34,33,32,30,31,39,38,37,35,36],[42,41,29,28,16,15,9,8,7,5,4,3,0,2,1,6,14,13,12,10,11,27,21,20,19,17,18,26,25,24,22,23,40,34,33,32,30,31,39,38,37,35,36],[48,42,41,29,28,16,15,9,8,7,5,4,3,0,2,1,6,14,13,12,10,11,27,21,20,19,17,18,26,25,24,22,23,40,34,33,32,30,31,39,38,37,35,36,49],[50,48,42,41,29,28,16,15,9,8,7,5,4,3,0,2,1,6,14,13,12,10,11,27,21,20,19,17,18,26,25,24,22,23,40,34,33,32,30,31,39,38,37,35,36,49],[51,50,48,42,41,29,28,16,15,9,8,7,5,4,3,0,2,1,6,14,13,12,10,11,27,21,20,19,17,18,26,25,24,22,23,40,34,33,32,30,31,39,38,37,35,36,49],[47,46,45,43,42,41,29,28,16,15,9,8,7,5,4,3,0,2,1,6,14,13,12,10,11,27,21,20,19,17,18,26,25,24,22,23,40,34,33,32,30,31,39,38,37,35,36,44,52,51,50,48,49],[42,41,29,28,16,15,9,8,7,5,4,3,0,2,1,6,14,13,12,10,11,27,21,20,19,17,18,26,25,24,22,23,40,34,33,32,30,31,39,38,37,35,36,53,47,46,45,43,44,52,51,50,48,49],[4,3,0,2,1,54,42,41,29,28,16,15,9,8,7,5,6,14,13,12,10,11,27,21,20,19,17,18,26,25,24,22,23,40,34,33,32,30,31,39,38,37,35,36,53,47,46,45,43,44,52,51,50,48,49]] (by kernel_rfl) (by kernel_rfl) ?_
          simp (disch := omega) [e13, e12, e7, e5, e6, e10, hi, ha, wrap_in, he1, he2, x0, x1, x2, x3, x4, y0, y1, y2, y3, y4, f1, f2, f3, f4', ha', hv']
          refine lpI (k - 1) (by omega) ?_
          exact ⟨i + 1, at2 + 1, by omega, by omega, rfl, hE2, by simp, by simp, by simp [e7, eA2], by simp [e5, eA1], by simp [e6], by simp [e10]⟩
        · have hf' : ¬ ((el l at2).s = (el out i).s ∧ (el l at2).k = (el out i).k ∧ (el l at2).u = (el out i).u ∧ ¬ (el l at2).e < (el out i).e) := fun h => hf ⟨h.1.symm, h.2.1.symm, h.2.2.1.symm, by omega⟩
          simp
          refine awDraw_E 53 [[],[],[1],[0,2,1],[3,0,2,1],[4,3,0,2,1],[4,3,0,2,1],[5,4,3,0,2,1,6],[7,5,4,3,0,2,1,6],[8,7,5,4,3,0,2,1,6],[4,3,0,2,1],[4,3,0,2,1],[10,4,3,0,2,1,11],[12,10,4,3,0,2,1,11],[13,12,10,4,3,0,2,1,11],[9,8,7,5,4,3,0,2,1,6,14,13,12,10,11],[15,9,8,7,5,4,3,0,2,1,6,14,13,12,10,11],[16,15,9,8,7,5,4,3,0,2,1,6,14,13,12,10,11],[16,15,9,8,7,5,4,3,0,2,1,6,14,13,12,10,11],[17,16,15,9,8,7,5,4,3,0,2,1,6,14,13,12,10,11,18],[19,17,16,15,9,8,7,5,4,3,0,2,1,6,14,13,12,10,11,18],[20,19,17,16,15,9,8,7,5,4,3,0,2,1,6,14,13,12,10,11,18],[16,15,9,8,7,5,4,3,0,2,1,6,14,13,12,10,11],[16,15,9,8,7,5,4,3,0,2,1,6,14,13,12,10,11],[22,16,15,9,8,7,5,4,3,0,2,1,6,14,13,12,10,11,23],[24,22,16,15,9,8,7,5,4,3,0,2,1,6,14,13,12,10,11,23],[25,24,22,16,15,9,8,7,5,4,3,0,2,1,6,14,13,12,10,11,23],[21,20,19,17,16,15,9,8,7,5,4,3,0,2,1,6,14,13,12,10,11,18,26,25,24,22,23],[16,15,9,8,7,5,4,3,0,2,1,6,14,13,12,10,11,27,21,20,19,17,18,26,25,24,22,23],[28,16,15,9,8,7,5,4,3,0,2,1,6,14,13,12,10,11,27,21,20,19,17,18,26,25,24,22,23],[29,28,16,15,9,8,7,5,4,3,0,2,1,6,14,13,12,10,11,27,21,20,19,17,18,26,25,24,22,23],[29,28,16,15,9,8,7,5,4,3,0,2,1,6,14,13,12,10,11,27,21,20,19,17,18,26,25,24,22,23],[30,29,28,16,15,9,8,7,5,4,3,0,2,1,6,14,13,12,10,11,27,21,20,19,17,18,26,25,24,22,23,31],[32,30,29,28,16,15,9,8,7,5,4,3,0,2,1,6,14,13,12,10,11,27,21,20,19,17,18,26,25,24,22,23,31],[33,32,30,29,28,16,15,9,8,7,5,4,3,0,2,1,6,14,13,12,10,11,27,21,20,19,17,18,26,25,24,22,23,31],[29,28,16,15,9,8,7,5,4,3,0,2,1,6,14,13,12,10,11,27,21,20,19,17,18,26,25,24,22,23],[29,28,16,15,9,8,7,5,4,3,0,2,1,6,14,13,12,10,11,27,21,20,19,17,18,26,25,24,22,23],[35,29,28,16,15,9,8,7,5,4,3,0,2,1,6,14,13,12,10,11,27,21,20,19,17,18,26,25,24,22,23,36],[37,35,29,28,16,15,9,8,7,5,4,3,0,2,1,6,14,13,12,10,11,27,21,20,19,17,18,26,25,24,22,23,36],[38,37,35,29,28,16,15,9,8,7,5,4,3,0,2,1,6,14,13,12,10,11,27,21,20,19,17,18,26,25,24,22,23,36],[34,33,32,30,29,28,16,15,9,8,7,5,4,3,0,2,1,6,14,13,12,10,11,27,21,20,19,17,18,26,25,24,22,23,31,39,38,37,35,36],[29,28,16,15,9,8,7,5,4,3,0,2,1,6,14,13,12,10,11,27,21,20,19,17,18,26,25,24,22,23,40,34,33,32,30,31,39,38,37,35,36],[41,29,28,16,15,9,8,7,5,4,3,0,2,1,6,14,13,12,10,11,27,21,20,19,17,18,26,25,24,22,23,40,34,33,32,30,31,39,38,37,35,36],[42,41,29,28,16,15,9,8,7,5,4,3,0,2,1,6,14,13,12,10,11,27,21,20,19,17,18,26,25,24,22,23,40,34,33,32,30,31,39,38,37,35,36],[42,41,29,28,16,15,9,8,7,5,4,3,0,2,1,6,14,13,12,10,11,27,21,20,19,17,18,26,25,24,22,23,40,34,33,32,30,31,39,38,37,35,36],[43,42,41,29,28,16,15,9,8,7,5,4,3,0,2,1,6,14,13,12,10,11,27,21,20,19,17,18,26,25,24,22,23,40,34,33,32,30,31,39,38,37,35,36,44],[45,43,42,41,29,28,16,15,9,8,7,5,4,3,0,2,1,6,14,13,12,10,11,27,21,20,19,17,18,26,25,24,22,23,40,34,33,32,30,31,39,38,37,35,36,44],[46,45,43,42,41,29,28,16,15,9,8,7,5,4,3,0,2,1,6,14,13,12,10,11,27,21,20,19,17,18,26,25,24,22,23,40,34,33,32,30,31,39,38,37,35,36,44],[42,41,29,28,16,15,9,8,7,5,4,3,0,2,1,6,14,13,12,10,11,27,21,20,19,17,18,26,25,24,22,23,40,34,33,32,30,31,39,38,37,35,36],[42,41,29,28,16,15,9,8,7,5,4,3,0,2,1,6,14,13,12,10,11,27,21,20,19,17,18,26,25,24,22,23,40,34,33,32,30,31,39,38,37,35,36],[48,42,41,29,28,16,15,9,8,7,5,4,3,0,2,1,6,14,13,12,10,11,27,21,20,19,17,18,26,25,24,22,23,40,34,33,32,30,31,39,38,37,35,36,49],[50,48,42,41,29,28,16,15,9,8,7,5,4,3,0,2,1,6,14,13,12,10,11,27,21,20,19,17,18,26,25,24,22,23,40,34,33,32,30,31,39,38,37,35,36,49],[51,50,48,42,41,29,28,16,15,9,8,7,5,4,3,0,2,1,6,14,13,12,10,11,27,21,20,19,17,18,26,25,24,22,23,40,34,33,32,30,31,39,38,37,35,36,49],[47,46,45,43,42,41,29,28,16,15,9,8,7,5,4,3,0,2,1,6,14,13,12,10,11,27,21,20,19,17,18,26,25,24,22,23,40,34,33,32,30,31,39,38,37,35,36,44,52,51,50,48,49],[42,41,29,28,16,15,9,8,7,5,4,3,0,2,1,6,14,13,12,10,11,27,21,20,19,17,18,26,25,24,22,23,40,34,33,32,30,31,39,38,37,35,36,53,47,46,45,43,44,52,51,50,48,49],[4,3,0,2,1,54,42,41,29,28,16,15,9,8,7,5,6,14,13,12,10,11,27,21,20,19,17,18,26,25,24,22,23,40,34,33,32,30,31,39,38,37,35,36,53,47,46,45,43,44,52,51,50,48,49]] (by kernel_rfl) (by kernel_rfl) ?_
          by_cases g1 : (el l at2).s = (el out i).s
          · by_cases g2 : (el l at2).k = (el out i).k
            · by_cases g3 : (el l at2).u = (el out i).u
              · have g4 : (el l at2).e < (el out i).e := Decidable.byContradiction fun h => hf' ⟨g1, g2, g3, h⟩
                simp (disch := omega) [e13, e12, e7, e5, e6, e10, hi, ha, wrap_in, he1, he2, x0, x1, x2, x3, x4, y0, y1, y2, y3, y4, g1, g2, g3, g4]
                refine lpI (k' - 1) (by omega) ?_
                exact ⟨at2 + 1, by omega, rfl, hE2, by simp [e13], by simp, by simp [e7, eA2], by simp [e5, eA1], by simp [e6], by simp [e10]⟩
              · simp (disch := omega) [e13, e12, e7, e5, e6, e10, hi, ha, wrap_in, he1, he2, x0, x1, x2, x3, x4, y0, y1, y2, y3, y4, g1, g2, g3]
                refine lpI (k' - 1) (by omega) ?_
                exact ⟨at2 + 1, by omega, rfl, hE2, by simp [e13], by simp, by simp [e7, eA2], by simp [e5, eA1], by simp [e6], by simp [e10]⟩
            · simp (disch := omega) [e13, e12, e7, e5, e6, e10, hi, ha, wrap_in, he1, he2, x0, x1, x2, x3, x4, y0, y1, y2, y3, y4, g1, g2]
              refine lpI (k' - 1) (by omega) ?_
              exact ⟨at2 + 1, by omega, rfl, hE2, by simp [e13], by simp, by simp [e7, eA2], by simp [e5, eA1], by simp [e6], by simp [e10]⟩
          · simp (disch := omega) [e13, e12, e7, e5, e6, e10, hi, ha, wrap_in, he1, he2, x0, x1, x2, x3, x4, y0, y1, y2, y3, y4, g1]
            refine lpI (k' - 1) (by omega) ?_
            exact ⟨at2 + 1, by omega, rfl, hE2, by simp [e13], by simp, by simp [e7, eA2], by simp [e5, eA1], by simp [e6], by simp [e10]⟩
      · obtain rfl : at2 = q1 := by omega
        exact absurd hE (noend i hi)
    · obtain rfl : i = q2 := by omega
      simp (disch := omega) [e13, e12, e7, e5, e6, e10, wrap_in]
      refine awCall_det' (NeededVoices_il r1.rd (by omega)) (by omega) ?_
      by_cases b4 : 4 < P
      · simp [hN.1 b4, e10, b4, K3]
      · by_cases b0 : P = 0
        · simp [hN.2.1 b4 b0, e10, b4, b0, K3]
        · simp [hN.2.2 b4 b0, e10, b4, b0, K3]
end Go.Proofs.Ytdcfofaojalilaa
