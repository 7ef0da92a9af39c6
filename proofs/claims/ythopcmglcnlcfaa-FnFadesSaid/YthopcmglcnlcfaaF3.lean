/- The law of the fades is walked. No conditions. -/
import Derived.Test.YthopcmglcnlcfaaF2
import Derived.Test.YthopcmglcnlcfaaW2
namespace Go.Proofs.Ythopcmglcnlcfaa
open Go.RowKit
set_option linter.unusedVariables false
set_option linter.unusedSimpArgs false
set_option maxRecDepth 100000
attribute [local simp] List.getElem?_cons_zero
attribute [local irreducible] awCond awCall awLoop awDraw ow retQ retC resQ Keeps
set_option maxHeartbeats 8000000 in
theorem lawFades_a {M : Mem} {A B : Option Addr} {n c m d : Nat} {cs ds : List Int} (h : Sl codeR M A n cs) (hcs : ∀ x, x ∈ cs → 0 ≤ x ∧ x ≤ 255) (h2 : Sl codeR M B m ds) (hds : ∀ x, x ∈ ds → 0 ≤ x ∧ x ≤ 255) :
    Det Try.prog M.length 4 [.slice A n c, .slice B m d] M (.bool true) M := by
  have K0 := Keeps.refl M
  by_cases hlong : (decide (1048576 < n) || decide (1048576 < m)) = true
  · first | (refine det_fn Try.func4 rfl Try.ntmps4 Try.results4 rfl rfl rfl (by simp) ?_) | (refine det_fnC Try.func4 rfl Try.ntmps4 Try.results4 rfl rfl (by simp) ?_)
    simp
    refine awCall_det' v8Long_a (by omega) ?_
    simp [hlong, K0]
  have hn : n ≤ 1048576 := by simp at hlong; omega
  have hm : m ≤ 1048576 := by simp at hlong; omega
  simp only [Bool.not_eq_true] at hlong
  first | (refine det_fn Try.func4 rfl Try.ntmps4 Try.results4 rfl rfl rfl (by simp) ?_) | (refine det_fnC Try.func4 rfl Try.ntmps4 Try.results4 rfl rfl (by simp) ?_)
  simp
  refine awCall_det' v8Long_a (by omega) ?_
  simp [hlong]
  refine awCall_ctr (E8Signal_a (m := 20) h hn hcs (by omega)) ?_
  rintro r M1 ⟨A1, c1, a, rfl, hA, la, sa, k1⟩
  have n1 := k1.len
  try simp
  refine awCall_ctr ((E8Signal_a (m := 20) (h2.keeps k1) hm hds (by omega)).weaken (by omega)) ?_
  rintro r M2 ⟨A2, c2, b, rfl, hB, lb, sb, k2⟩
  have n2 := k2.len
  replace hA := hA.keeps k2
  have K2 := k1.trans k2
  try simp
  refine awCall_ctr ((v8At_a 0 8 (h2.keeps K2) hds (by omega) (by omega) hm).weaken (by omega)) ?_
  rintro r M3 ⟨rfl, X, rfl, x0, x1⟩
  obtain ⟨X', rfl⟩ := Int.eq_ofNat_of_zero_le x0
  obtain ⟨N, hN⟩ : ∃ N : Nat, N = 1 + X' := ⟨_, rfl⟩
  have eN : 1 + (X' : Int) = N := by omega
  simp (disch := omega) [wrap_in, eN]
  refine awCall_ctr ((E8Window_a (m := N) (h2.keeps K2) hm hds (by omega) (by omega)).weaken (by omega)) ?_
  rintro r M4 ⟨A4, c4, w, rfl, hW, hw, k4⟩
  have n4 := k4.len
  have lw := hW.1
  replace hA := hA.keeps k4
  replace hB := hB.keeps k4
  have K4 := K2.trans k4
  try simp
  refine awCall_ctr ((v8At_a 0 24 (h.keeps K4) hcs (by omega) (by omega) hn).weaken (by omega)) ?_
  rintro r M5 ⟨rfl, F, rfl, f0, f1⟩
  obtain ⟨F', rfl⟩ := Int.eq_ofNat_of_zero_le f0
  have siga := sigB_of sa (by omega)
  have sigb := sigB_of sb (by omega)
  try simp
  refine awCall_ctr ((FadeSignal_i (f := F') hA hW siga hw (by omega)).weaken (by omega)) ?_
  rintro r M6 ⟨v6, rfl, hF6⟩
  obtain ⟨A6, c6, rfl, hX, k6⟩ := hF6.sl
  have n6 := k6.len
  simp
  refine awCall_ctr ((FadeRest_i (f := F') (hA.keeps k6) (hW.keeps k6) siga hw (by omega)).weaken (by omega)) ?_
  rintro r M7 ⟨v7, rfl, hF7⟩
  obtain ⟨A7, c7, rfl, hY, k7⟩ := hF7.sl
  have n7 := k7.len
  have lx : (Old.fadeK a w F' N).length = a.length := Old.fadeK_len _ _ _ _
  have ly : (Old.addL a (Old.fadeK a w F' N) (-1)).length = a.length := by rw [addL_len, lx]; omega
  have sx : Old.sigB (Old.fadeK a w F' N) = true := sigB_of (fun i hi => Old.fadeK_smpl (Old.sigB_smpl siga) hw F' N (by omega) i hi) (by omega)
  have sy : Old.sigB (Old.addL a (Old.fadeK a w F' N) (-1)) = true := sigB_of (smp_addL _ _ _) (by omega)
  have hba := rest_back (f := Old.fadeK a w F' N) sa lx
  simp
  refine awCall_ctr ((AddSignals_s (hX.keeps k7) hY sx sy).weaken (by omega)) ?_
  rintro r M8 ⟨v8, rfl, hF8⟩
  rw [hba] at hF8
  obtain ⟨A8, c8, rfl, hZ, k8⟩ := hF8.sl
  have n8 := k8.len
  have k48 := (k6.trans k7).trans k8
  replace hA := hA.keeps k48
  replace hB := hB.keeps k48
  replace hW := hW.keeps k48
  have K8 := K4.trans k48
  clear hX hY hF6 hF7 hF8 hba sx sy lx ly k6 k7 k8 k48 k4 k1 k2 K2 K4 h h2
  simp
  refine awCall_det' (v8Same_a hZ hA (by omega)) (by omega) ?_
  simp
  by_cases hc : a.length < N ∨ b.length < N
  · have hcode : Old.splC a b w = 6 := by unfold Old.splC; rw [siga, sigb, hw, lw]; simp [hc]
    have hres : Old.splR a b w = [] := by unfold Old.splR; rw [hcode]; rfl
    have fin : ∀ (K : Value → Mem → Prop), (∀ v0 M', Fresh intR M8 v0 M' [] → K (.tuple #[v0, iv 6]) M') → awCall Try.prog false M.length 23 [.slice A1 a.length c1, .slice A2 b.length c2, .slice A4 N c4] M8 K := by
      intro K hK
      refine awCall_ctr ((Splice_i hA hB hW (by rw [hres]; simp)).weaken (by omega)) ?_
      rintro r M9 ⟨v9, rfl, hF9⟩
      rw [hcode]
      rw [hres] at hF9
      exact hK _ _ hF9
    by_cases h1 : a.length < N
    · have h1' : (a.length : Int) < N := by omega
      simp [h1, h1']
      refine fin _ ?_
      intro v0 M' hF
      obtain ⟨_, _, rfl, -, k9⟩ := hF.sl
      simp [K8.trans k9]
    · have h2 : b.length < N := by omega
      have h1' : ¬ (a.length : Int) < N := by omega
      have h2' : (b.length : Int) < N := by omega
      simp [h1, h1', h2, h2']
      refine fin _ ?_
      intro v0 M' hF
      obtain ⟨_, _, rfl, -, k9⟩ := hF.sl
      simp [K8.trans k9]
  have ca : N ≤ a.length := by omega
  have cb : N ≤ b.length := by omega
  have ca' : ¬ (a.length : Int) < N := by omega
  have cb' : ¬ (b.length : Int) < N := by omega
  obtain ⟨id1, o1, rfl, e1, -⟩ := hA.2 (by omega)
  obtain ⟨id2, o2, rfl, e2, -⟩ := hB.2 (by omega)
  have ca2 : ¬ a.length < N := by omega
  have cb2 : ¬ b.length < N := by omega
  have ca3 : (N : Int) ≤ a.length := by omega
  have cb3 : (N : Int) ≤ b.length := by omega
  simp (disch := omega) [ca2, cb2, ca3, cb3, e1, e2]
  have hA1 := sl_take hA ca
  have hB1 := sl_take hB cb
  have sa1 : Old.sigB (a.take N) = true := Old.sig_take siga N
  have sb1 : Old.sigB (b.take N) = true := Old.sig_take sigb N
  refine awCall_ctr ((Crossfade_i hA1 hA1 hW sa1 sa1 hw).weaken (by omega)) ?_
  rintro r M9 ⟨v9, rfl, hF9⟩
  rw [cross_self (by rw [List.length_take]; omega)] at hF9
  obtain ⟨A9, c9, rfl, hX, k9⟩ := hF9.sl
  have n9 := k9.len
  have lt1 : (a.take N).length = N := by rw [List.length_take]; omega
  rw [lt1] at hX
  simp [lt1]
  refine awCall_ctr ((Crossfade_i (hA1.keeps k9) (hB1.keeps k9) (hW.keeps k9) sa1 sb1 hw).weaken (by omega)) ?_
  rintro r M10 ⟨v10, rfl, hF10⟩
  obtain ⟨A10, c10, rfl, hZ, k10⟩ := hF10.sl
  have n10 := k10.len
  rw [Old.crossL_len] at hZ
  replace hX := hX.keeps k10
  have k810 := k9.trans k10
  replace hA := hA.keeps k810
  replace hB := hB.keeps k810
  replace hA1 := hA1.keeps k810
  replace hB1 := hB1.keeps k810
  replace hW := hW.keeps k810
  have K10 := K8.trans k810
  simp [lt1, Old.crossL_len]
  refine awCall_det' (v8Same_a hX hA1 (by omega)) (by omega) ?_
  simp [lt1, Old.crossL_len]
  clear hF9 hF10 k9 k10 k810 K8
  refine awLoop_T (fun k T M' => ∃ i : Nat, i + k = N ∧ M' = M10 ∧ look T 22 = some (iv i) ∧ look T 7 = some (iv N) ∧ look T 21 = some (.slice A10 N c10) ∧ look T 18 = some (.slice (some ⟨id1, o1, none⟩) N N) ∧ look T 19 = some (.slice (some ⟨id2, o2, none⟩) N N) ∧ look T 5 = some (.slice (some ⟨id1, o1, none⟩) a.length c1) ∧ look T 6 = some (.slice (some ⟨id2, o2, none⟩) b.length c2) ∧ look T 8 = some (.slice A4 N c4)) N ⟨0, by omega, rfl, by simp, by simp, by simp, by simp, by simp, by simp, by simp, by simp⟩ ?_
  rintro k T M11 ⟨i, hik, rfl, t22, t7, t21, t18, t19, t5, t6, t8⟩
  by_cases hi : i < N
  · obtain ⟨id3, o3, rfl, f3, x3⟩ := sl_int hZ hi
    obtain ⟨_, _, q1, f1, x1⟩ := sl_int hA1 hi
    cases q1
    obtain ⟨_, _, q2, f2, x2⟩ := sl_int hB1 hi
    cases q2
    rw [el_cross hi] at x3
    have hwi := winB_el hw (i := i) (by omega)
    obtain ⟨z1, z2⟩ := cross_in (a := el (a.take N) i) (b := el (b.take N) i) hwi.1 hwi.2
    generalize Old.crossV (el (a.take N) i) (el (b.take N) i) (el w i) = Z at x3 z1 z2
    generalize el (a.take N) i = X at x1 z1 z2
    generalize el (b.take N) i = Y at x2 z1 z2
    have hi' : (i : Int) < N := by omega
    simp (disch := omega) [t22, t7, hi]
    refine awDraw_E 39 [[],[],[0,1],[2,0,1],[],[],[4,5],[6,4,5],[3,2,0,1,7,6,4,5],[8,3,2,0,1,7,6,4,5],[9,8,3,2,0,1,7,6,4,5],[9,8,3,2,0,1,7,6,4,5],[10,9,8,3,2,0,1,7,6,4,5,11],[12,10,9,8,3,2,0,1,7,6,4,5,11],[9,8,3,2,0,1,7,6,4,5],[9,8,3,2,0,1,7,6,4,5],[14,9,8,3,2,0,1,7,6,4,5,15],[16,14,9,8,3,2,0,1,7,6,4,5,15],[13,12,10,9,8,3,2,0,1,7,6,4,5,11,17,16,14,15],[9,8,3,2,0,1,7,6,4,5,18,13,12,10,11,17,16,14,15],[19,9,8,3,2,0,1,7,6,4,5,18,13,12,10,11,17,16,14,15],[20,19,9,8,3,2,0,1,7,6,4,5,18,13,12,10,11,17,16,14,15],[20,19,9,8,3,2,0,1,7,6,4,5,18,13,12,10,11,17,16,14,15],[21,20,19,9,8,3,2,0,1,7,6,4,5,18,13,12,10,11,17,16,14,15,22],[23,21,20,19,9,8,3,2,0,1,7,6,4,5,18,13,12,10,11,17,16,14,15,22],[20,19,9,8,3,2,0,1,7,6,4,5,18,13,12,10,11,17,16,14,15],[20,19,9,8,3,2,0,1,7,6,4,5,18,13,12,10,11,17,16,14,15],[25,20,19,9,8,3,2,0,1,7,6,4,5,18,13,12,10,11,17,16,14,15,26],[27,25,20,19,9,8,3,2,0,1,7,6,4,5,18,13,12,10,11,17,16,14,15,26],[24,23,21,20,19,9,8,3,2,0,1,7,6,4,5,18,13,12,10,11,17,16,14,15,22,28,27,25,26],[29,24,23,21,20,19,9,8,3,2,0,1,7,6,4,5,18,13,12,10,11,17,16,14,15,22,28,27,25,26],[30,29,24,23,21,20,19,9,8,3,2,0,1,7,6,4,5,18,13,12,10,11,17,16,14,15,22,28,27,25,26],[30,29,24,23,21,20,19,9,8,3,2,0,1,7,6,4,5,18,13,12,10,11,17,16,14,15,22,28,27,25,26],[31,30,29,24,23,21,20,19,9,8,3,2,0,1,7,6,4,5,18,13,12,10,11,17,16,14,15,22,28,27,25,26,32],[33,31,30,29,24,23,21,20,19,9,8,3,2,0,1,7,6,4,5,18,13,12,10,11,17,16,14,15,22,28,27,25,26,32],[30,29,24,23,21,20,19,9,8,3,2,0,1,7,6,4,5,18,13,12,10,11,17,16,14,15,22,28,27,25,26],[30,29,24,23,21,20,19,9,8,3,2,0,1,7,6,4,5,18,13,12,10,11,17,16,14,15,22,28,27,25,26],[35,30,29,24,23,21,20,19,9,8,3,2,0,1,7,6,4,5,18,13,12,10,11,17,16,14,15,22,28,27,25,26,36],[37,35,30,29,24,23,21,20,19,9,8,3,2,0,1,7,6,4,5,18,13,12,10,11,17,16,14,15,22,28,27,25,26,36],[34,33,31,30,29,24,23,21,20,19,9,8,3,2,0,1,7,6,4,5,18,13,12,10,11,17,16,14,15,22,28,27,25,26,32,38,37,35,36],[30,29,24,23,21,20,19,9,8,3,2,0,1,7,6,4,5,18,13,12,10,11,17,16,14,15,22,28,27,25,26,39,34,33,31,32,38,37,35,36],[20,19,9,8,3,2,0,1,7,6,4,5,18,13,12,10,11,17,16,14,15,40,30,29,24,23,21,22,28,27,25,26,39,34,33,31,32,38,37,35,36]] (by kernel_rfl) (by kernel_rfl) ?_
    have fin : ∀ T' : List (Nat × Value), look T' 22 = some (iv (i + 1 : Nat)) → look T' 7 = some (iv N) → look T' 21 = some (.slice (some ⟨id3, o3, none⟩) N c10) → look T' 18 = some (.slice (some ⟨id1, o1, none⟩) N N) → look T' 19 = some (.slice (some ⟨id2, o2, none⟩) N N) → look T' 5 = some (.slice (some ⟨id1, o1, none⟩) a.length c1) → look T' 6 = some (.slice (some ⟨id2, o2, none⟩) b.length c2) → look T' 8 = some (.slice A4 N c4) →
      ∃ i : Nat, i + (k - 1) = N ∧ M11 = M11 ∧ look T' 22 = some (iv i) ∧ look T' 7 = some (iv N) ∧ look T' 21 = some (.slice (some ⟨id3, o3, none⟩) N c10) ∧ look T' 18 = some (.slice (some ⟨id1, o1, none⟩) N N) ∧ look T' 19 = some (.slice (some ⟨id2, o2, none⟩) N N) ∧ look T' 5 = some (.slice (some ⟨id1, o1, none⟩) a.length c1) ∧ look T' 6 = some (.slice (some ⟨id2, o2, none⟩) b.length c2) ∧ look T' 8 = some (.slice A4 N c4) :=
      fun T' a1 a2 a3 a4 a5 a6 a7 a8 => ⟨i + 1, by omega, rfl, a1, a2, a3, a4, a5, a6, a7, a8⟩
    by_cases y1 : Z < X
    · have y2 : ¬ Z < Y := by omega
      have y3 : ¬ X < Z := by omega
      simp (disch := omega) [t22, t7, t21, t18, t19, hi, wrap_in, f1, f2, f3, x1, x2, x3, y1, y2, y3]
      try refine ⟨by omega, ?_⟩
      refine lpI (k - 1) (by omega) (fin _ ?_ ?_ ?_ ?_ ?_ ?_ ?_ ?_) <;> simp [t7, t21, t18, t19, t5, t6, t8]
    · by_cases y3 : X < Z
      · have y4 : ¬ Y < Z := by omega
        simp (disch := omega) [t22, t7, t21, t18, t19, hi, wrap_in, f1, f2, f3, x1, x2, x3, y1, y3, y4]
        try refine ⟨by omega, ?_⟩
        refine lpI (k - 1) (by omega) (fin _ ?_ ?_ ?_ ?_ ?_ ?_ ?_ ?_) <;> simp [t7, t21, t18, t19, t5, t6, t8]
      · simp (disch := omega) [t22, t7, t21, t18, t19, hi, wrap_in, f1, f2, f3, x1, x2, x3, y1, y3]
        try refine ⟨by omega, ?_⟩
        refine lpI (k - 1) (by omega) (fin _ ?_ ?_ ?_ ?_ ?_ ?_ ?_ ?_) <;> simp [t7, t21, t18, t19, t5, t6, t8]
  · obtain rfl : i = N := by omega
    simp (disch := omega) [t22, t7, t5, t6, t8]
    have hcode : Old.splC a b w = 0 := by
      unfold Old.splC
      rw [siga, sigb, hw, lw]
      simp [ca2, cb2]
      omega
    have hres : Old.splR a b w = a.take (a.length - i) ++ Old.crossL (a.drop (a.length - i)) b w i ++ b.drop i := by unfold Old.splR; rw [if_pos hcode, lw]
    have hlen : (Old.splR a b w).length = a.length - i + b.length := by
      rw [hres]
      simp only [List.length_append, List.length_take, List.length_drop, Old.crossL_len]
      omega
    refine awCall_ctr ((Splice_i hA hB hW (by rw [hlen]; omega)).weaken (by omega)) ?_
    rintro r M12 ⟨v12, rfl, hF12⟩
    rw [hcode]
    obtain ⟨A12, c12, rfl, hS, k12⟩ := hF12.sl
    have n12 := k12.len
    rw [hlen] at hS
    simp (disch := omega) [hlen, wrap_in, t5, t6, t7]
    obtain ⟨idS, oS, rfl, fS, -⟩ := hS.2 (by omega)
    have g1 := (hA.keeps k12)
    have g2 := (hB.keeps k12)
    obtain ⟨_, _, q1, f1, -⟩ := g1.2 (by omega)
    cases q1
    obtain ⟨_, _, q2, f2, -⟩ := g2.2 (by omega)
    cases q2
    have w1 := sl_take hS (k := a.length - i) (by omega)
    have w2 := sl_take g1 (k := a.length - i) (by omega)
    have w3 := sl_drop hS (k := a.length) (by omega)
    have w4 := sl_drop g2 (k := i) (by omega)
    have lt : (a.take (a.length - i)).length = a.length - i := by rw [List.length_take]; omega
    have q1 : (Old.splR a b w).take (a.length - i) = a.take (a.length - i) := by
      rw [hres, List.append_assoc, List.take_append_of_le_length (by omega), List.take_of_length_le (by omega)]
    have q2 : (Old.splR a b w).drop a.length = b.drop i := by
      rw [hres, List.drop_append, List.drop_of_length_le (by simp only [List.length_append, lt, Old.crossL_len]; omega)]
      simp only [List.length_append, lt, Old.crossL_len, List.nil_append]
      rw [show a.length - (a.length - i + i) = 0 by omega, List.drop_zero]
    rw [q1] at w1
    rw [q2, show a.length - i + b.length - a.length = b.length - i by omega] at w3
    have z1 : ((a.length : Int) - i).toNat = a.length - i := by omega
    have z2 : (a.length : Int) - i + i = a.length := by omega
    have z3 : (a.length - i + b.length : Nat) = (a.length : Int) - i + b.length := by omega
    have z4 : (0 : Int) ≤ (a.length : Int) - i := by omega
    have z5 : (a.length : Int) - i ≤ a.length := by omega
    have z6 : (i : Int) ≤ b.length := by omega
    have z7 : (i : Int) ≤ a.length := by omega
    have z8 : a.length - i + b.length - a.length = b.length - i := by omega
    have z9 : a.length ≤ a.length - i + b.length := by omega
    have z10 : (a.length : Int) ≤ (a.length : Int) - i + b.length := by omega
    have z11 : (a.length : Int) - i ≤ (a.length : Int) - i + b.length := by omega
    refine awDraw_E 29 [[],[0],[1,0],[2,1,0],[3,2,1,0],[2,1,0],[2,1,0],[6,2,1,0],[5,2,1,0,7,6],[4,3,2,1,0,8,5,7,6],[2,1,0,9,4,3,8,5,7,6],[10,2,1,0,9,4,3,8,5,7,6],[11,10,2,1,0,9,4,3,8,5,7,6],[11,10,2,1,0,9,4,3,8,5,7,6],[12,11,10,2,1,0,9,4,3,8,5,7,6,13],[11,10,2,1,0,9,4,3,8,5,7,6],[11,10,2,1,0,9,4,3,8,5,7,6],[15,11,10,2,1,0,9,4,3,8,5,7,6,16],[14,12,11,10,2,1,0,9,4,3,8,5,7,6,13,17,15,16],[11,10,2,1,0,9,4,3,8,5,7,6,18,14,12,13,17,15,16],[19,11,10,2,1,0,9,4,3,8,5,7,6,18,14,12,13,17,15,16],[20,19,11,10,2,1,0,9,4,3,8,5,7,6,18,14,12,13,17,15,16],[20,19,11,10,2,1,0,9,4,3,8,5,7,6,18,14,12,13,17,15,16],[20,19,11,10,2,1,0,9,4,3,8,5,7,6,18,14,12,13,17,15,16],[22,20,19,11,10,2,1,0,9,4,3,8,5,7,6,18,14,12,13,17,15,16,23],[21,20,19,11,10,2,1,0,9,4,3,8,5,7,6,18,14,12,13,17,15,16,24,22,23],[20,19,11,10,2,1,0,9,4,3,8,5,7,6,18,14,12,13,17,15,16],[20,19,11,10,2,1,0,9,4,3,8,5,7,6,18,14,12,13,17,15,16],[26,20,19,11,10,2,1,0,9,4,3,8,5,7,6,18,14,12,13,17,15,16,27],[25,21,20,19,11,10,2,1,0,9,4,3,8,5,7,6,18,14,12,13,17,15,16,24,22,23,28,26,27],[20,19,11,10,2,1,0,9,4,3,8,5,7,6,18,14,12,13,17,15,16,29,25,21,24,22,23,28,26,27],[30,20,19,11,10,2,1,0,9,4,3,8,5,7,6,18,14,12,13,17,15,16,29,25,21,24,22,23,28,26,27]] (by kernel_rfl) (by kernel_rfl) ?_
    simp (disch := omega) [t5, t6, t7, wrap_in, fS, f1, f2, z1, z2, z3, z4, z5, z6, z7, z8, z9, z10, z11]
    refine ⟨by omega, ?_⟩
    refine awCall_det' (v8Same_a w1 w2 (by omega)) (by omega) ?_
    simp (disch := omega) [t5, t6, t7, wrap_in, fS, f1, f2, z1, z2, z3, z4, z5, z6, z7, z8, z9, z10, z11]
    rw [show (((a.length - i : Nat) : Int) + (b.length : Int)).toNat - a.length = b.length - i by omega]
    refine ⟨by omega, ?_⟩
    refine awCall_det' (v8Same_a w3 w4 (by omega)) (by omega) ?_
    simp (disch := omega) [K10.trans k12]
end Go.Proofs.Ythopcmglcnlcfaa
