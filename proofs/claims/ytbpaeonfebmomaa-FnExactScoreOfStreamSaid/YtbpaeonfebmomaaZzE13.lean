/- Parts of the proof, together: The sort's merge of two runs. Stretches of a list of notes that are in order: plain laws. The stable sort of notes. Note: a list is cloned. Notes in order: the program's function. The keys of the program's map of sounding notes. Regions that draw their order, whose values are known and whose stores lie in known memory. The program's notes out of events. No conditions. -/
import Derived.Test.YtbpaeonfebmomaaZzE12
import Derived.Test.YtbpaeonfebmomaaZzE9
import Derived.Test.YtbpaeonfebmomaaZzE8
import Derived.DeepKeys3
import Derived.Test.YtbpaeonfebmomaaZzE10
import Derived.Test.YtbpaeonfebmomaaZzE11
namespace Go.Proofs.Ytbpaeonfebmomaa
open Go.RowKit
set_option linter.unusedVariables false
set_option linter.unusedSimpArgs false
set_option maxRecDepth 100000
attribute [local simp] List.getElem?_cons_zero
attribute [local irreducible] awCond awCall awLoop awDraw ow retQ retC resQ Keeps
/-- What a merge does. -/
def MergeTo (N : Nat) : Prop := ∀ {M : Mem} {B id n c a m b : Nat} {t : Bool} {A X Y Z l : List Note}, X.length + Y.length ≤ N → l = A ++ (X ++ (Y ++ Z)) → M[id]? = some (noteS t l) → B ≤ id → l.length = n → n ≤ 100000 → a = A.length → m = a + X.length → b = m + Y.length → 0 < X.length → 0 < Y.length →
    (∀ x, x ∈ X → noteB x = true) → (∀ y, y ∈ Y → noteB y = true) → X.Pairwise LeN → Y.Pairwise LeN →
    Ctr Try.prog B 105 [.slice (some ⟨id, 0, none⟩) n c, iv a, iv m, iv b, cmpV] M fun r M' => r = .tuple #[] ∧ ∃ V, V.Perm (X ++ Y) ∧ V.Pairwise LeN ∧ M' = stN M id t (A ++ (V ++ Z))
set_option maxHeartbeats 4000000 in
theorem merge_step {N : Nat} (ih : MergeTo N) : MergeTo (N + 1) := by
  intro M B id n c a m b t A X Y Z l hN hl h hB hn hn2 ha hm hb hX hY hvX hvY sX sY
  by_cases x1 : X.length = 1
  · obtain ⟨x, rfl⟩ := List.length_eq_one_iff.1 x1
    exact merge_x hl h hB hn hn2 ha (by simpa using hm) hb hY (hvX x (by simp)) hvY sY
  by_cases y1 : Y.length = 1
  · obtain ⟨y, rfl⟩ := List.length_eq_one_iff.1 y1
    exact merge_y hl h hB hn hn2 ha hm (by simpa using hb) (by omega) (hvY y (by simp)) hvX sX
  have hid := (List.getElem?_eq_some_iff.1 h).1
  have hn' := hn
  rw [hl] at hn'
  simp only [List.length_append] at hn'
  have e0 : ¬ ((m : Int) - a = 1) := by omega
  have e1 : ¬ ((b : Int) - m = 1) := by omega
  obtain ⟨mid, hmid⟩ : ∃ p, p = (a + b) / 2 := ⟨_, rfl⟩
  have hs := shr_one hmid
  have elX : ∀ j, j < X.length → el l (a + j) = el X j := fun j hj => by rw [hl, ha]; exact el_seg hj
  have elY : ∀ j, j < Y.length → el l (m + j) = el Y j := fun j hj => by
    have := el_seg (A := A ++ X) (X := Y) (R := Z) hj
    rw [hl, show m + j = (A ++ X).length + j by simp; omega]
    simpa using this
  first | (refine ctr_fn Try.func105 rfl Try.ntmps105 Try.results105 rfl rfl (by simp) ?_) | (refine ctr_fnC Try.func105 rfl Try.ntmps105 Try.results105 rfl (by simp) ?_)
  rw [aw_seq, aw_seq]
  simp (disch := omega) [wrap_in, e0, -aw_seq]
  rw [aw_seq, aw_seq]
  simp (disch := omega) [wrap_in, e1, -aw_seq]
  rw [aw_seq]
  simp (disch := omega) [wrap_in, u64_in, hs, -aw_seq]
  rw [aw_seq]
  simp (disch := omega) [wrap_in, -aw_seq]
  rw [aw_seq]
  simp (disch := omega) [wrap_in, -aw_seq]
  have hml : mid < b := by omega
  have ham : a ≤ mid := by omega
  rw [aw_seq]
  refine awThen_join (fun T' M' => M' = M ∧ ∃ s0 r0 : Nat, ((mid < m ∧ s0 + b = mid + m ∧ r0 = mid) ∨ (m ≤ mid ∧ s0 = a ∧ r0 = m)) ∧ look T' 20 = some (iv s0) ∧ look T' 21 = some (iv r0) ∧ look T' 19 = some (iv ((mid : Int) + m)) ∧ look T' 18 = some (iv mid) ∧ look T' 0 = some (.slice (some ⟨id, 0, none⟩) n c) ∧ look T' 1 = some (iv a) ∧ look T' 2 = some (iv m) ∧ look T' 3 = some (iv b) ∧ look T' 4 = some cmpV) ?_ ?_
  · intro Q' hQ
    by_cases hc : mid < m
    · have hc' : (mid : Int) < m := by omega
      obtain ⟨s0, hs0⟩ : ∃ s0, s0 + b = mid + m := ⟨mid + m - b, by omega⟩
      have es : (mid : Int) + m - b = s0 := by omega
      simp (disch := omega) [hc, hc', wrap_in, es]
      exact hQ _ _ ⟨rfl, s0, mid, .inl ⟨hc, hs0, rfl⟩, by simp, by simp, by simp, by simp, by simp, by simp, by simp, by simp, by simp⟩
    · have hc' : ¬ (mid : Int) < m := by omega
      simp (disch := omega) [hc, hc', wrap_in]
      exact hQ _ _ ⟨rfl, a, m, .inr ⟨by omega, rfl, rfl⟩, by simp, by simp, by simp, by simp, by simp, by simp, by simp, by simp, by simp⟩
  rintro T' M' ⟨rfl, s0, r0, hsr, t20, t21, t19, t18, t0, t1, t2, t3, t4⟩
  have hs0a : a ≤ s0 := by omega
  have hr0m : r0 ≤ m := by omega
  have hr0mid : r0 ≤ mid := by omega
  have hsr0 : s0 ≤ r0 := by omega
  have hYs : mid - s0 ≤ Y.length := by omega
  rw [aw_seq]
  simp (disch := omega) [t19, wrap_in, -aw_seq]
  rw [aw_seq]
  simp (disch := omega) only [aw_block, aw_loop]
  refine awLoop_join (fun T' M2 => M2 = M' ∧ ∃ s : Nat, s0 ≤ s ∧ s ≤ r0 ∧ (s = s0 ∨ ¬ ordN (el Y (mid - s)) (el X (s - 1 - a)) < 0) ∧ (s = r0 ∨ ordN (el Y (mid - 1 - s)) (el X (s - a)) < 0) ∧ look T' 20 = some (iv s) ∧ look T' 19 = some (iv ((mid : Int) + m)) ∧ look T' 18 = some (iv mid) ∧ look T' 0 = some (.slice (some ⟨id, 0, none⟩) n c) ∧ look T' 1 = some (iv a) ∧ look T' 2 = some (iv m) ∧ look T' 3 = some (iv b) ∧ look T' 4 = some cmpV) ?_ ?_
  · intro Q' hQ
    refine awLoop_T (fun d T M2 => ∃ (lo hi : Nat), d = hi - lo ∧ s0 ≤ lo ∧ lo ≤ hi ∧ hi ≤ r0 ∧ (lo = s0 ∨ ¬ ordN (el Y (mid - lo)) (el X (lo - 1 - a)) < 0) ∧ (hi = r0 ∨ ordN (el Y (mid - 1 - hi)) (el X (hi - a)) < 0) ∧ M2 = M' ∧ look T 20 = some (iv lo) ∧ look T 21 = some (iv hi) ∧ look T 22 = some (iv ((mid : Int) + m - 1)) ∧ look T 19 = some (iv ((mid : Int) + m)) ∧ look T 18 = some (iv mid) ∧ look T 0 = some (.slice (some ⟨id, 0, none⟩) n c) ∧ look T 1 = some (iv a) ∧ look T 2 = some (iv m) ∧ look T 3 = some (iv b) ∧ look T 4 = some cmpV) (r0 - s0)
      ⟨s0, r0, rfl, Nat.le_refl _, by omega, Nat.le_refl _, .inl rfl, .inl rfl, rfl, by simp [t20], by simp [t21], by simp, by simp [t19], by simp [t18], by simp [t0], by simp [t1], by simp [t2], by simp [t3], by simp [t4]⟩ ?_
    rintro d T M2 ⟨lo, hi, hd, h1, h2, h3, h4, h5, rfl, t20, t21, t22, t19, t18, t0, t1, t2, t3, t4⟩
    by_cases hlt : lo < hi
    · obtain ⟨q, hq⟩ : ∃ q, q = (lo + hi) / 2 := ⟨_, rfl⟩
      have hsq := shr_one hq
      have hqa : a ≤ q := by omega
      have hqm : q < m := by omega
      obtain ⟨pq, hpq⟩ : ∃ pq, pq + q + 1 = mid + m := ⟨mid + m - 1 - q, by omega⟩
      have epq : (mid : Int) + m - 1 - q = pq := by omega
      have hpm : m ≤ pq := by omega
      have hpb : pq < b := by omega
      have hcq : cellsAt M2 id (q * 7) 7 = some (el X (q - a)).row := by
        rw [stN_at h (by omega), ← elX (q - a) (by omega)]
        congr 2; congr 1; omega
      have hcp : cellsAt M2 id (pq * 7) 7 = some (el Y (mid - 1 - q)).row := by
        rw [stN_at h (by omega), ← elY (mid - 1 - q) (by omega)]
        congr 2; congr 1; omega
      have hqn : q < n := by omega
      have hpn : pq < n := by omega
      simp (disch := omega) [t20, t21, hlt, wrap_in, u64_in, hsq]
      refine awDraw_E 11 [[],[],[],[],[2,3],[1,4,2,3],[5,1,4,2,3],[],[],[7,8],[9,7,8],[0,6,5,1,4,2,3,10,9,7,8],[11,0,6,5,1,4,2,3,10,9,7,8],[12,11,0,6,5,1,4,2,3,10,9,7,8]] (by kernel_rfl) (by kernel_rfl) ?_
      simp (disch := omega) [t20, t21, t22, t0, t4, wrap_in, epq, stN_esz h, hcp, hcq, hpn, hqn]
      refine awCall_det' (compareNotes_i (el Y (mid - 1 - q)) (el X (q - a)) (hvY _ (el_mem (by omega))) (hvX _ (el_mem (by omega)))) (by omega) ?_
      by_cases ho : ordN (el Y (mid - 1 - q)) (el X (q - a)) < 0
      · simp (disch := omega) [ho, t20, t21, wrap_in]
        refine lpI (q - lo) (by omega) ?_
        exact ⟨lo, q, rfl, by omega, by omega, by omega, h4, .inr ho, rfl, by simp [t20], by simp, by simp [t22], by simp [t19], by simp [t18], by simp [t0], by simp [t1], by simp [t2], by simp [t3], by simp [t4]⟩
      · simp (disch := omega) [ho, t20, t21, wrap_in]
        refine lpI (hi - (q + 1)) (by omega) ?_
        exact ⟨q + 1, hi, rfl, by omega, by omega, h3, .inr (by rw [show mid - (q + 1) = mid - 1 - q by omega, show q + 1 - 1 - a = q - a by omega]; exact ho), h5, rfl, by simp, by simp [t21], by simp [t22], by simp [t19], by simp [t18], by simp [t0], by simp [t1], by simp [t2], by simp [t3], by simp [t4]⟩
    · obtain rfl : lo = hi := by omega
      simp (disch := omega) [t20, t21]
      exact hQ _ _ ⟨rfl, lo, h1, h3, h4, h5, by simp [t20], by simp [t19], by simp [t18], by simp [t0], by simp [t1], by simp [t2], by simp [t3], by simp [t4]⟩
  rintro T' M2 ⟨rfl, s, h1, h2, h3, h4, t20, t19, t18, t0, t1, t2, t3, t4⟩
  obtain ⟨e, he⟩ : ∃ e, e + s = mid + m := ⟨mid + m - s, by omega⟩
  have ee : (mid : Int) + m - s = e := by omega
  obtain ⟨X1, hX1⟩ : ∃ L, L = X.take (s - a) := ⟨_, rfl⟩
  obtain ⟨X2, hX2⟩ : ∃ L, L = X.drop (s - a) := ⟨_, rfl⟩
  obtain ⟨Y1, hY1⟩ : ∃ L, L = Y.take (mid - s) := ⟨_, rfl⟩
  obtain ⟨Y2, hY2⟩ : ∃ L, L = Y.drop (mid - s) := ⟨_, rfl⟩
  have eX : X1 ++ X2 = X := by rw [hX1, hX2, List.take_append_drop]
  have eY : Y1 ++ Y2 = Y := by rw [hY1, hY2, List.take_append_drop]
  have lX1 : X1.length = s - a := by rw [hX1, List.length_take]; omega
  have lX2 : X2.length = m - s := by rw [hX2, List.length_drop]; omega
  have lY1 : Y1.length = mid - s := by rw [hY1, List.length_take]; omega
  have lY2 : Y2.length = Y.length - (mid - s) := by rw [hY2, List.length_drop]
  have c1 : ∀ x, x ∈ X1 → ∀ y, y ∈ Y2 → LeN x y := by
    intro x hx y hy
    rcases h3 with h3 | h3
    · rcases hsr with ⟨q1, q2, q3⟩ | ⟨q1, q2, q3⟩
      · rw [nil_of_len (L := Y2) (by omega)] at hy; cases hy
      · rw [nil_of_len (L := X1) (by omega)] at hx; cases hx
    by_cases hss : s = s0
    · rcases hsr with ⟨q1, q2, q3⟩ | ⟨q1, q2, q3⟩
      · rw [nil_of_len (L := Y2) (by omega)] at hy; cases hy
      · rw [nil_of_len (L := X1) (by omega)] at hx; cases hx
    have hz : mid - s < Y.length := by omega
    have a1 := low_le (z := el Y (mid - s)) (k := s - a) sX hvX (hvY _ (el_mem hz)) (by omega) (.inr (by rw [show s - a - 1 = s - 1 - a by omega]; exact LeN.swap h3)) x (by rw [← hX1]; exact hx)
    have a2 := high_le (z := el Y (mid - s)) (k := mid - s) sY hvY (hvY _ (el_mem hz)) (.inr (by show ordN _ _ ≤ 0; rw [ordN_self]; omega)) y (by rw [← hY2]; exact hy)
    exact ordN_trans (hvX _ (by rw [← eX]; exact List.mem_append_left _ hx)) (hvY _ (el_mem hz)) (hvY _ (by rw [← eY]; exact List.mem_append_right _ hy)) a1 a2
  have c2 : ∀ y, y ∈ Y1 → ∀ x, x ∈ X2 → LeN y x := by
    intro y hy x hx
    by_cases hss : s = r0
    · rcases hsr with ⟨q1, q2, q3⟩ | ⟨q1, q2, q3⟩
      · rw [nil_of_len (L := Y1) (by omega)] at hy; cases hy
      · rw [nil_of_len (L := X2) (by omega)] at hx; cases hx
    rcases h4 with h4 | h4
    · omega
    have hz : s - a < X.length := by omega
    have a1 := low_le (z := el X (s - a)) (k := mid - s) sY hvY (hvX _ (el_mem hz)) (by omega) (.inr (by rw [show mid - s - 1 = mid - 1 - s by omega]; exact LeN.of_lt h4)) y (by rw [← hY1]; exact hy)
    have a2 := high_le (z := el X (s - a)) (k := s - a) sX hvX (hvX _ (el_mem hz)) (.inr (by show ordN _ _ ≤ 0; rw [ordN_self]; omega)) x (by rw [← hX2]; exact hx)
    exact ordN_trans (hvY _ (by rw [← eY]; exact List.mem_append_left _ hy)) (hvX _ (el_mem hz)) (hvX _ (by rw [← eX]; exact List.mem_append_right _ hx)) a1 a2
  have sX' : (X1 ++ X2).Pairwise LeN := by rw [eX]; exact sX
  have sY' : (Y1 ++ Y2).Pairwise LeN := by rw [eY]; exact sY
  have pX := List.pairwise_append.1 sX'
  have pY := List.pairwise_append.1 sY'
  have vX1 : ∀ x, x ∈ X1 → noteB x = true := fun x hx => hvX x (by rw [← eX]; exact List.mem_append_left _ hx)
  have vX2 : ∀ x, x ∈ X2 → noteB x = true := fun x hx => hvX x (by rw [← eX]; exact List.mem_append_right _ hx)
  have vY1 : ∀ x, x ∈ Y1 → noteB x = true := fun x hx => hvY x (by rw [← eY]; exact List.mem_append_left _ hx)
  have vY2 : ∀ x, x ∈ Y2 → noteB x = true := fun x hx => hvY x (by rw [← eY]; exact List.mem_append_right _ hx)
  have hl2 : l = A ++ (X1 ++ (X2 ++ (Y1 ++ (Y2 ++ Z)))) := by rw [hl, ← eX, ← eY]; simp
  clear hX1 hX2 hY1 hY2 h3 h4
  rw [aw_seq]
  simp (disch := omega) [t19, t20, wrap_in, ee, -aw_seq]
  rw [aw_seq]
  refine awThen_join (fun T' M' => M' = stN M2 id t (A ++ (X1 ++ (Y1 ++ (X2 ++ (Y2 ++ Z))))) ∧ look T' 24 = some (iv e) ∧ look T' 20 = some (iv s) ∧ look T' 18 = some (iv mid) ∧ look T' 0 = some (.slice (some ⟨id, 0, none⟩) n c) ∧ look T' 1 = some (iv a) ∧ look T' 3 = some (iv b) ∧ look T' 4 = some cmpV) ?_ ?_
  · intro Q' hQ
    by_cases g1 : s < m
    · have g1' : (s : Int) < m := by omega
      by_cases g2 : m < e
      · have g2' : (m : Int) < e := by omega
        simp (disch := omega) [t20, t2, t0, t4, g1, g1', g2, g2']
        refine awCall_ctr ((rotate_a (A := A ++ X1) (X := X2) (Y := Y1) (Z := Y2 ++ Z) (l := l) (t := t) (c := c) (a := s) (m := m) (b := e) (by rw [hl2]; simp) h hB hn hn2 (by simp only [List.length_append]; omega) (by omega) (by omega) (by omega) (by omega) rfl).weaken (by simp)) ?_
        rintro r M3 ⟨rfl, rfl⟩
        simp (disch := omega)
        exact hQ _ _ ⟨by simp, by simp, by simp [t20], by simp [t18], by simp [t0], by simp [t1], by simp [t3], by simp [t4]⟩
      · have g2' : ¬ (m : Int) < e := by omega
        simp (disch := omega) [t20, t2, t0, t4, g1, g1', g2, g2']
        refine hQ _ _ ⟨?_, by simp, by simp [t20], by simp [t18], by simp [t0], by simp [t1], by simp [t3], by simp [t4]⟩
        rw [show A ++ (X1 ++ (Y1 ++ (X2 ++ (Y2 ++ Z)))) = l from by rw [hl2, nil_of_len (L := Y1) (by omega)]; simp, stN_self h]
    · have g1' : ¬ (s : Int) < m := by omega
      simp (disch := omega) [t20, t2, t0, t4, g1, g1']
      refine hQ _ _ ⟨?_, by simp, by simp [t20], by simp [t18], by simp [t0], by simp [t1], by simp [t3], by simp [t4]⟩
      rw [show A ++ (X1 ++ (Y1 ++ (X2 ++ (Y2 ++ Z)))) = l from by rw [hl2, nil_of_len (L := X2) (by omega)]; simp, stN_self h]
  clear t20 t19 t18 t0 t1 t2 t3 t4
  rintro T1 M3 ⟨rfl, t24, t20, t18, t0, t1, t3, t4⟩
  have hr := stN_row (t := t) (l := A ++ (X1 ++ (Y1 ++ (X2 ++ (Y2 ++ Z))))) hid
  have hln : (A ++ (X1 ++ (Y1 ++ (X2 ++ (Y2 ++ Z))))).length = n := by simp only [List.length_append]; omega
  rw [aw_seq]
  refine awThen_join (fun T' M' => ∃ V1, V1.Perm (X1 ++ Y1) ∧ V1.Pairwise LeN ∧ M' = stN M2 id t (A ++ (V1 ++ (X2 ++ (Y2 ++ Z)))) ∧ look T' 24 = some (iv e) ∧ look T' 18 = some (iv mid) ∧ look T' 0 = some (.slice (some ⟨id, 0, none⟩) n c) ∧ look T' 3 = some (iv b) ∧ look T' 4 = some cmpV) ?_ ?_
  · intro Q' hQ
    by_cases g1 : a < s
    · have g1' : (a : Int) < s := by omega
      by_cases g2 : s < mid
      · have g2' : (s : Int) < mid := by omega
        simp (disch := omega) [t20, t18, t1, t0, t4, g1, g1', g2, g2']
        refine awCall_ctr ((ih (A := A) (X := X1) (Y := Y1) (Z := X2 ++ (Y2 ++ Z)) (t := t) (c := c) (a := a) (m := s) (b := mid) (by omega) rfl hr hB hln hn2 ha (by omega) (by omega) (by omega) (by omega) vX1 vY1 pX.1 pY.1).weaken (by simp)) ?_
        rintro r M4 ⟨rfl, V1, p1, s1, rfl⟩
        try simp (disch := omega)
        exact hQ _ _ ⟨V1, p1, s1, by rw [stN_stN], by simp [t24], by simp [t18], by simp [t0], by simp [t3], by simp [t4]⟩
      · have g2' : ¬ (s : Int) < mid := by omega
        simp (disch := omega) [t20, t18, t1, t0, t4, g1, g1', g2, g2']
        obtain rfl := nil_of_len (L := Y1) (by omega)
        exact hQ _ _ ⟨X1, by simp, pX.1, by simp, by simp [t24], by simp [t18], by simp [t0], by simp [t3], by simp [t4]⟩
    · have g1' : ¬ (a : Int) < s := by omega
      simp (disch := omega) [t20, t18, t1, t0, t4, g1, g1']
      obtain rfl := nil_of_len (L := X1) (by omega)
      exact hQ _ _ ⟨Y1, by simp, pY.1, by simp, by simp [t24], by simp [t18], by simp [t0], by simp [t3], by simp [t4]⟩
  clear t20 t24 t18 t0 t1 t3 t4
  rintro T1 M3 ⟨V1, p1, s1, rfl, t24, t18, t0, t3, t4⟩
  have hr := stN_row (t := t) (l := A ++ (V1 ++ (X2 ++ (Y2 ++ Z)))) hid
  have lV1 := p1.length_eq
  simp only [List.length_append] at lV1
  have hln : (A ++ (V1 ++ (X2 ++ (Y2 ++ Z)))).length = n := by simp only [List.length_append]; omega
  have fin : ∀ V2, V2.Perm (X2 ++ Y2) → V2.Pairwise LeN → ∃ V, V.Perm (X ++ Y) ∧ V.Pairwise LeN ∧ stN M2 id t (A ++ (V1 ++ (V2 ++ Z))) = stN M2 id t (A ++ (V ++ Z)) := fun V2 p2 s2 => by
    obtain ⟨q1, q2⟩ := halves sX' sY' c1 c2 p1 p2 s1 s2
    rw [eX, eY] at q1
    exact ⟨V1 ++ V2, q1, q2, by simp⟩
  by_cases g1 : mid < e
  · have g1' : (mid : Int) < e := by omega
    by_cases g2 : e < b
    · have g2' : (e : Int) < b := by omega
      simp (disch := omega) [t24, t18, t3, t0, t4, g1, g1', g2, g2']
      refine awCall_ctr ((ih (A := A ++ V1) (X := X2) (Y := Y2) (Z := Z) (t := t) (c := c) (a := mid) (m := e) (b := b) (by omega) (by simp) hr hB hln hn2 (by simp only [List.length_append]; omega) (by omega) (by omega) (by omega) (by omega) vX2 vY2 pX.2.1 pY.2.1).weaken (by simp)) ?_
      rintro r M4 ⟨rfl, V2, p2, s2, rfl⟩
      simp (disch := omega)
      rw [stN_stN]
      obtain ⟨V, v1, v2, v3⟩ := fin V2 p2 s2
      exact ⟨V, v1, v2, by rw [← v3]⟩
    · have g2' : ¬ (e : Int) < b := by omega
      simp (disch := omega) [t24, t18, t3, t0, t4, g1, g1', g2, g2']
      obtain rfl := nil_of_len (L := Y2) (by omega)
      exact fin X2 (by simp) pX.2.1
  · have g1' : ¬ (mid : Int) < e := by omega
    simp (disch := omega) [t24, t18, t3, t0, t4, g1, g1']
    obtain rfl := nil_of_len (L := X2) (by omega)
    exact fin Y2 (by simp) pY.2.1
theorem merge_to : ∀ N, MergeTo N
  | 0 => by
    intros
    omega
  | N + 1 => merge_step (merge_to N)
theorem merge_a {M : Mem} {B id n c a m b : Nat} {t : Bool} {A X Y Z l : List Note} (hl : l = A ++ (X ++ (Y ++ Z))) (h : M[id]? = some (noteS t l)) (hB : B ≤ id) (hn : l.length = n) (hn2 : n ≤ 100000) (ha : a = A.length) (hm : m = a + X.length) (hb : b = m + Y.length) (hX : 0 < X.length) (hY : 0 < Y.length)
    (hvX : ∀ x, x ∈ X → noteB x = true) (hvY : ∀ y, y ∈ Y → noteB y = true) (sX : X.Pairwise LeN) (sY : Y.Pairwise LeN) :
    Ctr Try.prog B 105 [.slice (some ⟨id, 0, none⟩) n c, iv a, iv m, iv b, cmpV] M fun r M' => r = .tuple #[] ∧ ∃ V, V.Perm (X ++ Y) ∧ V.Pairwise LeN ∧ M' = stN M id t (A ++ (V ++ Z)) :=
  merge_to _ (Nat.le_refl _) hl h hB hn hn2 ha hm hb hX hY hvX hvY sX sY
end Go.Proofs.Ytbpaeonfebmomaa

namespace Go.Proofs.Ytbpaeonfebmomaa
open Go.RowKit
set_option linter.unusedVariables false
set_option linter.unusedSimpArgs false
set_option maxRecDepth 100000
attribute [local simp] List.getElem?_cons_zero
attribute [local irreducible] awCond awCall awLoop awDraw ow retQ retC resQ Keeps
/-- What stands from p up to q is in order. -/
def SegS (L : List Note) (p q : Nat) : Prop := ∀ i j, p ≤ i → i < j → j < q → j < L.length → LeN (el L i) (el L j)
theorem el_lo {A V Z : List Note} {i : Nat} (h : i < A.length) : el (A ++ (V ++ Z)) i = el A i := el_append_left h
theorem el_hi {A V Z : List Note} {i : Nat} (h : A.length + V.length ≤ i) : el (A ++ (V ++ Z)) i = el Z (i - (A.length + V.length)) := by
  rw [el_append_right (by omega), el_append_right (by omega)]
  congr 1
  omega
theorem seg_of_pw {A V Z : List Note} {p q : Nat} (h : V.Pairwise LeN) (hp : p = A.length) (hq : q ≤ A.length + V.length) : SegS (A ++ (V ++ Z)) p q := by
  intro i j h1 h2 h3 h4
  obtain ⟨i', rfl⟩ : ∃ i', i = A.length + i' := ⟨i - A.length, by omega⟩
  obtain ⟨j', rfl⟩ : ∃ j', j = A.length + j' := ⟨j - A.length, by omega⟩
  rw [el_seg (by omega), el_seg (by omega)]
  exact pw_el h (by omega) (by omega)
theorem pw_of_seg {A V Z : List Note} {p q : Nat} (h : SegS (A ++ (V ++ Z)) p q) (hp : p = A.length) (hq : A.length + V.length ≤ q) : V.Pairwise LeN := by
  rw [List.pairwise_iff_getElem]
  intro i j hi hj hij
  have := h (A.length + i) (A.length + j) (by omega) (by omega) (by omega) (by simp only [List.length_append]; omega)
  rw [el_seg hi, el_seg hj] at this
  rwa [el_eq hi, el_eq hj]
theorem seg_low {A V V' Z : List Note} {p q : Nat} (h : SegS (A ++ (V ++ Z)) p q) (hq : q ≤ A.length) : SegS (A ++ (V' ++ Z)) p q := by
  intro i j h1 h2 h3 h4
  have := h i j h1 h2 h3 (by simp only [List.length_append]; omega)
  rw [el_lo (by omega), el_lo (by omega)] at this ⊢
  exact this
theorem seg_high {A V V' Z : List Note} {p q : Nat} (h : SegS (A ++ (V ++ Z)) p q) (hl : V.length = V'.length) (hp : A.length + V.length ≤ p) : SegS (A ++ (V' ++ Z)) p q := by
  intro i j h1 h2 h3 h4
  have := h i j h1 h2 h3 (by simp only [List.length_append] at h4 ⊢; omega)
  rw [el_hi (by omega), el_hi (by omega)] at this ⊢
  rw [← hl]
  exact this
theorem seg_void {L : List Note} {p q : Nat} (h : L.length ≤ p + 1) : SegS L p q := fun i j h1 h2 h3 h4 => by omega
theorem seg_cut {L : List Note} {p q q' : Nat} (h : SegS L p q) (hq : q' ≤ q ∨ L.length ≤ q) : SegS L p q' := fun i j h1 h2 h3 h4 => h i j h1 h2 (by omega) h4
theorem dvd_step {d p a : Nat} (hp : d ∣ p) (ha : d ∣ a) (h : p < a) : p + d ≤ a := by
  have := Nat.le_of_dvd (by omega) (Nat.dvd_sub ha hp)
  omega
/-- Three parts of a list. -/
theorem three (L : List Note) (p q : Nat) (hpq : p ≤ q) (hq : q ≤ L.length) : ∃ A V Z, L = A ++ (V ++ Z) ∧ A.length = p ∧ V.length = q - p := by
  refine ⟨L.take p, (L.drop p).take (q - p), (L.drop p).drop (q - p), by rw [List.take_append_drop, List.take_append_drop], by rw [List.length_take]; omega, by rw [List.length_take, List.length_drop]; omega⟩
theorem perm_mid {A V V' Z : List Note} (h : V'.Perm V) : (A ++ (V' ++ Z)).Perm (A ++ (V ++ Z)) := List.Perm.append_left A (List.Perm.append_right Z h)
theorem pw_whole {L : List Note} {q : Nat} (h : SegS L 0 q) (hq : L.length ≤ q) : L.Pairwise LeN := by
  rw [List.pairwise_iff_getElem]
  intro i j hi hj hij
  have := h i j (by omega) hij (by omega) hj
  rwa [el_eq hi, el_eq hj]
end Go.Proofs.Ytbpaeonfebmomaa

namespace Go.Proofs.Ytbpaeonfebmomaa
open Go.RowKit
set_option linter.unusedVariables false
set_option linter.unusedSimpArgs false
set_option maxRecDepth 100000
attribute [local simp] List.getElem?_cons_zero
attribute [local irreducible] awCond awCall awLoop awDraw ow retQ retC resQ Keeps
set_option maxHeartbeats 4000000 in
theorem stable_a {M : Mem} {B id n c : Nat} {t : Bool} {l : List Note} (h : M[id]? = some (noteS t l)) (hB : B ≤ id) (hn : l.length = n) (hn2 : n ≤ 1000) (hv : ∀ x, x ∈ l → noteB x = true) :
    Ctr Try.prog B 95 [.slice (some ⟨id, 0, none⟩) n c, iv n, cmpV] M fun r M' => r = .tuple #[] ∧ ∃ l', l'.Perm l ∧ l'.Pairwise LeN ∧ M' = stN M id t l' := by
  have hid := (List.getElem?_eq_some_iff.1 h).1
  first | (refine ctr_fn Try.func95 rfl Try.ntmps95 Try.results95 rfl rfl (by simp) ?_) | (refine ctr_fnC Try.func95 rfl Try.ntmps95 Try.results95 rfl (by simp) ?_)
  rw [aw_seq]
  simp (disch := omega) [wrap_in, -aw_seq]
  rw [aw_seq]
  simp (disch := omega) [wrap_in, -aw_seq]
  rw [aw_seq]
  simp (disch := omega) only [aw_block, aw_loop]
  refine awLoop_join (fun T' M' => ∃ (L : List Note) (a : Nat), L.Perm l ∧ a ≤ n ∧ n < a + 20 ∧ 20 ∣ a ∧ (∀ p, 20 ∣ p → p < a → SegS L p (p + 20)) ∧ M' = stN M id t L ∧ look T' 7 = some (iv a) ∧ look T' 6 = some (iv 20) ∧ look T' 0 = some (.slice (some ⟨id, 0, none⟩) n c) ∧ look T' 1 = some (iv n) ∧ look T' 2 = some cmpV) ?_ ?_
  · intro Q' hQ
    refine awLoop_T (fun d T' M' => ∃ (L : List Note) (a : Nat), d = n - a ∧ L.Perm l ∧ a ≤ n ∧ 20 ∣ a ∧ (∀ p, 20 ∣ p → p < a → SegS L p (p + 20)) ∧ M' = stN M id t L ∧ look T' 7 = some (iv a) ∧ look T' 8 = some (iv ((a : Int) + 20)) ∧ look T' 6 = some (iv 20) ∧ look T' 0 = some (.slice (some ⟨id, 0, none⟩) n c) ∧ look T' 1 = some (iv n) ∧ look T' 2 = some cmpV) n
      ⟨l, 0, rfl, .refl _, by omega, Nat.dvd_zero _, fun p _ hp => by omega, (stN_self h).symm, by simp, by simp, by simp, by simp, by simp, by simp⟩ ?_
    rintro d T' M' ⟨L, a, hd, hp, ha, hda, hs, rfl, t7, t8, t6, t0, t1, t2⟩
    have hLn : L.length = n := by rw [hp.length_eq, hn]
    by_cases hle : a + 20 ≤ n
    case neg =>
      have hle' : ¬ ((a : Int) + 20 ≤ n) := by omega
      simp (disch := omega) [t8, t1, hle, hle']
      exact hQ _ _ ⟨L, a, hp, ha, by omega, hda, hs, rfl, by simp [t7], by simp [t6], by simp [t0], by simp [t1], by simp [t2]⟩
    have hle' : ((a : Int) + 20 ≤ n) := by omega
    have hr := stN_row (t := t) (l := L) hid
    obtain ⟨A, V, Z, rfl, hA, hV⟩ := three L a (a + 20) (by omega) (by omega)
    have hvV : ∀ x, x ∈ V → noteB x = true := fun x hx => hv x (hp.mem_iff.1 (by simp [hx]))
    obtain ⟨q, hq⟩ : ∃ q, q = a + 20 := ⟨_, rfl⟩
    have e8 : (a : Int) + 20 = q := by omega
    have hqn : q ≤ n := by omega
    rw [e8] at t8
    simp (disch := omega) [t8, t7, t6, t0, t1, t2, hqn]
    refine awCall_ctr ((insertion_a (A := A) (X := V) (Z := Z) (t := t) (c := c) (a := a) (b := q) rfl hr hB hLn (by omega) hA.symm (by omega) hvV).weaken (by simp)) ?_
    rintro r M2 ⟨rfl, V', pv, sv, rfl⟩
    have lv := pv.length_eq
    try simp (disch := omega) [t8, t6, wrap_in]
    refine lpI (n - q) (by omega) ?_
    refine ⟨A ++ (V' ++ Z), q, rfl, (perm_mid pv).trans hp, hqn, by omega, fun p hpd hpa => ?_, by rw [stN_stN], by simp [t8], by simp [t8], by simp [t6], by simp [t0], by simp [t1], by simp [t2]⟩
    rcases Nat.lt_or_ge p a with hlt | hge
    · exact seg_low (hs p hpd hlt) (by have := dvd_step hpd hda hlt; omega)
    · exact seg_of_pw sv (by omega) (by omega)
  rintro T' M' ⟨L, a, hp, ha, hn20, hda, hs, rfl, t7, t6, t0, t1, t2⟩
  have hLn : L.length = n := by rw [hp.length_eq, hn]
  have hr := stN_row (t := t) (l := L) hid
  obtain ⟨A, V, Z, rfl, hA, hV⟩ := three L a n (by omega) (by omega)
  have hvV : ∀ x, x ∈ V → noteB x = true := fun x hx => hv x (hp.mem_iff.1 (by simp [hx]))
  have hZ : Z = [] := nil_of_len (by simp only [List.length_append] at hLn; omega)
  rw [aw_seq]
  simp (disch := omega) [t7, t0, t1, t2, -aw_seq]
  refine awCall_ctr ((insertion_a (A := A) (X := V) (Z := Z) (t := t) (c := c) (a := a) (b := n) rfl hr hB hLn (by omega) hA.symm (by omega) hvV).weaken (by simp)) ?_
  rintro r M2 ⟨rfl, V', pv, sv, rfl⟩
  have lv := pv.length_eq
  try simp (disch := omega) [t6, wrap_in, -aw_seq]
  have start : ∀ p, 20 ∣ p → SegS (A ++ (V' ++ Z)) p (p + 20) := fun p hpd => by
    rcases Nat.lt_or_ge p a with hlt | hge
    · exact seg_low (hs p hpd hlt) (by have := dvd_step hpd hda hlt; omega)
    · by_cases hpe : p = a
      · subst hpe
        exact seg_cut (seg_of_pw sv (by omega) (Nat.le_refl _)) (.inr (by rw [hZ]; simp))
      · refine seg_void ?_
        simp only [List.length_append, hZ, List.length_nil] at hLn ⊢
        omega
  have hp2 := (perm_mid (A := A) (Z := Z) pv).trans hp
  generalize A ++ (V' ++ Z) = L0 at start hp2
  clear hs hr hA hV hvV hZ pv sv lv hp hLn
  refine awLoop_T (fun d T M' => ∃ (L : List Note) (s : Nat), d = n - s ∧ L.Perm l ∧ 20 ≤ s ∧ s ≤ 2000 ∧ (∀ p, s ∣ p → SegS L p (p + s)) ∧ M' = stN M id t L ∧ look T 6 = some (iv s) ∧ look T 0 = some (.slice (some ⟨id, 0, none⟩) n c) ∧ look T 1 = some (iv n) ∧ look T 2 = some cmpV) (n - 20)
    ⟨L0, 20, rfl, hp2, Nat.le_refl _, by omega, start, by rw [stN_stN], by simp [t6], by simp [t0], by simp [t1], by simp [t2]⟩ ?_
  clear start hp2 t7 t6 t0 t1 t2 hda ha hn20 a
  rintro d T M' ⟨L, s, hd, hp, hs20, hs2, hS, rfl, t6, t0, t1, t2⟩
  have hLn : L.length = n := by rw [hp.length_eq, hn]
  by_cases hlt : s < n
  case neg =>
    have hlt' : ¬ ((s : Int) < n) := by omega
    simp (disch := omega) [t6, t1, hlt, hlt']
    refine ⟨L, hp, pw_whole (seg_cut (hS 0 (Nat.dvd_zero _)) (.inr (by omega))) (Nat.le_refl _), rfl⟩
  have hlt' : ((s : Int) < n) := by omega
  obtain ⟨w, hw⟩ : ∃ w, w = 2 * s := ⟨_, rfl⟩
  have ew : 2 * (s : Int) = w := by omega
  have hdw : s ∣ w := ⟨2, by omega⟩
  rw [aw_seq, aw_seq]
  simp (disch := omega) [t6, t1, hlt, hlt', -aw_seq]
  rw [aw_seq]
  simp (disch := omega) [t6, wrap_in, ew, -aw_seq]
  rw [aw_seq]
  simp (disch := omega) only [aw_block, aw_loop]
  refine awLoop_join (fun T' M' => ∃ (L : List Note) (a : Nat), L.Perm l ∧ a ≤ n ∧ n < a + w ∧ w ∣ a ∧ (∀ p, w ∣ p → p < a → SegS L p (p + w)) ∧ (∀ p, s ∣ p → a ≤ p → SegS L p (p + s)) ∧ M' = stN M id t L ∧ look T' 7 = some (iv a) ∧ look T' 6 = some (iv s) ∧ look T' 0 = some (.slice (some ⟨id, 0, none⟩) n c) ∧ look T' 1 = some (iv n) ∧ look T' 2 = some cmpV) ?_ ?_
  · intro Q' hQ
    refine awLoop_T (fun d T' M' => ∃ (L : List Note) (a b : Nat), d = n - a ∧ b = a + w ∧ L.Perm l ∧ a ≤ n ∧ w ∣ a ∧ (∀ p, w ∣ p → p < a → SegS L p (p + w)) ∧ (∀ p, s ∣ p → a ≤ p → SegS L p (p + s)) ∧ M' = stN M id t L ∧ look T' 7 = some (iv a) ∧ look T' 8 = some (iv b) ∧ look T' 6 = some (iv s) ∧ look T' 0 = some (.slice (some ⟨id, 0, none⟩) n c) ∧ look T' 1 = some (iv n) ∧ look T' 2 = some cmpV) n
      ⟨L, 0, w, rfl, by omega, hp, by omega, Nat.dvd_zero _, fun p _ h => by omega, fun p h1 _ => hS p h1, rfl, by simp, by simp, by simp [t6], by simp [t0], by simp [t1], by simp [t2]⟩ ?_
    clear hS hp hLn t6 t0 t1 t2 L
    rintro d T' M' ⟨L, a, b, hd, hb, hp, ha, hda, hs1, hs2, rfl, t7, t8, t6, t0, t1, t2⟩
    have hLn : L.length = n := by rw [hp.length_eq, hn]
    by_cases hle : b ≤ n
    case neg =>
      have hle' : ¬ ((b : Int) ≤ n) := by omega
      simp (disch := omega) [t8, t1, hle, hle']
      exact hQ _ _ ⟨L, a, hp, ha, by omega, hda, hs1, hs2, rfl, by simp [t7], by simp [t6], by simp [t0], by simp [t1], by simp [t2]⟩
    have hle' : ((b : Int) ≤ n) := by omega
    have hr := stN_row (t := t) (l := L) hid
    obtain ⟨m, hm⟩ : ∃ m, m = a + s := ⟨_, rfl⟩
    have em : (a : Int) + s = m := by omega
    obtain ⟨q, hq⟩ : ∃ q, q = b + w := ⟨_, rfl⟩
    have eq : (b : Int) + w = q := by omega
    obtain ⟨A, X, Z1, rfl, hA, hX⟩ := three L a m (by omega) (by omega)
    obtain ⟨O, Y, Z, rfl, hO, hY⟩ := three Z1 0 s (by omega) (by simp only [List.length_append] at hLn; omega)
    obtain rfl := nil_of_len hO
    simp only [List.nil_append] at *
    have hsa : s ∣ a := Nat.dvd_trans hdw hda
    have hsm : s ∣ m := by rw [hm]; exact Nat.dvd_add hsa (Nat.dvd_refl _)
    have sX := pw_of_seg (hs2 a hsa (Nat.le_refl _)) hA.symm (by omega)
    have sY : Y.Pairwise LeN := by
      have := hs2 m hsm (by omega)
      rw [show A ++ (X ++ (Y ++ Z)) = (A ++ X) ++ (Y ++ Z) by simp] at this
      exact pw_of_seg this (by simp only [List.length_append]; omega) (by simp only [List.length_append]; omega)
    have hvX : ∀ x, x ∈ X → noteB x = true := fun x hx => hv x (hp.mem_iff.1 (by simp [hx]))
    have hvY : ∀ x, x ∈ Y → noteB x = true := fun x hx => hv x (hp.mem_iff.1 (by simp [hx]))
    simp (disch := omega) [t8, t7, t6, t0, t1, t2, hle, hle', wrap_in, em]
    refine awCall_ctr ((merge_a (A := A) (X := X) (Y := Y) (Z := Z) (t := t) (c := c) (a := a) (m := m) (b := b) rfl hr hB hLn (by omega) hA.symm (by omega) (by omega) (by omega) (by omega) hvX hvY sX sY).weaken (by simp)) ?_
    rintro r M2 ⟨rfl, V, pv, sv, rfl⟩
    have lv := pv.length_eq
    simp only [List.length_append] at lv
    try simp (disch := omega) [t8, t6, wrap_in, ew, eq]
    refine lpI (n - b) (by omega) ?_
    refine ⟨A ++ (V ++ Z), b, q, rfl, by omega, ?_, hle, by rw [hb]; exact Nat.dvd_add hda (Nat.dvd_refl _), fun p hpd hpa => ?_, fun p hpd hpa => ?_, by rw [stN_stN], by simp [t8], by simp [t8], by simp [t6], by simp [t0], by simp [t1], by simp [t2]⟩
    · have := (perm_mid (A := A) (Z := Z) pv).trans (by simpa using hp)
      exact this
    · rcases Nat.lt_or_ge p a with hlt | hge
      · have h1 := hs1 p hpd hlt
        rw [← List.append_assoc X] at h1
        exact seg_low h1 (by have := dvd_step hpd hda hlt; omega)
      · have : p = a := by
          by_cases e : p = a
          · exact e
          · have := dvd_step hda hpd (by omega); omega
        exact seg_of_pw sv (by omega) (by omega)
    · have h1 := hs2 p hpd (by omega)
      rw [← List.append_assoc X] at h1
      exact seg_high h1 (by simp only [List.length_append]; omega) (by simp only [List.length_append]; omega)
  clear hS hp hLn t6 t0 t1 t2 L
  rintro T' M' ⟨L, a, hp, ha, hnb, hda, hs1, hs2, rfl, t7, t6, t0, t1, t2⟩
  have hLn : L.length = n := by rw [hp.length_eq, hn]
  have hr := stN_row (t := t) (l := L) hid
  obtain ⟨m, hm⟩ : ∃ m, m = a + s := ⟨_, rfl⟩
  have em : (a : Int) + s = m := by omega
  have hsa : s ∣ a := Nat.dvd_trans hdw hda
  have hsm : s ∣ m := by rw [hm]; exact Nat.dvd_add hsa (Nat.dvd_refl _)
  have ew2 : (s : Int) * 2 = w := by omega
  by_cases hmn : m < n
  case neg =>
    have hmn' : ¬ ((m : Int) < n) := by omega
    simp (disch := omega) [t7, t6, t1, wrap_in, em, hmn, hmn', ew2]
    refine lpI (n - w) (by omega) ?_
    refine ⟨L, w, rfl, hp, by omega, by omega, fun p hpd => ?_, rfl, by simp, by simp [t0], by simp [t1], by simp [t2]⟩
    rcases Nat.lt_or_ge p a with hlt | hge
    · exact hs1 p hpd hlt
    · by_cases hpe : p = a
      · subst hpe
        exact seg_cut (hs2 p hsa (Nat.le_refl _)) (.inr (by omega))
      · have := dvd_step hda hpd (by omega)
        exact seg_void (by omega)
  have hmn' : ((m : Int) < n) := by omega
  obtain ⟨A, X, Y, rfl, hA, hX⟩ := three L a m (by omega) (by omega)
  have hY : Y.length = n - m := by simp only [List.length_append] at hLn; omega
  have sX := pw_of_seg (hs2 a hsa (Nat.le_refl _)) hA.symm (by omega)
  have sY : Y.Pairwise LeN := by
    have := hs2 m hsm (by omega)
    rw [show A ++ (X ++ Y) = (A ++ X) ++ (Y ++ []) by simp] at this
    exact pw_of_seg this (by simp only [List.length_append]; omega) (by simp only [List.length_append]; omega)
  have hvX : ∀ x, x ∈ X → noteB x = true := fun x hx => hv x (hp.mem_iff.1 (by simp [hx]))
  have hvY : ∀ x, x ∈ Y → noteB x = true := fun x hx => hv x (hp.mem_iff.1 (by simp [hx]))
  simp (disch := omega) [t7, t6, t1, t0, t2, wrap_in, em, hmn, hmn']
  refine awCall_ctr ((merge_a (A := A) (X := X) (Y := Y) (Z := []) (t := t) (c := c) (a := a) (m := m) (b := n) (by simp) hr hB hLn (by omega) hA.symm (by omega) (by omega) (by omega) (by omega) hvX hvY sX sY).weaken (by simp)) ?_
  rintro r M2 ⟨rfl, V, pv, sv, rfl⟩
  have lv := pv.length_eq
  simp only [List.length_append] at lv
  try simp (disch := omega) [t6, wrap_in, ew2]
  refine lpI (n - w) (by omega) ?_
  refine ⟨A ++ V, w, rfl, (List.Perm.append_left A pv).trans hp, by omega, by omega, fun p hpd => ?_, by rw [stN_stN], by simp, by simp [t0], by simp [t1], by simp [t2]⟩
  rcases Nat.lt_or_ge p a with hlt | hge
  · have h1 := hs1 p hpd hlt
    rw [show A ++ (X ++ Y) = A ++ ((X ++ Y) ++ []) by simp] at h1
    have := seg_low (V' := V) h1 (by have := dvd_step hpd hda hlt; omega)
    simpa using this
  · by_cases hpe : p = a
    · subst hpe
      have := seg_of_pw (A := A) (Z := []) (p := p) (q := A.length + V.length) sv (by omega) (Nat.le_refl _)
      rw [List.append_nil] at this
      exact seg_cut this (.inr (by simp only [List.length_append]; omega))
    · have := dvd_step hda hpd (by omega)
      exact seg_void (by simp only [List.length_append]; omega)
theorem SortStable_a {M : Mem} {B id n c : Nat} {t : Bool} {l : List Note} (h : M[id]? = some (noteS t l)) (hB : B ≤ id) (hn : l.length = n) (hn2 : n ≤ 1000) (hv : ∀ x, x ∈ l → noteB x = true) :
    Ctr Try.prog B 68 [.slice (some ⟨id, 0, none⟩) n c, cmpV] M fun r M' => r = .tuple #[] ∧ ∃ l', l'.Perm l ∧ l'.Pairwise LeN ∧ M' = stN M id t l' := by
  first | (refine ctr_fn Try.func68 rfl Try.ntmps68 Try.results68 rfl rfl (by simp) ?_) | (refine ctr_fnC Try.func68 rfl Try.ntmps68 Try.results68 rfl (by simp) ?_)
  simp
  refine awCall_ctr ((stable_a (c := c) h hB hn hn2 hv).weaken (by simp)) ?_
  rintro r M2 ⟨rfl, l', h1, h2, rfl⟩
  try simp
  exact ⟨l', h1, h2, rfl⟩
end Go.Proofs.Ytbpaeonfebmomaa

namespace Go.Proofs.Ytbpaeonfebmomaa
open Go.RowKit
set_option linter.unusedVariables false
set_option linter.unusedSimpArgs false
set_option maxRecDepth 100000
attribute [local simp] List.getElem?_cons_zero
attribute [local irreducible] awCond awCall awLoop awDraw ow retQ retC resQ Keeps
theorem note_oneC (l : List Note) : (cellsL noteR l).all (fun u => u.oneCell') = true := by
  induction l with
  | nil => rfl
  | cons a l ih => rw [cellsL_cons, List.all_append, ih]; rfl
theorem CloneNote_a {M : Mem} {A : Option Addr} {n c : Nat} {l : List Note} (h : Sl noteR M A n l) (hn : n ≤ 1048576) : Ctr Try.prog M.length 67 [.slice A n c] M fun r M' => Acc noteR 53 M.length M' r l ∧ Keeps M M' := by
  have hl := h.1
  first | (refine ctr_fn Try.func67 rfl Try.ntmps67 Try.results67 rfl rfl (by simp) ?_) | (refine ctr_fnC Try.func67 rfl Try.ntmps67 Try.results67 rfl (by simp) ?_)
  rcases A with _ | ad
  · have h0 : l = [] := by
      apply List.eq_nil_of_length_eq_zero
      rcases Nat.eq_zero_or_pos n with e | e
      · omega
      · obtain ⟨_, _, e', _⟩ := h.2 e
        cases e'
    simp [nil_eq Try.underlying24]
    exact ⟨h0 ▸ .nil, Keeps.refl _⟩
  · simp [nil_eq Try.underlying24]
    refine cloneX (R := noteR) (e := 53) (by_ := 56) (l := l) (by exact h.keeps (keeps_app _)) (by omega) ⟨_, 0, 0, rfl, rfl, .inr ⟨M.length, true, rfl, Nat.le_refl _, by simp [cellsL]⟩⟩ (Nat.le_refl _) (by simp) (by simp) ⟨_, Try.underlying24⟩ (by kernel_rfl) (note_oneC _) (by omega) (by unfold maxLen; omega) ?_
    intro v' M2 hA hS
    try simp
    exact ⟨hA, hS.keeps (keeps_app _) (Nat.le_refl _)⟩
end Go.Proofs.Ytbpaeonfebmomaa

namespace Go.Proofs.Ytbpaeonfebmomaa
open Go.RowKit
set_option linter.unusedVariables false
set_option linter.unusedSimpArgs false
set_option maxRecDepth 100000
attribute [local simp] List.getElem?_cons_zero
attribute [local irreducible] awCond awCall awLoop awDraw ow retQ retC resQ Keeps
theorem insertion_nil {M : Mem} {B : Nat} : Ctr Try.prog B 104 [.slice none 0 0, iv 0, iv 0, cmpV] M fun r M' => r = .tuple #[] ∧ M' = M := by
  first | (refine ctr_fn Try.func104 rfl Try.ntmps104 Try.results104 rfl rfl (by simp) ?_) | (refine ctr_fnC Try.func104 rfl Try.ntmps104 Try.results104 rfl (by simp) ?_)
  simp (disch := omega) [wrap_in]
  refine awLoop_T (fun k T M' => k = 0 ∧ M' = M ∧ look T 8 = some (iv 1) ∧ look T 2 = some (iv 0)) 0 ⟨rfl, rfl, by simp, by simp⟩ ?_
  rintro k T M' ⟨rfl, rfl, t8, t2⟩
  simp (disch := omega) [t8, t2]
theorem stable_nil {M : Mem} {B : Nat} : Ctr Try.prog B 95 [.slice none 0 0, iv 0, cmpV] M fun r M' => r = .tuple #[] ∧ M' = M := by
  first | (refine ctr_fn Try.func95 rfl Try.ntmps95 Try.results95 rfl rfl (by simp) ?_) | (refine ctr_fnC Try.func95 rfl Try.ntmps95 Try.results95 rfl (by simp) ?_)
  simp (disch := omega) [wrap_in]
  refine awLoop_T (fun k T M' => k = 0 ∧ M' = M ∧ look T 8 = some (iv 20) ∧ look T 7 = some (iv 0) ∧ look T 6 = some (iv 20) ∧ look T 0 = some (.slice none 0 0) ∧ look T 1 = some (iv 0) ∧ look T 2 = some cmpV) 0 ⟨rfl, rfl, by simp, by simp, by simp, by simp, by simp, by simp⟩ ?_
  rintro k T M' ⟨rfl, rfl, t8, t7, t6, t0, t1, t2⟩
  simp (disch := omega) [t8, t7, t6, t0, t1, t2]
  refine awCall_ctr (insertion_nil (B := B)) ?_
  rintro r M2 ⟨rfl, rfl⟩
  try simp (disch := omega)
  refine awLoop_T (fun k T M' => k = 0 ∧ M' = M2 ∧ look T 6 = some (iv 20) ∧ look T 1 = some (iv 0)) 0 ⟨rfl, rfl, by simp [t6], by simp [t1]⟩ ?_
  rintro k T M' ⟨rfl, rfl, t6, t1⟩
  simp (disch := omega) [t6, t1]
theorem SortStable_nil {M : Mem} {B : Nat} : Ctr Try.prog B 68 [.slice none 0 0, cmpV] M fun r M' => r = .tuple #[] ∧ M' = M := by
  first | (refine ctr_fn Try.func68 rfl Try.ntmps68 Try.results68 rfl rfl (by simp) ?_) | (refine ctr_fnC Try.func68 rfl Try.ntmps68 Try.results68 rfl (by simp) ?_)
  simp
  refine awCall_ctr (stable_nil (B := B)) ?_
  rintro r M2 ⟨rfl, rfl⟩
  try simp
theorem SortAcc_a {M : Mem} {B b : Nat} {v : Value} {l : List Note} (hA : Acc noteR 53 B M v l) (hb : b ≤ B) (hn : l.length ≤ 1000) (hv : ∀ x, x ∈ l → noteB x = true) :
    Ctr Try.prog b 68 [v, cmpV] M fun r M' => r = .tuple #[] ∧ ∃ l', l'.Perm l ∧ l'.Pairwise LeN ∧ Acc noteR 53 B M' v l' ∧ Same B M M' := by
  obtain ⟨A, n, c, rfl, hl, hA⟩ := hA
  rcases hA with ⟨rfl, rfl, rfl⟩ | ⟨id, t, rfl, hid, hr⟩
  · obtain rfl := nil_of_len hl
    refine SortStable_nil.mono ?_
    rintro r M' ⟨h1, h2⟩
    exact ⟨h1, [], .refl _, .nil, .nil, by rw [h2]; exact .refl _ _⟩
  · refine (SortStable_a (B := b) (c := c) hr (by omega) hl (by omega) hv).mono ?_
    rintro r M' ⟨h1, l', p, s, h2⟩
    refine ⟨h1, l', p, s, ⟨_, n, c, rfl, by rw [p.length_eq, hl], .inr ⟨id, t, rfl, hid, ?_⟩⟩, ?_, ?_⟩
    · rw [h2]; exact stN_row (List.getElem?_eq_some_iff.1 hr).1
    · rw [h2, stN_len]; exact Nat.le_refl _
    · intro i s hi hs
      rw [h2]
      unfold stN
      rw [List.getElem?_set_ne (by omega)]
      exact hs
theorem sorted_i {M : Mem} {A : Option Addr} {n c : Nat} {l : List Note} (h : Sl noteR M A n l) (hn : n ≤ 1000) (hv : ∀ x, x ∈ l → noteB x = true) :
    Ctr Try.prog M.length 38 [.slice A n c] M fun r M' => ∃ l', l'.Perm l ∧ l'.Pairwise LeN ∧ Acc noteR 53 M.length M' r l' ∧ Keeps M M' := by
  first | (refine ctr_fn Try.func38 rfl Try.ntmps38 Try.results38 rfl rfl (by simp) ?_) | (refine ctr_fnC Try.func38 rfl Try.ntmps38 Try.results38 rfl (by simp) ?_)
  simp
  refine awCall_ctr ((CloneNote_a (c := c) h (by omega)).weaken (by simp)) ?_
  rintro v M1 ⟨hA, hk⟩
  try simp
  refine awCall_ctr ((SortAcc_a (b := M.length) hA (Nat.le_refl _) (by have := h.1; omega) hv).weaken (by simp)) ?_
  rintro r M2 ⟨rfl, l', p, s, hA2, hS⟩
  try simp
  exact ⟨l', p, s, hA2, hS.keeps hk (Nat.le_refl _)⟩
end Go.Proofs.Ytbpaeonfebmomaa

namespace Go.Proofs.Ytbpaeonfebmomaa
open Go.RowKit
set_option linter.unusedVariables false
set_option linter.unusedSimpArgs false
set_option maxRecDepth 100000
attribute [local simp] List.getElem?_cons_zero
attribute [local irreducible] awCond awCall awLoop awDraw ow retQ retC resQ Keeps
abbrev sndV (o k : Int) : Value := .agg #[iv o, iv k]
theorem lit_wf {o : Int} (ho : 0 ≤ o ∧ o ≤ 1000) : (Lit.int .i64 o).wf = true := by
  have h1 : IntKind.i64.min = -9223372036854775808 := by decide
  have h2 : IntKind.i64.max = 9223372036854775807 := by decide
  simp only [Lit.wf, h1, h2, Bool.and_eq_true, decide_eq_true_eq]
  omega
theorem snd_lits {n : Nat} (o k : Int) (ho : 0 ≤ o ∧ o ≤ 1000) (hk : 0 ≤ k ∧ k ≤ 1000) : Try.prog.keyLits (n + 2) 75 [iv o, iv k] = some [.int .i64 o, .int .i64 k] := by
  have e2 : Try.prog.cellsOf 2 = 1 := by kernel_rfl
  have e75 : Try.prog.cellsOf 75 = 2 := by kernel_rfl
  have u2 : Try.prog.underlying 2 = some (.int .i64) := by kernel_rfl
  have in2 : ∀ x : Int, 0 ≤ x ∧ x ≤ 1000 → Try.prog.keyLits (n + 1) 2 [iv x] = some [.int .i64 x] := fun x hx => by
    unfold Program.keyLits
    rw [u2]
    simp [lit_wf hx]
  unfold Program.keyLits
  rw [Try.underlying75]
  simp [e2, e75, in2 o ho, in2 k hk]
theorem snd_keyOf (o k : Int) (ho : 0 ≤ o ∧ o ≤ 1000) (hk : 0 ≤ k ∧ k ≤ 1000) : ∃ l, keyOf Try.prog 75 (sndV o k) = some l := by
  have h1 : Try.prog.keyType 75 = true := by kernel_rfl
  have h2 : (sndV o k).formed Try.prog 75 = true := by kernel_rfl
  obtain ⟨n, hn⟩ : ∃ n, Try.prog.types.size = n + 1 := ⟨Try.prog.types.size - 1, by decide +kernel⟩
  unfold keyOf
  rw [Try.underlying75]
  simp only [h1, h2, Bool.and_self, if_true]
  have := snd_lits (n := n) o k ho hk
  rw [hn, show (sndV o k).cells.toList = [iv o, iv k] from rfl, this]
  exact ⟨_, rfl⟩
theorem snd_law : WideMaps.KeyLaw Try.prog 75 := Go.deep_law (m := 5) (by omega) (by kernel_rfl) (by kernel_rfl) (by rw [Try.underlying75])
open Classical in
theorem findE_none {k : Value} : ∀ (l : List (Value × Value)) (i : Nat), (∀ e ∈ l, e.1 ≠ k) → findE k l i = none
  | [], _, _ => rfl
  | e :: es, i, h => by
    rw [findE, if_neg (h e (by simp))]
    exact findE_none es (i + 1) fun x hx => h x (by simp [hx])
open Classical in
theorem findE_at {k : Value} : ∀ (l : List (Value × Value)) (i j : Nat) (e : Value × Value), l[j]? = some e → e.1 = k → (∀ q x, q < j → l[q]? = some x → x.1 ≠ k) → findE k l i = some (i + j, e.2)
  | [], _, _, _, h, _, _ => by simp at h
  | x :: es, i, 0, e, h, hk, _ => by
    simp at h; subst h
    rw [findE, if_pos hk]; rfl
  | x :: es, i, j + 1, e, h, hk, hn => by
    rw [findE, if_neg (hn 0 x (by omega) (by simp)), findE_at es (i + 1) j e (by simpa using h) hk fun q y hq hy => hn (q + 1) y (by omega) (by simpa using hy), show i + 1 + j = i + (j + 1) by omega]
theorem snd_keyLaw (o k : Int) (ho : 0 ≤ o ∧ o ≤ 1000) (hk : 0 ≤ k ∧ k ≤ 1000) (ks : List Value) (hks : ∀ x ∈ ks, ∃ o k : Int, x = sndV o k ∧ (0 ≤ o ∧ o ≤ 1000) ∧ (0 ≤ k ∧ k ≤ 1000)) (hnd : ks.Nodup) : KeyLawP Try.prog 75 (sndV o k) ks := by
  obtain ⟨lx, hx⟩ := snd_keyOf o k ho hk
  refine ⟨fun e w => snd_law.check w e hx, fun m w hm => ?_⟩
  have hall : ∀ e ∈ m, ∃ l, keyOf Try.prog 75 e.key = some l := fun e he => by
    obtain ⟨o', k', e1, h1, h2⟩ := hks e.key (by rw [← hm]; exact List.mem_map_of_mem he)
    rw [e1]
    exact snd_keyOf o' k' h1 h2
  have hnd' : (m.map (·.key)).Nodup := by rw [hm]; exact hnd
  rcases snd_law.find w hx m hall with ⟨h1, h2⟩ | ⟨j, e, h1, h2, h3⟩
  · rw [h1, findE_none]
    intro e he
    obtain ⟨x, hx, rfl⟩ := List.mem_map.1 he
    exact h2 x hx
  · rw [h1, findE_at _ 0 j (e.key, e.val) (by simp [h2]) h3 fun q x hq hxq => ?_, Nat.zero_add]
    intro hh
    rw [List.getElem?_map] at hxq
    cases hmq : m[q]? with
    | none => rw [hmq] at hxq; cases hxq
    | some y =>
      rw [hmq] at hxq
      simp at hxq
      subst hxq
      have a1 : (m.map (·.key))[q]? = some (sndV o k) := by rw [List.getElem?_map, hmq]; simp; exact hh
      have a2 : (m.map (·.key))[j]? = some (sndV o k) := by rw [List.getElem?_map, h2]; simp; exact h3
      have hql := (List.getElem?_eq_some_iff.1 a1).1
      have := (List.getElem?_inj hql hnd').1 (a1.trans a2.symm)
      omega
end Go.Proofs.Ytbpaeonfebmomaa

namespace Go.Proofs.Ytbpaeonfebmomaa
open Go.RowKit
set_option linter.unusedVariables false
set_option linter.unusedSimpArgs false
theorem awDraw_W {P : Program} {b : Nat} {ops : List Oper} {Q : St → Prop} {S : St} (mem : (Nat → Bool) → Mem) (φ : Nat → Value)
    (h1 : P.follows .mixedOrders = true) (h2 : drawBack ⟨ops⟩ = true) (h3 : dstOnce ⟨ops⟩ = true) (h0 : S.M = mem fun _ => false)
    (hstep : ∀ (X : Nat → Bool) (k : Nat) (o : Oper) (T : List (Nat × Value)) (K : Value → Mem → Prop), X k = false → (∀ j d, edge ops k j = true → dstOf ⟨ops⟩ j = some d → look T d = some (φ j)) → (∀ t, noDst ⟨ops⟩ t = true → look T t = look S.T t) → ops[k]? = some o →
      (∀ v, (v = φ k ∨ dstOf ⟨ops⟩ k = none) → K v (mem (upX X k))) → sOp P false b o ⟨S.n, T, mem X⟩ K)
    (hend : ∀ (X : Nat → Bool) (T : List (Nat × Value)), (∀ k, k < ops.length → X k = true) → (∀ t, noDst ⟨ops⟩ t = true → look T t = look S.T t) → Q ⟨S.n, T, mem X⟩) : awDraw P b ⟨ops⟩ Q S := by
  refine awDraw_G (fun X γ M => M = mem X ∧ ∀ k, X k = true → dstOf ⟨ops⟩ k ≠ none → γ k = φ k) h1 h2 h3 (fun γ => ⟨h0, fun k h => by cases h⟩) ?_ ?_
  · intro X γ T M k o K hC hT hG ho hX ha hK
    obtain ⟨rfl, hγ⟩ := hG
    refine hstep X k o T K hX (fun j d he hd => ?_) (fun t ht => hT.frame' t ht) ho fun v hv => hK v _ ⟨rfl, fun j hj hd => ?_⟩
    · have hj := edge_ahead ho ha j he
      rw [← hγ j hj (by rw [hd]; simp)]
      exact hT.done j d hj hd
    · by_cases e : j = k
      · subst e
        rw [show upG γ j v j = v by simp [upG]]
        exact hv.resolve_right hd
      · rw [upX_ne e] at hj
        rw [upG_ne e]
        exact hγ j hj hd
  · intro X γ T M hX hT hG
    obtain ⟨rfl, hγ⟩ := hG
    exact hend X T hX (fun t ht => hT.frame' t ht)
/-- The same, with guarded operations; the values are told at the end. -/
theorem awDraw_WG {P : Program} {b : Nat} {ops : List Oper} {Q : St → Prop} {S : St} (mem : (Nat → Bool) → Mem) (φ : Nat → Value)
    (h1 : P.follows .mixedOrders = true) (h2 : drawBackG ⟨ops⟩ = true) (h3 : dstOnce ⟨ops⟩ = true) (h0 : S.M = mem fun _ => false)
    (hstep : ∀ (X : Nat → Bool) (k : Nat) (o : Oper) (T : List (Nat × Value)) (K : Value → Mem → Prop), X k = false → (∀ j, edge ops k j = true → X j = true) → (∀ j d, edge ops k j = true → dstOf ⟨ops⟩ j = some d → look T d = some (φ j)) → (∀ t, noDst ⟨ops⟩ t = true → look T t = look S.T t) → ops[k]? = some o →
      (∀ v, (v = φ k ∨ dstOf ⟨ops⟩ k = none) → K v (mem (upX X k))) → awG ⟨ops⟩ o ⟨S.n, T, mem X⟩ (sOp P false b o ⟨S.n, T, mem X⟩ K) (K undef (mem X)))
    (hend : ∀ (X : Nat → Bool) (T : List (Nat × Value)), (∀ k, k < ops.length → X k = true) → (∀ k d, k < ops.length → dstOf ⟨ops⟩ k = some d → look T d = some (φ k)) → (∀ t, noDst ⟨ops⟩ t = true → look T t = look S.T t) → Q ⟨S.n, T, mem X⟩) : awDraw P b ⟨ops⟩ Q S := by
  refine awDraw_GG (fun X γ M => M = mem X ∧ ∀ k, X k = true → dstOf ⟨ops⟩ k ≠ none → γ k = φ k) h1 h2 h3 (fun γ => ⟨h0, fun k h => by cases h⟩) ?_ ?_
  · intro X γ T M k o K hC hT hG ho hX ha hK
    obtain ⟨rfl, hγ⟩ := hG
    refine hstep X k o T K hX (fun j he => edge_ahead ho ha j he) (fun j d he hd => ?_) (fun t ht => hT.frame' t ht) ho fun v hv => hK v _ ⟨rfl, fun j hj hd => ?_⟩
    · have hj := edge_ahead ho ha j he
      rw [← hγ j hj (by rw [hd]; simp)]
      exact hT.done j d hj hd
    · by_cases e : j = k
      · subst e
        rw [show upG γ j v j = v by simp [upG]]
        exact hv.resolve_right hd
      · rw [upX_ne e] at hj
        rw [upG_ne e]
        exact hγ j hj hd
  · intro X γ T M hX hT hG
    obtain ⟨rfl, hγ⟩ := hG
    exact hend X T hX (fun k d hk hd => by rw [← hγ k (hX k hk) (by rw [hd]; simp)]; exact hT.done k d (hX k hk) hd) (fun t ht => hT.frame' t ht)
theorem awG_none {ops : Array Oper} {o : Oper} {S : St} {A B : Prop} (h : o.guard = none) (hA : A) : awG ops o S A B := by
  unfold awG
  rw [h]
  exact hA
theorem awG_some {ops : Array Oper} {o : Oper} {S : St} {A B : Prop} {j d : Nat} {w y : Bool} (h : o.guard = some (j, w)) (hd : dstOf ops j = some d) (hg : S.get d = some (.bool y)) (hA : y = w → A) (hB : y = !w → B) : awG ops o S A B := by
  unfold awG
  rw [h]
  simp only
  rw [hd]
  exact ow_iff.2 ⟨_, hg, hA, hB⟩
end Go.Proofs.Ytbpaeonfebmomaa

namespace Go.Proofs.Ytbpaeonfebmomaa
open Go.RowKit
set_option linter.unusedVariables false
set_option linter.unusedSimpArgs false
set_option maxRecDepth 100000
attribute [local simp] List.getElem?_cons_zero
attribute [local irreducible] awCond awCall awLoop awDraw ow retQ retC resQ Keeps
def ScR (M : Mem) (w : List Note × Int) (r : Value) (M' : Mem) : Prop := ∃ v0, r = .tuple #[.agg #[v0], iv w.2] ∧ OwL noteR M.length M'.length M' v0 w.1 ∧ Keeps M M'
theorem ScR.no {M M' : Mem} {e : Int} (h : Keeps M M') : ScR M ([], e) (.tuple #[.agg #[.slice none 0 0], iv e]) M' := ⟨_, rfl, OwL.nil, h⟩
abbrev begV (x : Opn) : Value := .agg #[iv x.t, iv x.u]
def entO (os : List Opn) : List (Value × Value) := os.map fun x => (sndV x.o x.k, begV x)
set_option maxHeartbeats 4000000 in
theorem n_build7 (x y z w : Int) (a b c : Int) : Instr.fill (fun x => [(0, 2), (2, 2), (4, 1), (5, 1), (6, 1)][x]?) #[iv 0, iv 0, iv 0, iv 0, iv 0, iv 0, iv 0] [(0, .agg #[iv x, iv y]), (1, .agg #[iv z, iv w]), (2, iv a), (3, iv b), (4, iv c)] = some #[iv x, iv y, iv z, iv w, iv a, iv b, iv c] := by kernel_rfl
set_option maxHeartbeats 1000000 in
theorem noteOf_i {M : Mem} (e : StreamEvent) (x : Opn) (now D : Int) (hx : x.o = e.o ∧ x.k = e.k) (ht : 0 ≤ x.t ∧ x.t ≤ 1000000000000) (hn : 0 ≤ now ∧ now ≤ 1000000000000) (hD : 1 ≤ D ∧ D ≤ 960) :
    Det Try.prog M.length 37 [e.v, begV x, iv now, iv D] M (.tuple #[(mkN D x now).v, .bool (okM D x now)]) M := by
  first | (refine det_fn Try.func37 rfl Try.ntmps37 Try.results37 rfl rfl rfl (by simp) ?_) | (refine det_fnC Try.func37 rfl Try.ntmps37 Try.results37 rfl rfl (by simp) ?_)
  simp (disch := omega) [wrap_in]
  refine awCall_det' (MakeFrac_i x.t D (by omega) (by omega) (by omega) (by omega)) (by simp only [List.length_append]; omega) ?_
  simp (disch := omega) [wrap_in]
  refine awCall_det' (MakeFrac_i (now - x.t) D (by omega) (by omega) (by omega) (by omega)) (by simp only [List.length_append]; omega) ?_
  simp (disch := omega) [wrap_in, n_build7]
  obtain ⟨N, hN⟩ : ∃ N, N = mkN D x now := ⟨_, rfl⟩
  obtain ⟨c1, hc1⟩ : ∃ c1, c1 = (mkF x.t D).2 := ⟨_, rfl⟩
  obtain ⟨c2, hc2⟩ : ∃ c2, c2 = (mkF (now - x.t) D).2 := ⟨_, rfl⟩
  have hok : okM D x now = (decide (c1 = 0) && decide (c2 = 0) && noteB N) := by unfold okM; rw [hN, hc1, hc2, Bool.and_assoc]
  have hNv : N.v = Value.agg #[iv (mkF x.t D).1.n, iv (mkF x.t D).1.d, iv (mkF (now - x.t) D).1.n, iv (mkF (now - x.t) D).1.d, iv e.k, iv x.u, iv e.o] := by rw [hN, ← hx.1, ← hx.2]; rfl
  have hNr : N.row = [iv (mkF x.t D).1.n, iv (mkF x.t D).1.d, iv (mkF (now - x.t) D).1.n, iv (mkF (now - x.t) D).1.d, iv e.k, iv x.u, iv e.o] := by rw [hN, ← hx.1, ← hx.2]; rfl
  rw [← hN, hok, ← hc1, ← hc2, ← hNv, ← hNr]
  generalize Slot.live ⟨[iv e.d, iv e.j, iv e.o, iv e.k, iv e.u], true, true, 69, 5⟩ = r0
  generalize Slot.live ⟨[iv x.t, iv x.u], true, true, 77, 2⟩ = r1
  generalize Slot.live ⟨[iv (mkF x.t D).1.n, iv (mkF x.t D).1.d], true, true, 51, 2⟩ = r3
  generalize Slot.live ⟨[iv (mkF (now - x.t) D).1.n, iv (mkF (now - x.t) D).1.d], true, true, 51, 2⟩ = r4
  obtain ⟨zN, hzN⟩ : ∃ zN : List Value, zN = [iv 0, iv 0, iv 0, iv 0, iv 0, iv 0, iv 0] := ⟨_, rfl⟩
  have hload : ∀ X : Nat → Bool, cellsAt (M ++ [r0, r1, .live ⟨if X 11 = true then N.row else zN, true, true, 53, 7⟩, r3, r4, .live ⟨N.row, true, true, 53, 7⟩]) (M.length + 5) 0 7 = some [iv N.an, iv N.ad, iv N.ln, iv N.ld, iv N.k, iv N.u, iv N.o] := by
    intro X
    simp [cellsAt, Note.row]
  rw [← hzN]
  refine awDraw_WG (fun X => M ++ [r0, r1, .live ⟨if X 11 = true then N.row else zN, true, true, 53, 7⟩, r3, r4, .live ⟨N.row, true, true, 53, 7⟩]) (fun k => match k with
    | 0 => N.v
    | 1 => iv c1
    | 2 => .bool (decide (c1 = 0))
    | 3 => .bool (decide (c1 = 0))
    | 4 => if c1 = 0 then iv c2 else undef
    | 5 => if c1 = 0 then .bool (decide (c2 = 0)) else undef
    | 6 => .bool (decide (c1 = 0) && decide (c2 = 0))
    | 7 => .bool (decide (c1 = 0) && decide (c2 = 0))
    | 8 => if c1 = 0 ∧ c2 = 0 then N.v else undef
    | 9 => if c1 = 0 ∧ c2 = 0 then .bool (noteB N) else undef
    | 10 => .bool (decide (c1 = 0) && decide (c2 = 0) && noteB N)
    | 11 => undef
    | 12 => .bool (decide (c1 = 0) && decide (c2 = 0) && noteB N)
    | _ => undef) (by kernel_rfl) (by decide +kernel) (by decide +kernel) (by simp) ?_ ?_
  · intro X k o T K hX hd hp hf ho hK
    have g14 := hf 14 (by decide +kernel)
    have g11 := hf 11 (by decide +kernel)
    have g13 := hf 13 (by decide +kernel)
    have g8 := hf 8 (by decide +kernel)
    simp at g14 g11 g13 g8
    rcases k with _ | _ | _ | _ | _ | _ | _ | _ | _ | _ | _ | _ | _ | k
    · simp at ho; subst ho
      refine awG_none rfl ?_
      simp [g14, g11, g13, g8, hload X]
      have := hK _ (.inl rfl)
      simpa [upX] using this
    · simp at ho; subst ho
      refine awG_none rfl ?_
      simp [g14, g11, g13, g8, hload X]
      have := hK _ (.inl rfl)
      simpa [upX] using this
    · simp at ho; subst ho
      have p1 := hp 1 41 (by decide +kernel) rfl
      simp only at p1
      refine awG_none rfl ?_
      simp [g14, g11, g13, g8, hload X, p1]
      have := hK _ (.inl rfl)
      simpa [upX] using this
    · simp at ho; subst ho
      have p2 := hp 2 42 (by decide +kernel) rfl
      simp only at p2
      refine awG_none rfl ?_
      simp [g14, g11, g13, g8, hload X, p2]
      have := hK _ (.inl rfl)
      simpa [upX] using this
    · simp at ho; subst ho
      have p3 := hp 3 43 (by decide +kernel) rfl
      simp only at p3
      refine awG_some (j := 3) (d := 43) (w := true) (y := decide (c1 = 0)) rfl rfl (by simp [p3]) (fun hy => ?_) (fun hy => ?_)
      · simp at hy
        simp [hy, g14, g11, g13, g8, hload X]
        have := hK _ (.inl rfl)
        simpa [upX, hy] using this
      · have := hK undef (.inl (by simp at hy; simp; first | exact fun a => absurd a hy | exact fun a b => absurd b (hy a)))
        simpa [upX] using this
    · simp at ho; subst ho
      have p4 := hp 4 44 (by decide +kernel) rfl
      have p3 := hp 3 43 (by decide +kernel) rfl
      simp only at p4 p3
      refine awG_some (j := 3) (d := 43) (w := true) (y := decide (c1 = 0)) rfl rfl (by simp [p3]) (fun hy => ?_) (fun hy => ?_)
      · simp at hy
        simp [hy, g14, g11, g13, g8, hload X, p4]
        have := hK _ (.inl rfl)
        simpa [upX, hy] using this
      · have := hK undef (.inl (by simp at hy; simp; first | exact fun a => absurd a hy | exact fun a b => absurd b (hy a)))
        simpa [upX] using this
    · simp at ho; subst ho
      have p3 := hp 3 43 (by decide +kernel) rfl
      have p5 := hp 5 45 (by decide +kernel) rfl
      simp only at p3 p5
      refine awG_none rfl ?_
      have := hK _ (.inl rfl)
      by_cases e1 : c1 = 0 <;> by_cases e2 : c2 = 0 <;> simp [p3, p5, e1, e2] <;> simpa [upX, e1, e2] using this
    · simp at ho; subst ho
      have p6 := hp 6 46 (by decide +kernel) rfl
      simp only at p6
      refine awG_none rfl ?_
      simp [g14, g11, g13, g8, hload X, p6]
      have := hK _ (.inl rfl)
      simpa [upX] using this
    · simp at ho; subst ho
      have p7 := hp 7 47 (by decide +kernel) rfl
      simp only at p7
      refine awG_some (j := 7) (d := 47) (w := true) (y := (decide (c1 = 0) && decide (c2 = 0))) rfl rfl (by simp [p7]) (fun hy => ?_) (fun hy => ?_)
      · simp at hy
        simp [hy, g14, g11, g13, g8, hload X]
        have := hK _ (.inl rfl)
        simpa [upX, hy] using this
      · have := hK undef (.inl (by simp at hy; simp; first | exact fun a => absurd a hy | exact fun a b => absurd b (hy a)))
        simpa [upX] using this
    · simp at ho; subst ho
      have p8 := hp 8 48 (by decide +kernel) rfl
      have p7 := hp 7 47 (by decide +kernel) rfl
      simp only at p8 p7
      refine awG_some (j := 7) (d := 47) (w := true) (y := (decide (c1 = 0) && decide (c2 = 0))) rfl rfl (by simp [p7]) (fun hy => ?_) (fun hy => ?_)
      · simp at hy
        simp [hy] at p8
        simp [p8]
        refine awCall_det' (isNote_i N) (by simp) ?_
        have := hK _ (.inl rfl)
        simpa [upX, hy] using this
      · have := hK undef (.inl (by simp at hy; simp; first | exact fun a => absurd a hy | exact fun a b => absurd b (hy a)))
        simpa [upX] using this
    · simp at ho; subst ho
      have p7 := hp 7 47 (by decide +kernel) rfl
      have p9 := hp 9 49 (by decide +kernel) rfl
      simp only at p7 p9
      refine awG_none rfl ?_
      have := hK _ (.inl rfl)
      by_cases e1 : c1 = 0 <;> by_cases e2 : c2 = 0 <;> simp [p7, p9, e1, e2] <;> simpa [upX, e1, e2] using this
    · simp at ho; subst ho
      have p0 := hp 0 40 (by decide +kernel) rfl
      simp only at p0
      refine awG_none rfl ?_
      simp [g8, p0]
      have := hK undef (.inr rfl)
      refine ⟨by split <;> simp [Note.row, hzN], ?_⟩
      have hset : (((((((if X 11 = true then N.row else zN).set 0 (iv N.an)).set 1 (iv N.ad)).set 2 (iv N.ln)).set 3 (iv N.ld)).set 4 (iv N.k)).set 5 (iv N.u)).set 6 (iv N.o) = N.row := by split <;> simp [Note.row, hzN]
      rw [hset]
      simpa [upX] using this
    · simp at ho; subst ho
      have p10 := hp 10 50 (by decide +kernel) rfl
      simp only at p10
      refine awG_none rfl ?_
      simp [g14, g11, g13, g8, hload X, p10]
      have := hK _ (.inl rfl)
      simpa [upX] using this
    · simp at ho
  · intro X T hX hv hf
    have g8 := hf 8 (by decide +kernel)
    have v9 := hv 12 9 (by decide) rfl
    have hX11 := hX 11 (by decide)
    simp at g8 v9
    simp [g8, v9, hX11, Note.row, keeps_app]
end Go.Proofs.Ytbpaeonfebmomaa
