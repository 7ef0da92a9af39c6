/- Parts of the proof, together: The sort's merge: where one of the runs has one note. The sort's merge: where the second run has one note. The sort's merge of two runs. Stretches of a list of notes that are in order: plain laws. The stable sort of notes. No conditions. -/
import Derived.Test.YtbpaeonfebmomaaZzF14
namespace Go.Proofs.Ytbpaeonfebmomaa
open Go.RowKit
set_option linter.unusedVariables false
set_option linter.unusedSimpArgs false
set_option maxRecDepth 100000
attribute [local simp] List.getElem?_cons_zero
attribute [local irreducible] awCond awCall awLoop awDraw ow retQ retC resQ Keeps
theorem half_sum (lo hi : Nat) : ((lo : Int) + hi).fdiv 2 = (((lo + hi) / 2 : Nat) : Int) := by
  rw [Int.fdiv_eq_ediv_of_nonneg _ (by omega)]
  omega
theorem shr_one {lo hi p : Nat} (hp : p = (lo + hi) / 2) : intV .shr .u64 ((lo : Int) + hi) 1 = some (.int .u64 (p : Int)) := by
  show (if (1 : Int) < 0 then none else some (Value.int IntKind.u64 (((lo : Int) + hi).fdiv (2 ^ (min (1 : Int).toNat IntKind.u64.bits))))) = _
  rw [if_neg (by omega), show (2 : Int) ^ (min (1 : Int).toNat IntKind.u64.bits) = 2 from by decide, half_sum, hp]
set_option maxHeartbeats 4000000 in
theorem merge_x {M : Mem} {B id n c a m b : Nat} {t : Bool} {A Y Z l : List Note} {x : Note} (hl : l = A ++ ([x] ++ (Y ++ Z))) (h : M[id]? = some (noteS t l)) (hB : B ≤ id) (hn : l.length = n) (hn2 : n ≤ 100000) (ha : a = A.length) (hm : m = a + 1) (hb : b = m + Y.length) (hY : 0 < Y.length) (hvx : noteB x = true) (hvY : ∀ y, y ∈ Y → noteB y = true) (sY : Y.Pairwise LeN) :
    Ctr Try.prog B 105 [.slice (some ⟨id, 0, none⟩) n c, iv a, iv m, iv b, cmpV] M fun r M' => r = .tuple #[] ∧ ∃ V, V.Perm ([x] ++ Y) ∧ V.Pairwise LeN ∧ M' = stN M id t (A ++ (V ++ Z)) := by
  have hid := (List.getElem?_eq_some_iff.1 h).1
  have hn' := hn
  rw [hl] at hn'
  simp only [List.length_append, List.length_cons, List.length_nil] at hn'
  have e0 : (m : Int) - a = 1 := by omega
  have elx : el l a = x := by rw [hl, ha]; exact el_app
  have elY : ∀ j, j < Y.length → el l (m + j) = el Y j := fun j hj => by
    have := el_seg (A := A ++ [x]) (X := Y) (R := Z) hj
    rw [hl, show m + j = (A ++ [x]).length + j by simp; omega]
    simpa using this
  first | (refine ctr_fn Try.func105 rfl Try.ntmps105 Try.results105 rfl rfl (by simp) ?_) | (refine ctr_fnC Try.func105 rfl Try.ntmps105 Try.results105 rfl (by simp) ?_)
  simp (disch := omega) [wrap_in, e0]
  refine awLoop_join (fun T' M' => M' = M ∧ ∃ k : Nat, k ≤ Y.length ∧ (k = 0 ∨ ordN (el Y (k - 1)) x < 0) ∧ (k = Y.length ∨ ¬ ordN (el Y k) x < 0) ∧ look T' 10 = some (iv ((m + k : Nat) : Int)) ∧ look T' 0 = some (.slice (some ⟨id, 0, none⟩) n c) ∧ look T' 1 = some (iv a)) ?_ ?_
  · intro Q' hQ
    refine awLoop_T (fun d T M' => ∃ (lo hi : Nat), d = hi - lo ∧ m ≤ lo ∧ lo ≤ hi ∧ hi ≤ b ∧ (lo = m ∨ ordN (el Y (lo - m - 1)) x < 0) ∧ (hi = b ∨ ¬ ordN (el Y (hi - m)) x < 0) ∧ M' = M ∧ look T 10 = some (iv lo) ∧ look T 11 = some (iv hi) ∧ look T 0 = some (.slice (some ⟨id, 0, none⟩) n c) ∧ look T 1 = some (iv a) ∧ look T 4 = some cmpV) (b - m)
      ⟨m, b, rfl, Nat.le_refl _, by omega, Nat.le_refl _, .inl rfl, .inl rfl, rfl, by simp, by simp, by simp, by simp, by simp⟩ ?_
    rintro d T M' ⟨lo, hi, hd, h1, h2, h3, h4, h5, rfl, t10, t11, t0, t1, t4⟩
    by_cases hlt : lo < hi
    · obtain ⟨p, hp⟩ : ∃ p, p = (lo + hi) / 2 := ⟨_, rfl⟩
      have hs := shr_one hp
      have hpm : m ≤ p := by omega
      have hcp : cellsAt M' id (p * 7) 7 = some (el Y (p - m)).row := by
        rw [stN_at h (by omega), ← elY (p - m) (by omega)]
        congr 2; congr 1; omega
      have hca : cellsAt M' id (a * 7) 7 = some x.row := by rw [stN_at h (by omega), elx]
      have hpn : p < n := by omega
      have han : a < n := by omega
      simp (disch := omega) [t10, t11, hlt, wrap_in, u64_in, hs]
      refine awDraw_E 9 [[],[],[],[1,2],[3,1,2],[],[],[5,6],[7,5,6],[0,4,3,1,2,8,7,5,6],[9,0,4,3,1,2,8,7,5,6]] (by kernel_rfl) (by kernel_rfl) ?_
      simp (disch := omega) [t10, t11, t0, t1, t4, wrap_in, stN_esz h, hcp, hca, hpn, han]
      refine awCall_det' (compareNotes_i (el Y (p - m)) x (hvY _ (el_mem (by omega))) hvx) (by omega) ?_
      by_cases ho : ordN (el Y (p - m)) x < 0
      · simp (disch := omega) [ho, t10, t11, wrap_in]
        refine lpI (hi - (p + 1)) (by omega) ?_
        exact ⟨p + 1, hi, rfl, by omega, by omega, h3, .inr (by rw [show p + 1 - m - 1 = p - m by omega]; exact ho), h5, rfl, by simp, by simp [t11], by simp [t0], by simp [t1], by simp [t4]⟩
      · simp (disch := omega) [ho, t10, t11, wrap_in]
        refine lpI (p - lo) (by omega) ?_
        exact ⟨lo, p, rfl, by omega, by omega, by omega, h4, .inr ho, rfl, by simp [t10], by simp, by simp [t0], by simp [t1], by simp [t4]⟩
    · obtain rfl : lo = hi := by omega
      simp (disch := omega) [t10, t11]
      refine hQ _ _ ⟨rfl, lo - m, by omega, ?_, ?_, by simp [t10]; omega, by simp [t0], by simp [t1]⟩
      · rcases h4 with h4 | h4
        · exact .inl (by omega)
        · exact .inr h4
      · rcases h5 with h5 | h5
        · exact .inl (by omega)
        · exact .inr h5
  · rintro T' M' ⟨rfl, k, hk, k1, k2, t10, t0, t1⟩
    have hV : (Y.take k ++ x :: Y.drop k).Pairwise LeN := ins_sorted (fun y hy => by
      rcases List.mem_append.1 hy with h | h
      · exact hvY y (List.mem_of_mem_take h)
      · rcases List.mem_cons.1 h with rfl | h
        · exact hvx
        · exact hvY y (List.mem_of_mem_drop h)) (by rw [List.take_append_drop]; exact sY)
      (high_le sY hvY hvx (k2.imp (fun h => h) LeN.swap)) (low_le sY hvY hvx hk (k1.imp (fun h => h) LeN.of_lt))
    have hP : (Y.take k ++ x :: Y.drop k).Perm ([x] ++ Y) := by
      refine List.perm_middle.trans ?_
      rw [List.take_append_drop]
      exact .refl _
    have htk : (Y.take k).length = k := by rw [List.length_take]; omega
    simp (disch := omega) [t10, t0, t1]
    refine awLoop_T (fun d T M2 => ∃ (U W : List Note) (j : Nat), d = W.length ∧ U ++ W = Y.take k ∧ j = a + U.length ∧ M2 = stN M' id t (A ++ (U ++ (x :: (W ++ (Y.drop k ++ Z))))) ∧ look T 13 = some (iv j) ∧ look T 10 = some (iv ((m + k : Nat) : Int)) ∧ look T 0 = some (.slice (some ⟨id, 0, none⟩) n c)) k
      ⟨[], Y.take k, a, htk.symm, rfl, by simp, by rw [show A ++ ([] ++ (x :: (Y.take k ++ (Y.drop k ++ Z)))) = l from by rw [hl, ← List.append_assoc (Y.take k), List.take_append_drop]; simp, stN_self h], by simp, by simp [t10], by simp [t0]⟩ ?_
    rintro d T M2 ⟨U, W, j, hd, hUW, hj, rfl, t13, t10, t0⟩
    have hUl := congrArg List.length hUW
    rw [List.length_append, htk] at hUl
    rcases W with _ | ⟨w, W⟩
    · have hjk : ¬ ((j : Int) < m + k - 1) := by simp at hUl; omega
      simp (disch := omega) [t13, t10, wrap_in, hjk]
      refine ⟨_, hP, hV, ?_⟩
      rw [← hUW]
      simp
    · simp only [List.length_cons] at hUl hd
      have hjk : ((j : Int) < m + k - 1) := by omega
      obtain ⟨q, hq⟩ : ∃ q, q = j + 1 := ⟨_, rfl⟩
      have e1 : (j : Int) + 1 = q := by omega
      obtain ⟨l1, hl1⟩ : ∃ l1, l1 = A ++ (U ++ (x :: ((w :: W) ++ (Y.drop k ++ Z)))) := ⟨_, rfl⟩
      have hl1' : l1 = (A ++ U) ++ (x :: w :: (W ++ (Y.drop k ++ Z))) := by rw [hl1]; simp
      have hU : (A ++ U).length = j := by simp; omega
      have hdk : (Y.drop k).length = Y.length - k := List.length_drop
      have hln : l1.length = n := by rw [hl1']; simp; omega
      obtain ⟨M1, hM1⟩ : ∃ M1, M1 = stN M' id t l1 := ⟨_, rfl⟩
      have hr1 : M1[id]? = some (noteS t l1) := by rw [hM1]; exact stN_row hid
      have hid1 : id < M1.length := by rw [hM1, stN_len]; exact hid
      rw [← hl1, ← hM1]
      have hjn : j < n := by omega
      have hqn : q < n := by omega
      simp (disch := omega) [t13, t10, wrap_in, hjk]
      refine awDraw_C [15, 17] (fun kk v => match kk with
        | 0 => v = .slice (some ⟨id, 0, none⟩) n c
        | 1 => v = iv j
        | 2 => v = .slice (some ⟨id, 0, none⟩) n c
        | 3 => v = iv j
        | 4 => v = iv q
        | 5 => v = .slice (some ⟨id, 0, none⟩) n c
        | 6 => v = iv j
        | 7 => v = iv q
        | 8 => v = .pointer (some ⟨id, q * 7, none⟩)
        | 9 => v = .agg (el l1 q).row.toArray
        | 10 => v = .slice (some ⟨id, 0, none⟩) n c
        | 11 => v = iv j
        | 12 => v = .pointer (some ⟨id, j * 7, none⟩)
        | 13 => v = .agg (el l1 j).row.toArray
        | 14 => v = .pointer (some ⟨id, j * 7, none⟩)
        | 16 => v = .pointer (some ⟨id, q * 7, none⟩)
        | _ => True) (fun vs M' => match vs with
        | [] => M' = M1
        | [_] => M' = stN M1 id t (l1.set j (el l1 q))
        | [_, _] => M' = stN M1 id t (swapL l1 j q)
        | _ => False) (by kernel_rfl) (by decide +kernel) (by decide +kernel) (by decide +kernel) rfl ?_ ?_ ?_
      · intro kk o T' M' vs K hi ho hΨ hlate hp hf' hK
        have f0 : look T' 0 = some (.slice (some ⟨id, 0, none⟩) n c) := by rw [hf' 0 (by decide +kernel)]; simp [t0]
        have f10 : look T' 10 = some (iv ((m + k : Nat) : Int)) := by rw [hf' 10 (by decide +kernel)]; simp [t10]
        have f13 : look T' 13 = some (iv j) := by rw [hf' 13 (by decide +kernel)]; simp [t13]
        rcases kk with _ | _ | _ | _ | _ | _ | _ | _ | _ | _ | _ | _ | _ | _ | _ | _ | _ | _ | kk
        · skip
          simp at ho; subst ho
          simp [f0]
          exact hK _ rfl
        · skip
          simp at ho; subst ho
          simp [f13]
          exact hK _ rfl
        · skip
          simp at ho; subst ho
          simp [f0]
          exact hK _ rfl
        · skip
          simp at ho; subst ho
          simp [f13]
          exact hK _ rfl
        · skip
          obtain ⟨v0, d0, q0, -⟩ := hp 3 64 (by decide +kernel) rfl
          rw [q0 (by decide)] at d0
          simp at ho; subst ho
          simp (disch := omega) [d0, wrap_in, e1]
          exact hK _ rfl
        · skip
          simp at ho; subst ho
          simp [f0]
          exact hK _ rfl
        · skip
          simp at ho; subst ho
          simp [f13]
          exact hK _ rfl
        · skip
          obtain ⟨v0, d0, q0, -⟩ := hp 6 67 (by decide +kernel) rfl
          rw [q0 (by decide)] at d0
          simp at ho; subst ho
          simp (disch := omega) [d0, wrap_in, e1]
          exact hK _ rfl
        · skip
          obtain ⟨v0, d0, q0, -⟩ := hp 5 66 (by decide +kernel) rfl
          rw [q0 (by decide)] at d0
          obtain ⟨v1, d1, q1, -⟩ := hp 7 68 (by decide +kernel) rfl
          rw [q1 (by decide)] at d1
          have he : rowEsz M' id = some 7 := by
            match vs, hΨ with
            | [], hΨ => rw [hΨ]; exact stN_esz hr1
            | [_], hΨ => rw [hΨ]; exact stN_esz (stN_row hid1)
            | [_, _], hΨ => rw [hΨ]; exact stN_esz (stN_row hid1)
          simp at ho; subst ho
          simp (disch := omega) [d0, d1, he, hqn]
          exact hK _ rfl
        · skip
          obtain ⟨v0, d0, q0, -⟩ := hp 8 69 (by decide +kernel) rfl
          rw [q0 (by decide)] at d0
          obtain rfl := List.eq_nil_of_length_eq_zero (Nat.le_zero.1 (hlate 0 15 rfl (by decide +kernel)))
          have hΨ' : M' = M1 := hΨ
          have hc := stN_at hr1 (i := q) (by omega)
          rw [← hΨ'] at hc
          simp at ho; subst ho
          simp [d0, hc]
          exact hK _ rfl
        · skip
          simp at ho; subst ho
          simp [f0]
          exact hK _ rfl
        · skip
          simp at ho; subst ho
          simp [f13]
          exact hK _ rfl
        · skip
          obtain ⟨v0, d0, q0, -⟩ := hp 10 71 (by decide +kernel) rfl
          rw [q0 (by decide)] at d0
          obtain ⟨v1, d1, q1, -⟩ := hp 11 72 (by decide +kernel) rfl
          rw [q1 (by decide)] at d1
          have he : rowEsz M' id = some 7 := by
            match vs, hΨ with
            | [], hΨ => rw [hΨ]; exact stN_esz hr1
            | [_], hΨ => rw [hΨ]; exact stN_esz (stN_row hid1)
            | [_, _], hΨ => rw [hΨ]; exact stN_esz (stN_row hid1)
          simp at ho; subst ho
          simp (disch := omega) [d0, d1, he, hjn]
          exact hK _ rfl
        · skip
          obtain ⟨v0, d0, q0, -⟩ := hp 12 73 (by decide +kernel) rfl
          rw [q0 (by decide)] at d0
          obtain rfl := List.eq_nil_of_length_eq_zero (Nat.le_zero.1 (hlate 0 15 rfl (by decide +kernel)))
          have hΨ' : M' = M1 := hΨ
          have hc := stN_at hr1 (i := j) (by omega)
          rw [← hΨ'] at hc
          simp at ho; subst ho
          simp [d0, hc]
          exact hK _ rfl
        · skip
          obtain ⟨v0, d0, q0, -⟩ := hp 0 61 (by decide +kernel) rfl
          rw [q0 (by decide)] at d0
          obtain ⟨v1, d1, q1, -⟩ := hp 1 62 (by decide +kernel) rfl
          rw [q1 (by decide)] at d1
          have he : rowEsz M' id = some 7 := by
            match vs, hΨ with
            | [], hΨ => rw [hΨ]; exact stN_esz hr1
            | [_], hΨ => rw [hΨ]; exact stN_esz (stN_row hid1)
            | [_, _], hΨ => rw [hΨ]; exact stN_esz (stN_row hid1)
          simp at ho; subst ho
          simp (disch := omega) [d0, d1, he, hjn]
          exact hK _ rfl
        · skip
          cases hi
        · skip
          obtain ⟨v0, d0, q0, -⟩ := hp 2 63 (by decide +kernel) rfl
          rw [q0 (by decide)] at d0
          obtain ⟨v1, d1, q1, -⟩ := hp 4 65 (by decide +kernel) rfl
          rw [q1 (by decide)] at d1
          have he : rowEsz M' id = some 7 := by
            match vs, hΨ with
            | [], hΨ => rw [hΨ]; exact stN_esz hr1
            | [_], hΨ => rw [hΨ]; exact stN_esz (stN_row hid1)
            | [_, _], hΨ => rw [hΨ]; exact stN_esz (stN_row hid1)
          simp at ho; subst ho
          simp (disch := omega) [d0, d1, he, hqn]
          exact hK _ rfl
        · skip
          cases hi
        · simp at ho
      · intro kk k' o T' M' vs K hi ho hΨ hlen hp hf' hK
        rcases kk with _ | _ | kk
        · skip
          obtain rfl : 15 = k' := by simpa using hi
          obtain ⟨v0, d0, q0, -⟩ := hp 14 75 (by decide +kernel) rfl
          rw [q0 (by decide)] at d0
          obtain ⟨v1, d1, q1, -⟩ := hp 9 70 (by decide +kernel) rfl
          rw [q1 (by decide)] at d1
          obtain rfl := List.eq_nil_of_length_eq_zero hlen
          have hΨ' : M' = M1 := hΨ
          simp at ho; subst ho
          simp [d0, d1, hΨ']
          refine ⟨rfl, ?_⟩
          rw [show putCells B M1 id (j * 7) _ = some (stN M1 id t (l1.set j (el l1 q))) from stN_put hr1 hB (by omega), ow_some]
          exact hK _ _ rfl
        · skip
          obtain rfl : 17 = k' := by simpa using hi
          obtain ⟨v0, d0, q0, -⟩ := hp 16 76 (by decide +kernel) rfl
          rw [q0 (by decide)] at d0
          obtain ⟨v1, d1, q1, -⟩ := hp 13 74 (by decide +kernel) rfl
          rw [q1 (by decide)] at d1
          match vs, hlen, hΨ with
          | [_], _, hΨ =>
            have hΨ' : M' = stN M1 id t (l1.set j (el l1 q)) := hΨ
            simp at ho; subst ho
            simp [d0, d1, hΨ']
            refine ⟨rfl, ?_⟩
            rw [show putCells B (stN M1 id t (l1.set j (el l1 q))) id (q * 7) _ = some (stN (stN M1 id t (l1.set j (el l1 q))) id t ((l1.set j (el l1 q)).set q (el l1 j))) from stN_put (stN_row hid1) hB (by simp; omega), ow_some, stN_stN]
            exact hK _ _ rfl
        · simp at hi
      · intro T' M' vs hlen hΨ hv hf'
        match vs, hlen, hΨ with
        | [_, _], _, hΨ =>
          have hΨ' : M' = stN M1 id t (swapL l1 j q) := hΨ
          subst hΨ'
          have g0 : look T' 0 = some (.slice (some ⟨id, 0, none⟩) n c) := by rw [hf' 0 (by decide +kernel)]; simp [t0]
          have g10 : look T' 10 = some (iv ((m + k : Nat) : Int)) := by rw [hf' 10 (by decide +kernel)]; simp [t10]
          have g13 : look T' 13 = some (iv j) := by rw [hf' 13 (by decide +kernel)]; simp [t13]
          simp (disch := omega) [g13, g0, g10, wrap_in, e1]
          refine lpI W.length (by omega) ?_
          refine ⟨U ++ [w], W, q, rfl, by rw [← hUW]; simp, by simp; omega, ?_, by simp, by simp [g10], by simp [g0]⟩
          rw [hM1, stN_stN, hq, hl1', ← hU, swapL_adj]
          simp
end Go.Proofs.Ytbpaeonfebmomaa

namespace Go.Proofs.Ytbpaeonfebmomaa
open Go.RowKit
set_option linter.unusedVariables false
set_option linter.unusedSimpArgs false
set_option maxRecDepth 100000
attribute [local simp] List.getElem?_cons_zero
attribute [local irreducible] awCond awCall awLoop awDraw ow retQ retC resQ Keeps
set_option maxHeartbeats 4000000 in
theorem merge_y {M : Mem} {B id n c a m b : Nat} {t : Bool} {A X Z l : List Note} {y : Note} (hl : l = A ++ (X ++ ([y] ++ Z))) (h : M[id]? = some (noteS t l)) (hB : B ≤ id) (hn : l.length = n) (hn2 : n ≤ 100000) (ha : a = A.length) (hm : m = a + X.length) (hb : b = m + 1) (hX : 2 ≤ X.length) (hvy : noteB y = true) (hvX : ∀ x, x ∈ X → noteB x = true) (sX : X.Pairwise LeN) :
    Ctr Try.prog B 105 [.slice (some ⟨id, 0, none⟩) n c, iv a, iv m, iv b, cmpV] M fun r M' => r = .tuple #[] ∧ ∃ V, V.Perm (X ++ [y]) ∧ V.Pairwise LeN ∧ M' = stN M id t (A ++ (V ++ Z)) := by
  have hid := (List.getElem?_eq_some_iff.1 h).1
  have hn' := hn
  rw [hl] at hn'
  simp only [List.length_append, List.length_cons, List.length_nil] at hn'
  have e00 : ¬ ((m : Int) - a = 1) := by omega
  have e0 : (b : Int) - m = 1 := by omega
  have ely : el l m = y := by
    have := el_app (U := A ++ X) (x := y) (W := Z)
    rw [hl, show m = (A ++ X).length by simp; omega]
    simpa using this
  have elX : ∀ j, j < X.length → el l (a + j) = el X j := fun j hj => by rw [hl, ha]; exact el_seg hj
  first | (refine ctr_fn Try.func105 rfl Try.ntmps105 Try.results105 rfl rfl (by simp) ?_) | (refine ctr_fnC Try.func105 rfl Try.ntmps105 Try.results105 rfl (by simp) ?_)
  simp (disch := omega) [wrap_in, e0, e00]
  refine awLoop_join (fun T' M' => M' = M ∧ ∃ k : Nat, k ≤ X.length ∧ (k = 0 ∨ ¬ ordN y (el X (k - 1)) < 0) ∧ (k = X.length ∨ ordN y (el X k) < 0) ∧ look T' 14 = some (iv ((a + k : Nat) : Int)) ∧ look T' 0 = some (.slice (some ⟨id, 0, none⟩) n c) ∧ look T' 2 = some (iv m)) ?_ ?_
  · intro Q' hQ
    refine awLoop_T (fun d T M' => ∃ (lo hi : Nat), d = hi - lo ∧ a ≤ lo ∧ lo ≤ hi ∧ hi ≤ m ∧ (lo = a ∨ ¬ ordN y (el X (lo - a - 1)) < 0) ∧ (hi = m ∨ ordN y (el X (hi - a)) < 0) ∧ M' = M ∧ look T 14 = some (iv lo) ∧ look T 15 = some (iv hi) ∧ look T 0 = some (.slice (some ⟨id, 0, none⟩) n c) ∧ look T 2 = some (iv m) ∧ look T 4 = some cmpV) (m - a)
      ⟨a, m, rfl, Nat.le_refl _, by omega, Nat.le_refl _, .inl rfl, .inl rfl, rfl, by simp, by simp, by simp, by simp, by simp⟩ ?_
    rintro d T M' ⟨lo, hi, hd, h1, h2, h3, h4, h5, rfl, t14, t15, t0, t2, t4⟩
    by_cases hlt : lo < hi
    · obtain ⟨p, hp⟩ : ∃ p, p = (lo + hi) / 2 := ⟨_, rfl⟩
      have hs := shr_one hp
      have hpa : a ≤ p := by omega
      have hcp : cellsAt M' id (p * 7) 7 = some (el X (p - a)).row := by
        rw [stN_at h (by omega), ← elX (p - a) (by omega)]
        congr 2; congr 1; omega
      have hcm : cellsAt M' id (m * 7) 7 = some y.row := by rw [stN_at h (by omega), ely]
      have hpn : p < n := by omega
      have hmn : m < n := by omega
      simp (disch := omega) [t14, t15, hlt, wrap_in, u64_in, hs]
      refine awDraw_E 9 [[],[],[],[1,2],[3,1,2],[],[],[5,6],[7,5,6],[0,4,3,1,2,8,7,5,6],[9,0,4,3,1,2,8,7,5,6],[10,9,0,4,3,1,2,8,7,5,6]] (by kernel_rfl) (by kernel_rfl) ?_
      simp (disch := omega) [t14, t15, t0, t2, t4, wrap_in, stN_esz h, hcp, hcm, hpn, hmn]
      refine awCall_det' (compareNotes_i y (el X (p - a)) hvy (hvX _ (el_mem (by omega)))) (by omega) ?_
      by_cases ho : ordN y (el X (p - a)) < 0
      · simp (disch := omega) [ho, t14, t15, wrap_in]
        refine lpI (p - lo) (by omega) ?_
        exact ⟨lo, p, rfl, by omega, by omega, by omega, h4, .inr ho, rfl, by simp [t14], by simp, by simp [t0], by simp [t2], by simp [t4]⟩
      · simp (disch := omega) [ho, t14, t15, wrap_in]
        refine lpI (hi - (p + 1)) (by omega) ?_
        exact ⟨p + 1, hi, rfl, by omega, by omega, h3, .inr (by rw [show p + 1 - a - 1 = p - a by omega]; exact ho), h5, rfl, by simp, by simp [t15], by simp [t0], by simp [t2], by simp [t4]⟩
    · obtain rfl : lo = hi := by omega
      simp (disch := omega) [t14, t15]
      refine hQ _ _ ⟨rfl, lo - a, by omega, ?_, ?_, by simp [t14]; omega, by simp [t0], by simp [t2]⟩
      · rcases h4 with h4 | h4
        · exact .inl (by omega)
        · exact .inr h4
      · rcases h5 with h5 | h5
        · exact .inl (by omega)
        · exact .inr h5
  · rintro T' M' ⟨rfl, k, hk, k1, k2, t14, t0, t2⟩
    have hV : (X.take k ++ y :: X.drop k).Pairwise LeN := ins_sorted (fun z hy => by
      rcases List.mem_append.1 hy with h | h
      · exact hvX z (List.mem_of_mem_take h)
      · rcases List.mem_cons.1 h with rfl | h
        · exact hvy
        · exact hvX z (List.mem_of_mem_drop h)) (by rw [List.take_append_drop]; exact sX)
      (high_le sX hvX hvy (k2.imp (fun h => h) LeN.of_lt)) (low_le sX hvX hvy hk (k1.imp (fun h => h) LeN.swap))
    have hP : (X.take k ++ y :: X.drop k).Perm (X ++ [y]) := by
      refine List.perm_middle.trans ?_
      rw [List.take_append_drop]
      exact (List.perm_append_singleton y X).symm
    have htk : (X.take k).length = k := by rw [List.length_take]; omega
    have hdk : (X.drop k).length = X.length - k := List.length_drop
    simp (disch := omega) [t14, t0, t2]
    refine awLoop_T (fun d T M2 => ∃ (U W : List Note) (j : Nat), d = U.length ∧ U ++ W = X.drop k ∧ j = a + k + U.length ∧ M2 = stN M' id t (A ++ (X.take k ++ (U ++ (y :: (W ++ Z))))) ∧ look T 17 = some (iv j) ∧ look T 14 = some (iv ((a + k : Nat) : Int)) ∧ look T 0 = some (.slice (some ⟨id, 0, none⟩) n c)) (X.length - k)
      ⟨X.drop k, [], m, hdk.symm, by simp, by rw [hdk]; omega, by rw [show A ++ (X.take k ++ (X.drop k ++ (y :: ([] ++ Z)))) = l from by rw [hl, ← List.append_assoc (X.take k), List.take_append_drop]; simp, stN_self h], by simp [t2], by simp [t14], by simp [t0]⟩ ?_
    rintro d T M2 ⟨U, W, j, hd, hUW, hj, rfl, t17, t14, t0⟩
    have hUl := congrArg List.length hUW
    rw [List.length_append, hdk] at hUl
    rcases List.eq_nil_or_concat U with hnil | ⟨U', u, hcat⟩
    · subst hnil
      have hjk : ¬ ((a : Int) + k < j) := by simp at hj; omega
      simp (disch := omega) [t17, t14, wrap_in, hjk]
      refine ⟨_, hP, hV, ?_⟩
      rw [← hUW]
      simp
    · rw [List.concat_eq_append] at hcat
      subst hcat
      simp only [List.length_append, List.length_cons, List.length_nil] at hUl hd hj
      have hjk : ((a : Int) + k < j) := by omega
      obtain ⟨q, hq⟩ : ∃ q, q = a + k + U'.length := ⟨_, rfl⟩
      have hjq : j = q + 1 := by omega
      have e1 : (j : Int) - 1 = q := by omega
      obtain ⟨l1, hl1⟩ : ∃ l1, l1 = A ++ (X.take k ++ ((U' ++ [u]) ++ (y :: (W ++ Z)))) := ⟨_, rfl⟩
      have hl1' : l1 = (A ++ X.take k ++ U') ++ (u :: y :: (W ++ Z)) := by rw [hl1]; simp
      have hU : (A ++ X.take k ++ U').length = q := by simp only [List.length_append, htk]; omega
      have hln : l1.length = n := by rw [hl1']; simp only [List.length_append, List.length_cons, htk]; omega
      obtain ⟨M1, hM1⟩ : ∃ M1, M1 = stN M' id t l1 := ⟨_, rfl⟩
      have hr1 : M1[id]? = some (noteS t l1) := by rw [hM1]; exact stN_row hid
      have hid1 : id < M1.length := by rw [hM1, stN_len]; exact hid
      rw [← hl1, ← hM1]
      have hjn : j < n := by omega
      have hqn : q < n := by omega
      simp (disch := omega) [t17, t14, wrap_in, hjk]
      refine awDraw_C [15, 17] (fun kk v => match kk with
        | 0 => v = .slice (some ⟨id, 0, none⟩) n c
        | 1 => v = iv j
        | 2 => v = .slice (some ⟨id, 0, none⟩) n c
        | 3 => v = iv j
        | 4 => v = iv q
        | 5 => v = .slice (some ⟨id, 0, none⟩) n c
        | 6 => v = iv j
        | 7 => v = iv q
        | 8 => v = .pointer (some ⟨id, q * 7, none⟩)
        | 9 => v = .agg (el l1 q).row.toArray
        | 10 => v = .slice (some ⟨id, 0, none⟩) n c
        | 11 => v = iv j
        | 12 => v = .pointer (some ⟨id, j * 7, none⟩)
        | 13 => v = .agg (el l1 j).row.toArray
        | 14 => v = .pointer (some ⟨id, j * 7, none⟩)
        | 16 => v = .pointer (some ⟨id, q * 7, none⟩)
        | _ => True) (fun vs M' => match vs with
        | [] => M' = M1
        | [_] => M' = stN M1 id t (l1.set j (el l1 q))
        | [_, _] => M' = stN M1 id t (swapL l1 j q)
        | _ => False) (by kernel_rfl) (by decide +kernel) (by decide +kernel) (by decide +kernel) rfl ?_ ?_ ?_
      · intro kk o T' M' vs K hi ho hΨ hlate hp hf' hK
        have f0 : look T' 0 = some (.slice (some ⟨id, 0, none⟩) n c) := by rw [hf' 0 (by decide +kernel)]; simp [t0]
        have f14 : look T' 14 = some (iv ((a + k : Nat) : Int)) := by rw [hf' 14 (by decide +kernel)]; simp [t14]
        have f17 : look T' 17 = some (iv j) := by rw [hf' 17 (by decide +kernel)]; simp [t17]
        rcases kk with _ | _ | _ | _ | _ | _ | _ | _ | _ | _ | _ | _ | _ | _ | _ | _ | _ | _ | kk
        · skip
          simp at ho; subst ho
          simp [f0]
          exact hK _ rfl
        · skip
          simp at ho; subst ho
          simp [f17]
          exact hK _ rfl
        · skip
          simp at ho; subst ho
          simp [f0]
          exact hK _ rfl
        · skip
          simp at ho; subst ho
          simp [f17]
          exact hK _ rfl
        · skip
          obtain ⟨v0, d0, q0, -⟩ := hp 3 116 (by decide +kernel) rfl
          rw [q0 (by decide)] at d0
          simp at ho; subst ho
          simp (disch := omega) [d0, wrap_in, e1]
          exact hK _ rfl
        · skip
          simp at ho; subst ho
          simp [f0]
          exact hK _ rfl
        · skip
          simp at ho; subst ho
          simp [f17]
          exact hK _ rfl
        · skip
          obtain ⟨v0, d0, q0, -⟩ := hp 6 119 (by decide +kernel) rfl
          rw [q0 (by decide)] at d0
          simp at ho; subst ho
          simp (disch := omega) [d0, wrap_in, e1]
          exact hK _ rfl
        · skip
          obtain ⟨v0, d0, q0, -⟩ := hp 5 118 (by decide +kernel) rfl
          rw [q0 (by decide)] at d0
          obtain ⟨v1, d1, q1, -⟩ := hp 7 120 (by decide +kernel) rfl
          rw [q1 (by decide)] at d1
          have he : rowEsz M' id = some 7 := by
            match vs, hΨ with
            | [], hΨ => rw [hΨ]; exact stN_esz hr1
            | [_], hΨ => rw [hΨ]; exact stN_esz (stN_row hid1)
            | [_, _], hΨ => rw [hΨ]; exact stN_esz (stN_row hid1)
          simp at ho; subst ho
          simp (disch := omega) [d0, d1, he, hqn]
          exact hK _ rfl
        · skip
          obtain ⟨v0, d0, q0, -⟩ := hp 8 121 (by decide +kernel) rfl
          rw [q0 (by decide)] at d0
          obtain rfl := List.eq_nil_of_length_eq_zero (Nat.le_zero.1 (hlate 0 15 rfl (by decide +kernel)))
          have hΨ' : M' = M1 := hΨ
          have hc := stN_at hr1 (i := q) (by omega)
          rw [← hΨ'] at hc
          simp at ho; subst ho
          simp [d0, hc]
          exact hK _ rfl
        · skip
          simp at ho; subst ho
          simp [f0]
          exact hK _ rfl
        · skip
          simp at ho; subst ho
          simp [f17]
          exact hK _ rfl
        · skip
          obtain ⟨v0, d0, q0, -⟩ := hp 10 123 (by decide +kernel) rfl
          rw [q0 (by decide)] at d0
          obtain ⟨v1, d1, q1, -⟩ := hp 11 124 (by decide +kernel) rfl
          rw [q1 (by decide)] at d1
          have he : rowEsz M' id = some 7 := by
            match vs, hΨ with
            | [], hΨ => rw [hΨ]; exact stN_esz hr1
            | [_], hΨ => rw [hΨ]; exact stN_esz (stN_row hid1)
            | [_, _], hΨ => rw [hΨ]; exact stN_esz (stN_row hid1)
          simp at ho; subst ho
          simp (disch := omega) [d0, d1, he, hjn]
          exact hK _ rfl
        · skip
          obtain ⟨v0, d0, q0, -⟩ := hp 12 125 (by decide +kernel) rfl
          rw [q0 (by decide)] at d0
          obtain rfl := List.eq_nil_of_length_eq_zero (Nat.le_zero.1 (hlate 0 15 rfl (by decide +kernel)))
          have hΨ' : M' = M1 := hΨ
          have hc := stN_at hr1 (i := j) (by omega)
          rw [← hΨ'] at hc
          simp at ho; subst ho
          simp [d0, hc]
          exact hK _ rfl
        · skip
          obtain ⟨v0, d0, q0, -⟩ := hp 0 113 (by decide +kernel) rfl
          rw [q0 (by decide)] at d0
          obtain ⟨v1, d1, q1, -⟩ := hp 1 114 (by decide +kernel) rfl
          rw [q1 (by decide)] at d1
          have he : rowEsz M' id = some 7 := by
            match vs, hΨ with
            | [], hΨ => rw [hΨ]; exact stN_esz hr1
            | [_], hΨ => rw [hΨ]; exact stN_esz (stN_row hid1)
            | [_, _], hΨ => rw [hΨ]; exact stN_esz (stN_row hid1)
          simp at ho; subst ho
          simp (disch := omega) [d0, d1, he, hjn]
          exact hK _ rfl
        · skip
          cases hi
        · skip
          obtain ⟨v0, d0, q0, -⟩ := hp 2 115 (by decide +kernel) rfl
          rw [q0 (by decide)] at d0
          obtain ⟨v1, d1, q1, -⟩ := hp 4 117 (by decide +kernel) rfl
          rw [q1 (by decide)] at d1
          have he : rowEsz M' id = some 7 := by
            match vs, hΨ with
            | [], hΨ => rw [hΨ]; exact stN_esz hr1
            | [_], hΨ => rw [hΨ]; exact stN_esz (stN_row hid1)
            | [_, _], hΨ => rw [hΨ]; exact stN_esz (stN_row hid1)
          simp at ho; subst ho
          simp (disch := omega) [d0, d1, he, hqn]
          exact hK _ rfl
        · skip
          cases hi
        · simp at ho
      · intro kk k' o T' M' vs K hi ho hΨ hlen hp hf' hK
        rcases kk with _ | _ | kk
        · skip
          obtain rfl : 15 = k' := by simpa using hi
          obtain ⟨v0, d0, q0, -⟩ := hp 14 127 (by decide +kernel) rfl
          rw [q0 (by decide)] at d0
          obtain ⟨v1, d1, q1, -⟩ := hp 9 122 (by decide +kernel) rfl
          rw [q1 (by decide)] at d1
          obtain rfl := List.eq_nil_of_length_eq_zero hlen
          have hΨ' : M' = M1 := hΨ
          simp at ho; subst ho
          simp [d0, d1, hΨ']
          refine ⟨rfl, ?_⟩
          rw [show putCells B M1 id (j * 7) _ = some (stN M1 id t (l1.set j (el l1 q))) from stN_put hr1 hB (by omega), ow_some]
          exact hK _ _ rfl
        · skip
          obtain rfl : 17 = k' := by simpa using hi
          obtain ⟨v0, d0, q0, -⟩ := hp 16 128 (by decide +kernel) rfl
          rw [q0 (by decide)] at d0
          obtain ⟨v1, d1, q1, -⟩ := hp 13 126 (by decide +kernel) rfl
          rw [q1 (by decide)] at d1
          match vs, hlen, hΨ with
          | [_], _, hΨ =>
            have hΨ' : M' = stN M1 id t (l1.set j (el l1 q)) := hΨ
            simp at ho; subst ho
            simp [d0, d1, hΨ']
            refine ⟨rfl, ?_⟩
            rw [show putCells B (stN M1 id t (l1.set j (el l1 q))) id (q * 7) _ = some (stN (stN M1 id t (l1.set j (el l1 q))) id t ((l1.set j (el l1 q)).set q (el l1 j))) from stN_put (stN_row hid1) hB (by simp; omega), ow_some, stN_stN]
            exact hK _ _ rfl
        · simp at hi
      · intro T' M' vs hlen hΨ hv hf'
        match vs, hlen, hΨ with
        | [_, _], _, hΨ =>
          have hΨ' : M' = stN M1 id t (swapL l1 j q) := hΨ
          subst hΨ'
          have g0 : look T' 0 = some (.slice (some ⟨id, 0, none⟩) n c) := by rw [hf' 0 (by decide +kernel)]; simp [t0]
          have g14 : look T' 14 = some (iv ((a + k : Nat) : Int)) := by rw [hf' 14 (by decide +kernel)]; simp [t14]
          have g17 : look T' 17 = some (iv j) := by rw [hf' 17 (by decide +kernel)]; simp [t17]
          simp (disch := omega) [g17, g0, g14, wrap_in, e1]
          refine lpI U'.length (by omega) ?_
          refine ⟨U', u :: W, q, rfl, by rw [← hUW]; simp, hq, ?_, by simp, by simp [g14], by simp [g0]⟩
          rw [hM1, stN_stN, swapL_comm (by omega), hjq, hl1', ← hU, swapL_adj]
          simp
end Go.Proofs.Ytbpaeonfebmomaa

namespace Go.Proofs.Ytbpaeonfebmomaa
open Go.RowKit
set_option linter.unusedVariables false
set_option linter.unusedSimpArgs false
set_option maxRecDepth 100000
attribute [local simp] List.getElem?_cons_zero
attribute [local irreducible] awCond awCall awLoop awDraw ow retQ retC resQ Keeps
/-- What a merge does. -/
def MergeTo (N : Nat) : Prop := ∀ {M : Mem} {B id n c a m b : Nat} {t : Bool} {A X Y Z l : List Note}, X.length + Y.length ≤ N → l = A ++ (X ++ (Y ++ Z)) → M[id]? = some (noteS t l) → B ≤ id → l.length = n → n ≤ 100000 → a = A.length → m = a + X.length → b = m + Y.length → 0 < X.length → 0 < Y.length →
    (∀ x, x ∈ X → noteB x = true) → (∀ y, y ∈ Y → noteB y = true) → X.Pairwise LeN → Y.Pairwise LeN →
    Ctr Try.prog B 105 [.slice (some ⟨id, 0, none⟩) n c, iv a, iv m, iv b, cmpV] M fun r M' => r = .tuple #[] ∧ ∃ V, V.Perm (X ++ Y) ∧ V.Pairwise LeN ∧ M' = stN M id t (A ++ (V ++ Z))
set_option maxHeartbeats 4000000 in
theorem merge_step {N : Nat} (ih : MergeTo N) : MergeTo (N + 1) := by
  intro M B id n c a m b t A X Y Z l hN hl h hB hn hn2 ha hm hb hX hY hvX hvY sX sY
  by_cases x1 : X.length = 1
  · obtain ⟨x, rfl⟩ := List.length_eq_one_iff.1 x1
    exact merge_x hl h hB hn hn2 ha (by simpa using hm) hb hY (hvX x (by simp)) hvY sY
  by_cases y1 : Y.length = 1
  · obtain ⟨y, rfl⟩ := List.length_eq_one_iff.1 y1
    exact merge_y hl h hB hn hn2 ha hm (by simpa using hb) (by omega) (hvY y (by simp)) hvX sX
  have hid := (List.getElem?_eq_some_iff.1 h).1
  have hn' := hn
  rw [hl] at hn'
  simp only [List.length_append] at hn'
  have e0 : ¬ ((m : Int) - a = 1) := by omega
  have e1 : ¬ ((b : Int) - m = 1) := by omega
  obtain ⟨mid, hmid⟩ : ∃ p, p = (a + b) / 2 := ⟨_, rfl⟩
  have hs := shr_one hmid
  have elX : ∀ j, j < X.length → el l (a + j) = el X j := fun j hj => by rw [hl, ha]; exact el_seg hj
  have elY : ∀ j, j < Y.length → el l (m + j) = el Y j := fun j hj => by
    have := el_seg (A := A ++ X) (X := Y) (R := Z) hj
    rw [hl, show m + j = (A ++ X).length + j by simp; omega]
    simpa using this
  first | (refine ctr_fn Try.func105 rfl Try.ntmps105 Try.results105 rfl rfl (by simp) ?_) | (refine ctr_fnC Try.func105 rfl Try.ntmps105 Try.results105 rfl (by simp) ?_)
  rw [aw_seq, aw_seq]
  simp (disch := omega) [wrap_in, e0, -aw_seq]
  rw [aw_seq, aw_seq]
  simp (disch := omega) [wrap_in, e1, -aw_seq]
  rw [aw_seq]
  simp (disch := omega) [wrap_in, u64_in, hs, -aw_seq]
  rw [aw_seq]
  simp (disch := omega) [wrap_in, -aw_seq]
  rw [aw_seq]
  simp (disch := omega) [wrap_in, -aw_seq]
  have hml : mid < b := by omega
  have ham : a ≤ mid := by omega
  rw [aw_seq]
  refine awThen_join (fun T' M' => M' = M ∧ ∃ s0 r0 : Nat, ((mid < m ∧ s0 + b = mid + m ∧ r0 = mid) ∨ (m ≤ mid ∧ s0 = a ∧ r0 = m)) ∧ look T' 20 = some (iv s0) ∧ look T' 21 = some (iv r0) ∧ look T' 19 = some (iv ((mid : Int) + m)) ∧ look T' 18 = some (iv mid) ∧ look T' 0 = some (.slice (some ⟨id, 0, none⟩) n c) ∧ look T' 1 = some (iv a) ∧ look T' 2 = some (iv m) ∧ look T' 3 = some (iv b) ∧ look T' 4 = some cmpV) ?_ ?_
  · intro Q' hQ
    by_cases hc : mid < m
    · have hc' : (mid : Int) < m := by omega
      obtain ⟨s0, hs0⟩ : ∃ s0, s0 + b = mid + m := ⟨mid + m - b, by omega⟩
      have es : (mid : Int) + m - b = s0 := by omega
      simp (disch := omega) [hc, hc', wrap_in, es]
      exact hQ _ _ ⟨rfl, s0, mid, .inl ⟨hc, hs0, rfl⟩, by simp, by simp, by simp, by simp, by simp, by simp, by simp, by simp, by simp⟩
    · have hc' : ¬ (mid : Int) < m := by omega
      simp (disch := omega) [hc, hc', wrap_in]
      exact hQ _ _ ⟨rfl, a, m, .inr ⟨by omega, rfl, rfl⟩, by simp, by simp, by simp, by simp, by simp, by simp, by simp, by simp, by simp⟩
  rintro T' M' ⟨rfl, s0, r0, hsr, t20, t21, t19, t18, t0, t1, t2, t3, t4⟩
  have hs0a : a ≤ s0 := by omega
  have hr0m : r0 ≤ m := by omega
  have hr0mid : r0 ≤ mid := by omega
  have hsr0 : s0 ≤ r0 := by omega
  have hYs : mid - s0 ≤ Y.length := by omega
  rw [aw_seq]
  simp (disch := omega) [t19, wrap_in, -aw_seq]
  rw [aw_seq]
  simp (disch := omega) only [aw_block, aw_loop]
  refine awLoop_join (fun T' M2 => M2 = M' ∧ ∃ s : Nat, s0 ≤ s ∧ s ≤ r0 ∧ (s = s0 ∨ ¬ ordN (el Y (mid - s)) (el X (s - 1 - a)) < 0) ∧ (s = r0 ∨ ordN (el Y (mid - 1 - s)) (el X (s - a)) < 0) ∧ look T' 20 = some (iv s) ∧ look T' 19 = some (iv ((mid : Int) + m)) ∧ look T' 18 = some (iv mid) ∧ look T' 0 = some (.slice (some ⟨id, 0, none⟩) n c) ∧ look T' 1 = some (iv a) ∧ look T' 2 = some (iv m) ∧ look T' 3 = some (iv b) ∧ look T' 4 = some cmpV) ?_ ?_
  · intro Q' hQ
    refine awLoop_T (fun d T M2 => ∃ (lo hi : Nat), d = hi - lo ∧ s0 ≤ lo ∧ lo ≤ hi ∧ hi ≤ r0 ∧ (lo = s0 ∨ ¬ ordN (el Y (mid - lo)) (el X (lo - 1 - a)) < 0) ∧ (hi = r0 ∨ ordN (el Y (mid - 1 - hi)) (el X (hi - a)) < 0) ∧ M2 = M' ∧ look T 20 = some (iv lo) ∧ look T 21 = some (iv hi) ∧ look T 22 = some (iv ((mid : Int) + m - 1)) ∧ look T 19 = some (iv ((mid : Int) + m)) ∧ look T 18 = some (iv mid) ∧ look T 0 = some (.slice (some ⟨id, 0, none⟩) n c) ∧ look T 1 = some (iv a) ∧ look T 2 = some (iv m) ∧ look T 3 = some (iv b) ∧ look T 4 = some cmpV) (r0 - s0)
      ⟨s0, r0, rfl, Nat.le_refl _, by omega, Nat.le_refl _, .inl rfl, .inl rfl, rfl, by simp [t20], by simp [t21], by simp, by simp [t19], by simp [t18], by simp [t0], by simp [t1], by simp [t2], by simp [t3], by simp [t4]⟩ ?_
    rintro d T M2 ⟨lo, hi, hd, h1, h2, h3, h4, h5, rfl, t20, t21, t22, t19, t18, t0, t1, t2, t3, t4⟩
    by_cases hlt : lo < hi
    · obtain ⟨q, hq⟩ : ∃ q, q = (lo + hi) / 2 := ⟨_, rfl⟩
      have hsq := shr_one hq
      have hqa : a ≤ q := by omega
      have hqm : q < m := by omega
      obtain ⟨pq, hpq⟩ : ∃ pq, pq + q + 1 = mid + m := ⟨mid + m - 1 - q, by omega⟩
      have epq : (mid : Int) + m - 1 - q = pq := by omega
      have hpm : m ≤ pq := by omega
      have hpb : pq < b := by omega
      have hcq : cellsAt M2 id (q * 7) 7 = some (el X (q - a)).row := by
        rw [stN_at h (by omega), ← elX (q - a) (by omega)]
        congr 2; congr 1; omega
      have hcp : cellsAt M2 id (pq * 7) 7 = some (el Y (mid - 1 - q)).row := by
        rw [stN_at h (by omega), ← elY (mid - 1 - q) (by omega)]
        congr 2; congr 1; omega
      have hqn : q < n := by omega
      have hpn : pq < n := by omega
      simp (disch := omega) [t20, t21, hlt, wrap_in, u64_in, hsq]
      refine awDraw_E 11 [[],[],[],[],[2,3],[1,4,2,3],[5,1,4,2,3],[],[],[7,8],[9,7,8],[0,6,5,1,4,2,3,10,9,7,8],[11,0,6,5,1,4,2,3,10,9,7,8],[12,11,0,6,5,1,4,2,3,10,9,7,8]] (by kernel_rfl) (by kernel_rfl) ?_
      simp (disch := omega) [t20, t21, t22, t0, t4, wrap_in, epq, stN_esz h, hcp, hcq, hpn, hqn]
      refine awCall_det' (compareNotes_i (el Y (mid - 1 - q)) (el X (q - a)) (hvY _ (el_mem (by omega))) (hvX _ (el_mem (by omega)))) (by omega) ?_
      by_cases ho : ordN (el Y (mid - 1 - q)) (el X (q - a)) < 0
      · simp (disch := omega) [ho, t20, t21, wrap_in]
        refine lpI (q - lo) (by omega) ?_
        exact ⟨lo, q, rfl, by omega, by omega, by omega, h4, .inr ho, rfl, by simp [t20], by simp, by simp [t22], by simp [t19], by simp [t18], by simp [t0], by simp [t1], by simp [t2], by simp [t3], by simp [t4]⟩
      · simp (disch := omega) [ho, t20, t21, wrap_in]
        refine lpI (hi - (q + 1)) (by omega) ?_
        exact ⟨q + 1, hi, rfl, by omega, by omega, h3, .inr (by rw [show mid - (q + 1) = mid - 1 - q by omega, show q + 1 - 1 - a = q - a by omega]; exact ho), h5, rfl, by simp, by simp [t21], by simp [t22], by simp [t19], by simp [t18], by simp [t0], by simp [t1], by simp [t2], by simp [t3], by simp [t4]⟩
    · obtain rfl : lo = hi := by omega
      simp (disch := omega) [t20, t21]
      exact hQ _ _ ⟨rfl, lo, h1, h3, h4, h5, by simp [t20], by simp [t19], by simp [t18], by simp [t0], by simp [t1], by simp [t2], by simp [t3], by simp [t4]⟩
  rintro T' M2 ⟨rfl, s, h1, h2, h3, h4, t20, t19, t18, t0, t1, t2, t3, t4⟩
  obtain ⟨e, he⟩ : ∃ e, e + s = mid + m := ⟨mid + m - s, by omega⟩
  have ee : (mid : Int) + m - s = e := by omega
  obtain ⟨X1, hX1⟩ : ∃ L, L = X.take (s - a) := ⟨_, rfl⟩
  obtain ⟨X2, hX2⟩ : ∃ L, L = X.drop (s - a) := ⟨_, rfl⟩
  obtain ⟨Y1, hY1⟩ : ∃ L, L = Y.take (mid - s) := ⟨_, rfl⟩
  obtain ⟨Y2, hY2⟩ : ∃ L, L = Y.drop (mid - s) := ⟨_, rfl⟩
  have eX : X1 ++ X2 = X := by rw [hX1, hX2, List.take_append_drop]
  have eY : Y1 ++ Y2 = Y := by rw [hY1, hY2, List.take_append_drop]
  have lX1 : X1.length = s - a := by rw [hX1, List.length_take]; omega
  have lX2 : X2.length = m - s := by rw [hX2, List.length_drop]; omega
  have lY1 : Y1.length = mid - s := by rw [hY1, List.length_take]; omega
  have lY2 : Y2.length = Y.length - (mid - s) := by rw [hY2, List.length_drop]
  have c1 : ∀ x, x ∈ X1 → ∀ y, y ∈ Y2 → LeN x y := by
    intro x hx y hy
    rcases h3 with h3 | h3
    · rcases hsr with ⟨q1, q2, q3⟩ | ⟨q1, q2, q3⟩
      · rw [nil_of_len (L := Y2) (by omega)] at hy; cases hy
      · rw [nil_of_len (L := X1) (by omega)] at hx; cases hx
    by_cases hss : s = s0
    · rcases hsr with ⟨q1, q2, q3⟩ | ⟨q1, q2, q3⟩
      · rw [nil_of_len (L := Y2) (by omega)] at hy; cases hy
      · rw [nil_of_len (L := X1) (by omega)] at hx; cases hx
    have hz : mid - s < Y.length := by omega
    have a1 := low_le (z := el Y (mid - s)) (k := s - a) sX hvX (hvY _ (el_mem hz)) (by omega) (.inr (by rw [show s - a - 1 = s - 1 - a by omega]; exact LeN.swap h3)) x (by rw [← hX1]; exact hx)
    have a2 := high_le (z := el Y (mid - s)) (k := mid - s) sY hvY (hvY _ (el_mem hz)) (.inr (by show ordN _ _ ≤ 0; rw [ordN_self]; omega)) y (by rw [← hY2]; exact hy)
    exact ordN_trans (hvX _ (by rw [← eX]; exact List.mem_append_left _ hx)) (hvY _ (el_mem hz)) (hvY _ (by rw [← eY]; exact List.mem_append_right _ hy)) a1 a2
  have c2 : ∀ y, y ∈ Y1 → ∀ x, x ∈ X2 → LeN y x := by
    intro y hy x hx
    by_cases hss : s = r0
    · rcases hsr with ⟨q1, q2, q3⟩ | ⟨q1, q2, q3⟩
      · rw [nil_of_len (L := Y1) (by omega)] at hy; cases hy
      · rw [nil_of_len (L := X2) (by omega)] at hx; cases hx
    rcases h4 with h4 | h4
    · omega
    have hz : s - a < X.length := by omega
    have a1 := low_le (z := el X (s - a)) (k := mid - s) sY hvY (hvX _ (el_mem hz)) (by omega) (.inr (by rw [show mid - s - 1 = mid - 1 - s by omega]; exact LeN.of_lt h4)) y (by rw [← hY1]; exact hy)
    have a2 := high_le (z := el X (s - a)) (k := s - a) sX hvX (hvX _ (el_mem hz)) (.inr (by show ordN _ _ ≤ 0; rw [ordN_self]; omega)) x (by rw [← hX2]; exact hx)
    exact ordN_trans (hvY _ (by rw [← eY]; exact List.mem_append_left _ hy)) (hvX _ (el_mem hz)) (hvX _ (by rw [← eX]; exact List.mem_append_right _ hx)) a1 a2
  have sX' : (X1 ++ X2).Pairwise LeN := by rw [eX]; exact sX
  have sY' : (Y1 ++ Y2).Pairwise LeN := by rw [eY]; exact sY
  have pX := List.pairwise_append.1 sX'
  have pY := List.pairwise_append.1 sY'
  have vX1 : ∀ x, x ∈ X1 → noteB x = true := fun x hx => hvX x (by rw [← eX]; exact List.mem_append_left _ hx)
  have vX2 : ∀ x, x ∈ X2 → noteB x = true := fun x hx => hvX x (by rw [← eX]; exact List.mem_append_right _ hx)
  have vY1 : ∀ x, x ∈ Y1 → noteB x = true := fun x hx => hvY x (by rw [← eY]; exact List.mem_append_left _ hx)
  have vY2 : ∀ x, x ∈ Y2 → noteB x = true := fun x hx => hvY x (by rw [← eY]; exact List.mem_append_right _ hx)
  have hl2 : l = A ++ (X1 ++ (X2 ++ (Y1 ++ (Y2 ++ Z)))) := by rw [hl, ← eX, ← eY]; simp
  clear hX1 hX2 hY1 hY2 h3 h4
  rw [aw_seq]
  simp (disch := omega) [t19, t20, wrap_in, ee, -aw_seq]
  rw [aw_seq]
  refine awThen_join (fun T' M' => M' = stN M2 id t (A ++ (X1 ++ (Y1 ++ (X2 ++ (Y2 ++ Z))))) ∧ look T' 24 = some (iv e) ∧ look T' 20 = some (iv s) ∧ look T' 18 = some (iv mid) ∧ look T' 0 = some (.slice (some ⟨id, 0, none⟩) n c) ∧ look T' 1 = some (iv a) ∧ look T' 3 = some (iv b) ∧ look T' 4 = some cmpV) ?_ ?_
  · intro Q' hQ
    by_cases g1 : s < m
    · have g1' : (s : Int) < m := by omega
      by_cases g2 : m < e
      · have g2' : (m : Int) < e := by omega
        simp (disch := omega) [t20, t2, t0, t4, g1, g1', g2, g2']
        refine awCall_ctr ((rotate_a (A := A ++ X1) (X := X2) (Y := Y1) (Z := Y2 ++ Z) (l := l) (t := t) (c := c) (a := s) (m := m) (b := e) (by rw [hl2]; simp) h hB hn hn2 (by simp only [List.length_append]; omega) (by omega) (by omega) (by omega) (by omega) rfl).weaken (by simp)) ?_
        rintro r M3 ⟨rfl, rfl⟩
        simp (disch := omega)
        exact hQ _ _ ⟨by simp, by simp, by simp [t20], by simp [t18], by simp [t0], by simp [t1], by simp [t3], by simp [t4]⟩
      · have g2' : ¬ (m : Int) < e := by omega
        simp (disch := omega) [t20, t2, t0, t4, g1, g1', g2, g2']
        refine hQ _ _ ⟨?_, by simp, by simp [t20], by simp [t18], by simp [t0], by simp [t1], by simp [t3], by simp [t4]⟩
        rw [show A ++ (X1 ++ (Y1 ++ (X2 ++ (Y2 ++ Z)))) = l from by rw [hl2, nil_of_len (L := Y1) (by omega)]; simp, stN_self h]
    · have g1' : ¬ (s : Int) < m := by omega
      simp (disch := omega) [t20, t2, t0, t4, g1, g1']
      refine hQ _ _ ⟨?_, by simp, by simp [t20], by simp [t18], by simp [t0], by simp [t1], by simp [t3], by simp [t4]⟩
      rw [show A ++ (X1 ++ (Y1 ++ (X2 ++ (Y2 ++ Z)))) = l from by rw [hl2, nil_of_len (L := X2) (by omega)]; simp, stN_self h]
  clear t20 t19 t18 t0 t1 t2 t3 t4
  rintro T1 M3 ⟨rfl, t24, t20, t18, t0, t1, t3, t4⟩
  have hr := stN_row (t := t) (l := A ++ (X1 ++ (Y1 ++ (X2 ++ (Y2 ++ Z))))) hid
  have hln : (A ++ (X1 ++ (Y1 ++ (X2 ++ (Y2 ++ Z))))).length = n := by simp only [List.length_append]; omega
  rw [aw_seq]
  refine awThen_join (fun T' M' => ∃ V1, V1.Perm (X1 ++ Y1) ∧ V1.Pairwise LeN ∧ M' = stN M2 id t (A ++ (V1 ++ (X2 ++ (Y2 ++ Z)))) ∧ look T' 24 = some (iv e) ∧ look T' 18 = some (iv mid) ∧ look T' 0 = some (.slice (some ⟨id, 0, none⟩) n c) ∧ look T' 3 = some (iv b) ∧ look T' 4 = some cmpV) ?_ ?_
  · intro Q' hQ
    by_cases g1 : a < s
    · have g1' : (a : Int) < s := by omega
      by_cases g2 : s < mid
      · have g2' : (s : Int) < mid := by omega
        simp (disch := omega) [t20, t18, t1, t0, t4, g1, g1', g2, g2']
        refine awCall_ctr ((ih (A := A) (X := X1) (Y := Y1) (Z := X2 ++ (Y2 ++ Z)) (t := t) (c := c) (a := a) (m := s) (b := mid) (by omega) rfl hr hB hln hn2 ha (by omega) (by omega) (by omega) (by omega) vX1 vY1 pX.1 pY.1).weaken (by simp)) ?_
        rintro r M4 ⟨rfl, V1, p1, s1, rfl⟩
        try simp (disch := omega)
        exact hQ _ _ ⟨V1, p1, s1, by rw [stN_stN], by simp [t24], by simp [t18], by simp [t0], by simp [t3], by simp [t4]⟩
      · have g2' : ¬ (s : Int) < mid := by omega
        simp (disch := omega) [t20, t18, t1, t0, t4, g1, g1', g2, g2']
        obtain rfl := nil_of_len (L := Y1) (by omega)
        exact hQ _ _ ⟨X1, by simp, pX.1, by simp, by simp [t24], by simp [t18], by simp [t0], by simp [t3], by simp [t4]⟩
    · have g1' : ¬ (a : Int) < s := by omega
      simp (disch := omega) [t20, t18, t1, t0, t4, g1, g1']
      obtain rfl := nil_of_len (L := X1) (by omega)
      exact hQ _ _ ⟨Y1, by simp, pY.1, by simp, by simp [t24], by simp [t18], by simp [t0], by simp [t3], by simp [t4]⟩
  clear t20 t24 t18 t0 t1 t3 t4
  rintro T1 M3 ⟨V1, p1, s1, rfl, t24, t18, t0, t3, t4⟩
  have hr := stN_row (t := t) (l := A ++ (V1 ++ (X2 ++ (Y2 ++ Z)))) hid
  have lV1 := p1.length_eq
  simp only [List.length_append] at lV1
  have hln : (A ++ (V1 ++ (X2 ++ (Y2 ++ Z)))).length = n := by simp only [List.length_append]; omega
  have fin : ∀ V2, V2.Perm (X2 ++ Y2) → V2.Pairwise LeN → ∃ V, V.Perm (X ++ Y) ∧ V.Pairwise LeN ∧ stN M2 id t (A ++ (V1 ++ (V2 ++ Z))) = stN M2 id t (A ++ (V ++ Z)) := fun V2 p2 s2 => by
    obtain ⟨q1, q2⟩ := halves sX' sY' c1 c2 p1 p2 s1 s2
    rw [eX, eY] at q1
    exact ⟨V1 ++ V2, q1, q2, by simp⟩
  by_cases g1 : mid < e
  · have g1' : (mid : Int) < e := by omega
    by_cases g2 : e < b
    · have g2' : (e : Int) < b := by omega
      simp (disch := omega) [t24, t18, t3, t0, t4, g1, g1', g2, g2']
      refine awCall_ctr ((ih (A := A ++ V1) (X := X2) (Y := Y2) (Z := Z) (t := t) (c := c) (a := mid) (m := e) (b := b) (by omega) (by simp) hr hB hln hn2 (by simp only [List.length_append]; omega) (by omega) (by omega) (by omega) (by omega) vX2 vY2 pX.2.1 pY.2.1).weaken (by simp)) ?_
      rintro r M4 ⟨rfl, V2, p2, s2, rfl⟩
      simp (disch := omega)
      rw [stN_stN]
      obtain ⟨V, v1, v2, v3⟩ := fin V2 p2 s2
      exact ⟨V, v1, v2, by rw [← v3]⟩
    · have g2' : ¬ (e : Int) < b := by omega
      simp (disch := omega) [t24, t18, t3, t0, t4, g1, g1', g2, g2']
      obtain rfl := nil_of_len (L := Y2) (by omega)
      exact fin X2 (by simp) pX.2.1
  · have g1' : ¬ (mid : Int) < e := by omega
    simp (disch := omega) [t24, t18, t3, t0, t4, g1, g1']
    obtain rfl := nil_of_len (L := X2) (by omega)
    exact fin Y2 (by simp) pY.2.1
theorem merge_to : ∀ N, MergeTo N
  | 0 => by
    intros
    omega
  | N + 1 => merge_step (merge_to N)
theorem merge_a {M : Mem} {B id n c a m b : Nat} {t : Bool} {A X Y Z l : List Note} (hl : l = A ++ (X ++ (Y ++ Z))) (h : M[id]? = some (noteS t l)) (hB : B ≤ id) (hn : l.length = n) (hn2 : n ≤ 100000) (ha : a = A.length) (hm : m = a + X.length) (hb : b = m + Y.length) (hX : 0 < X.length) (hY : 0 < Y.length)
    (hvX : ∀ x, x ∈ X → noteB x = true) (hvY : ∀ y, y ∈ Y → noteB y = true) (sX : X.Pairwise LeN) (sY : Y.Pairwise LeN) :
    Ctr Try.prog B 105 [.slice (some ⟨id, 0, none⟩) n c, iv a, iv m, iv b, cmpV] M fun r M' => r = .tuple #[] ∧ ∃ V, V.Perm (X ++ Y) ∧ V.Pairwise LeN ∧ M' = stN M id t (A ++ (V ++ Z)) :=
  merge_to _ (Nat.le_refl _) hl h hB hn hn2 ha hm hb hX hY hvX hvY sX sY
end Go.Proofs.Ytbpaeonfebmomaa

namespace Go.Proofs.Ytbpaeonfebmomaa
open Go.RowKit
set_option linter.unusedVariables false
set_option linter.unusedSimpArgs false
set_option maxRecDepth 100000
attribute [local simp] List.getElem?_cons_zero
attribute [local irreducible] awCond awCall awLoop awDraw ow retQ retC resQ Keeps
/-- What stands from p up to q is in order. -/
def SegS (L : List Note) (p q : Nat) : Prop := ∀ i j, p ≤ i → i < j → j < q → j < L.length → LeN (el L i) (el L j)
theorem el_lo {A V Z : List Note} {i : Nat} (h : i < A.length) : el (A ++ (V ++ Z)) i = el A i := el_append_left h
theorem el_hi {A V Z : List Note} {i : Nat} (h : A.length + V.length ≤ i) : el (A ++ (V ++ Z)) i = el Z (i - (A.length + V.length)) := by
  rw [el_append_right (by omega), el_append_right (by omega)]
  congr 1
  omega
theorem seg_of_pw {A V Z : List Note} {p q : Nat} (h : V.Pairwise LeN) (hp : p = A.length) (hq : q ≤ A.length + V.length) : SegS (A ++ (V ++ Z)) p q := by
  intro i j h1 h2 h3 h4
  obtain ⟨i', rfl⟩ : ∃ i', i = A.length + i' := ⟨i - A.length, by omega⟩
  obtain ⟨j', rfl⟩ : ∃ j', j = A.length + j' := ⟨j - A.length, by omega⟩
  rw [el_seg (by omega), el_seg (by omega)]
  exact pw_el h (by omega) (by omega)
theorem pw_of_seg {A V Z : List Note} {p q : Nat} (h : SegS (A ++ (V ++ Z)) p q) (hp : p = A.length) (hq : A.length + V.length ≤ q) : V.Pairwise LeN := by
  rw [List.pairwise_iff_getElem]
  intro i j hi hj hij
  have := h (A.length + i) (A.length + j) (by omega) (by omega) (by omega) (by simp only [List.length_append]; omega)
  rw [el_seg hi, el_seg hj] at this
  rwa [el_eq hi, el_eq hj]
theorem seg_low {A V V' Z : List Note} {p q : Nat} (h : SegS (A ++ (V ++ Z)) p q) (hq : q ≤ A.length) : SegS (A ++ (V' ++ Z)) p q := by
  intro i j h1 h2 h3 h4
  have := h i j h1 h2 h3 (by simp only [List.length_append]; omega)
  rw [el_lo (by omega), el_lo (by omega)] at this ⊢
  exact this
theorem seg_high {A V V' Z : List Note} {p q : Nat} (h : SegS (A ++ (V ++ Z)) p q) (hl : V.length = V'.length) (hp : A.length + V.length ≤ p) : SegS (A ++ (V' ++ Z)) p q := by
  intro i j h1 h2 h3 h4
  have := h i j h1 h2 h3 (by simp only [List.length_append] at h4 ⊢; omega)
  rw [el_hi (by omega), el_hi (by omega)] at this ⊢
  rw [← hl]
  exact this
theorem seg_void {L : List Note} {p q : Nat} (h : L.length ≤ p + 1) : SegS L p q := fun i j h1 h2 h3 h4 => by omega
theorem seg_cut {L : List Note} {p q q' : Nat} (h : SegS L p q) (hq : q' ≤ q ∨ L.length ≤ q) : SegS L p q' := fun i j h1 h2 h3 h4 => h i j h1 h2 (by omega) h4
theorem dvd_step {d p a : Nat} (hp : d ∣ p) (ha : d ∣ a) (h : p < a) : p + d ≤ a := by
  have := Nat.le_of_dvd (by omega) (Nat.dvd_sub ha hp)
  omega
/-- Three parts of a list. -/
theorem three (L : List Note) (p q : Nat) (hpq : p ≤ q) (hq : q ≤ L.length) : ∃ A V Z, L = A ++ (V ++ Z) ∧ A.length = p ∧ V.length = q - p := by
  refine ⟨L.take p, (L.drop p).take (q - p), (L.drop p).drop (q - p), by rw [List.take_append_drop, List.take_append_drop], by rw [List.length_take]; omega, by rw [List.length_take, List.length_drop]; omega⟩
theorem perm_mid {A V V' Z : List Note} (h : V'.Perm V) : (A ++ (V' ++ Z)).Perm (A ++ (V ++ Z)) := List.Perm.append_left A (List.Perm.append_right Z h)
theorem pw_whole {L : List Note} {q : Nat} (h : SegS L 0 q) (hq : L.length ≤ q) : L.Pairwise LeN := by
  rw [List.pairwise_iff_getElem]
  intro i j hi hj hij
  have := h i j (by omega) hij (by omega) hj
  rwa [el_eq hi, el_eq hj]
end Go.Proofs.Ytbpaeonfebmomaa

namespace Go.Proofs.Ytbpaeonfebmomaa
open Go.RowKit
set_option linter.unusedVariables false
set_option linter.unusedSimpArgs false
set_option maxRecDepth 100000
attribute [local simp] List.getElem?_cons_zero
attribute [local irreducible] awCond awCall awLoop awDraw ow retQ retC resQ Keeps
set_option maxHeartbeats 4000000 in
theorem stable_a {M : Mem} {B id n c : Nat} {t : Bool} {l : List Note} (h : M[id]? = some (noteS t l)) (hB : B ≤ id) (hn : l.length = n) (hn2 : n ≤ 1000) (hv : ∀ x, x ∈ l → noteB x = true) :
    Ctr Try.prog B 95 [.slice (some ⟨id, 0, none⟩) n c, iv n, cmpV] M fun r M' => r = .tuple #[] ∧ ∃ l', l'.Perm l ∧ l'.Pairwise LeN ∧ M' = stN M id t l' := by
  have hid := (List.getElem?_eq_some_iff.1 h).1
  first | (refine ctr_fn Try.func95 rfl Try.ntmps95 Try.results95 rfl rfl (by simp) ?_) | (refine ctr_fnC Try.func95 rfl Try.ntmps95 Try.results95 rfl (by simp) ?_)
  rw [aw_seq]
  simp (disch := omega) [wrap_in, -aw_seq]
  rw [aw_seq]
  simp (disch := omega) [wrap_in, -aw_seq]
  rw [aw_seq]
  simp (disch := omega) only [aw_block, aw_loop]
  refine awLoop_join (fun T' M' => ∃ (L : List Note) (a : Nat), L.Perm l ∧ a ≤ n ∧ n < a + 20 ∧ 20 ∣ a ∧ (∀ p, 20 ∣ p → p < a → SegS L p (p + 20)) ∧ M' = stN M id t L ∧ look T' 7 = some (iv a) ∧ look T' 6 = some (iv 20) ∧ look T' 0 = some (.slice (some ⟨id, 0, none⟩) n c) ∧ look T' 1 = some (iv n) ∧ look T' 2 = some cmpV) ?_ ?_
  · intro Q' hQ
    refine awLoop_T (fun d T' M' => ∃ (L : List Note) (a : Nat), d = n - a ∧ L.Perm l ∧ a ≤ n ∧ 20 ∣ a ∧ (∀ p, 20 ∣ p → p < a → SegS L p (p + 20)) ∧ M' = stN M id t L ∧ look T' 7 = some (iv a) ∧ look T' 8 = some (iv ((a : Int) + 20)) ∧ look T' 6 = some (iv 20) ∧ look T' 0 = some (.slice (some ⟨id, 0, none⟩) n c) ∧ look T' 1 = some (iv n) ∧ look T' 2 = some cmpV) n
      ⟨l, 0, rfl, .refl _, by omega, Nat.dvd_zero _, fun p _ hp => by omega, (stN_self h).symm, by simp, by simp, by simp, by simp, by simp, by simp⟩ ?_
    rintro d T' M' ⟨L, a, hd, hp, ha, hda, hs, rfl, t7, t8, t6, t0, t1, t2⟩
    have hLn : L.length = n := by rw [hp.length_eq, hn]
    by_cases hle : a + 20 ≤ n
    case neg =>
      have hle' : ¬ ((a : Int) + 20 ≤ n) := by omega
      simp (disch := omega) [t8, t1, hle, hle']
      exact hQ _ _ ⟨L, a, hp, ha, by omega, hda, hs, rfl, by simp [t7], by simp [t6], by simp [t0], by simp [t1], by simp [t2]⟩
    have hle' : ((a : Int) + 20 ≤ n) := by omega
    have hr := stN_row (t := t) (l := L) hid
    obtain ⟨A, V, Z, rfl, hA, hV⟩ := three L a (a + 20) (by omega) (by omega)
    have hvV : ∀ x, x ∈ V → noteB x = true := fun x hx => hv x (hp.mem_iff.1 (by simp [hx]))
    obtain ⟨q, hq⟩ : ∃ q, q = a + 20 := ⟨_, rfl⟩
    have e8 : (a : Int) + 20 = q := by omega
    have hqn : q ≤ n := by omega
    rw [e8] at t8
    simp (disch := omega) [t8, t7, t6, t0, t1, t2, hqn]
    refine awCall_ctr ((insertion_a (A := A) (X := V) (Z := Z) (t := t) (c := c) (a := a) (b := q) rfl hr hB hLn (by omega) hA.symm (by omega) hvV).weaken (by simp)) ?_
    rintro r M2 ⟨rfl, V', pv, sv, rfl⟩
    have lv := pv.length_eq
    try simp (disch := omega) [t8, t6, wrap_in]
    refine lpI (n - q) (by omega) ?_
    refine ⟨A ++ (V' ++ Z), q, rfl, (perm_mid pv).trans hp, hqn, by omega, fun p hpd hpa => ?_, by rw [stN_stN], by simp [t8], by simp [t8], by simp [t6], by simp [t0], by simp [t1], by simp [t2]⟩
    rcases Nat.lt_or_ge p a with hlt | hge
    · exact seg_low (hs p hpd hlt) (by have := dvd_step hpd hda hlt; omega)
    · exact seg_of_pw sv (by omega) (by omega)
  rintro T' M' ⟨L, a, hp, ha, hn20, hda, hs, rfl, t7, t6, t0, t1, t2⟩
  have hLn : L.length = n := by rw [hp.length_eq, hn]
  have hr := stN_row (t := t) (l := L) hid
  obtain ⟨A, V, Z, rfl, hA, hV⟩ := three L a n (by omega) (by omega)
  have hvV : ∀ x, x ∈ V → noteB x = true := fun x hx => hv x (hp.mem_iff.1 (by simp [hx]))
  have hZ : Z = [] := nil_of_len (by simp only [List.length_append] at hLn; omega)
  rw [aw_seq]
  simp (disch := omega) [t7, t0, t1, t2, -aw_seq]
  refine awCall_ctr ((insertion_a (A := A) (X := V) (Z := Z) (t := t) (c := c) (a := a) (b := n) rfl hr hB hLn (by omega) hA.symm (by omega) hvV).weaken (by simp)) ?_
  rintro r M2 ⟨rfl, V', pv, sv, rfl⟩
  have lv := pv.length_eq
  try simp (disch := omega) [t6, wrap_in, -aw_seq]
  have start : ∀ p, 20 ∣ p → SegS (A ++ (V' ++ Z)) p (p + 20) := fun p hpd => by
    rcases Nat.lt_or_ge p a with hlt | hge
    · exact seg_low (hs p hpd hlt) (by have := dvd_step hpd hda hlt; omega)
    · by_cases hpe : p = a
      · subst hpe
        exact seg_cut (seg_of_pw sv (by omega) (Nat.le_refl _)) (.inr (by rw [hZ]; simp))
      · refine seg_void ?_
        simp only [List.length_append, hZ, List.length_nil] at hLn ⊢
        omega
  have hp2 := (perm_mid (A := A) (Z := Z) pv).trans hp
  generalize A ++ (V' ++ Z) = L0 at start hp2
  clear hs hr hA hV hvV hZ pv sv lv hp hLn
  refine awLoop_T (fun d T M' => ∃ (L : List Note) (s : Nat), d = n - s ∧ L.Perm l ∧ 20 ≤ s ∧ s ≤ 2000 ∧ (∀ p, s ∣ p → SegS L p (p + s)) ∧ M' = stN M id t L ∧ look T 6 = some (iv s) ∧ look T 0 = some (.slice (some ⟨id, 0, none⟩) n c) ∧ look T 1 = some (iv n) ∧ look T 2 = some cmpV) (n - 20)
    ⟨L0, 20, rfl, hp2, Nat.le_refl _, by omega, start, by rw [stN_stN], by simp [t6], by simp [t0], by simp [t1], by simp [t2]⟩ ?_
  clear start hp2 t7 t6 t0 t1 t2 hda ha hn20 a
  rintro d T M' ⟨L, s, hd, hp, hs20, hs2, hS, rfl, t6, t0, t1, t2⟩
  have hLn : L.length = n := by rw [hp.length_eq, hn]
  by_cases hlt : s < n
  case neg =>
    have hlt' : ¬ ((s : Int) < n) := by omega
    simp (disch := omega) [t6, t1, hlt, hlt']
    refine ⟨L, hp, pw_whole (seg_cut (hS 0 (Nat.dvd_zero _)) (.inr (by omega))) (Nat.le_refl _), rfl⟩
  have hlt' : ((s : Int) < n) := by omega
  obtain ⟨w, hw⟩ : ∃ w, w = 2 * s := ⟨_, rfl⟩
  have ew : 2 * (s : Int) = w := by omega
  have hdw : s ∣ w := ⟨2, by omega⟩
  rw [aw_seq, aw_seq]
  simp (disch := omega) [t6, t1, hlt, hlt', -aw_seq]
  rw [aw_seq]
  simp (disch := omega) [t6, wrap_in, ew, -aw_seq]
  rw [aw_seq]
  simp (disch := omega) only [aw_block, aw_loop]
  refine awLoop_join (fun T' M' => ∃ (L : List Note) (a : Nat), L.Perm l ∧ a ≤ n ∧ n < a + w ∧ w ∣ a ∧ (∀ p, w ∣ p → p < a → SegS L p (p + w)) ∧ (∀ p, s ∣ p → a ≤ p → SegS L p (p + s)) ∧ M' = stN M id t L ∧ look T' 7 = some (iv a) ∧ look T' 6 = some (iv s) ∧ look T' 0 = some (.slice (some ⟨id, 0, none⟩) n c) ∧ look T' 1 = some (iv n) ∧ look T' 2 = some cmpV) ?_ ?_
  · intro Q' hQ
    refine awLoop_T (fun d T' M' => ∃ (L : List Note) (a b : Nat), d = n - a ∧ b = a + w ∧ L.Perm l ∧ a ≤ n ∧ w ∣ a ∧ (∀ p, w ∣ p → p < a → SegS L p (p + w)) ∧ (∀ p, s ∣ p → a ≤ p → SegS L p (p + s)) ∧ M' = stN M id t L ∧ look T' 7 = some (iv a) ∧ look T' 8 = some (iv b) ∧ look T' 6 = some (iv s) ∧ look T' 0 = some (.slice (some ⟨id, 0, none⟩) n c) ∧ look T' 1 = some (iv n) ∧ look T' 2 = some cmpV) n
      ⟨L, 0, w, rfl, by omega, hp, by omega, Nat.dvd_zero _, fun p _ h => by omega, fun p h1 _ => hS p h1, rfl, by simp, by simp, by simp [t6], by simp [t0], by simp [t1], by simp [t2]⟩ ?_
    clear hS hp hLn t6 t0 t1 t2 L
    rintro d T' M' ⟨L, a, b, hd, hb, hp, ha, hda, hs1, hs2, rfl, t7, t8, t6, t0, t1, t2⟩
    have hLn : L.length = n := by rw [hp.length_eq, hn]
    by_cases hle : b ≤ n
    case neg =>
      have hle' : ¬ ((b : Int) ≤ n) := by omega
      simp (disch := omega) [t8, t1, hle, hle']
      exact hQ _ _ ⟨L, a, hp, ha, by omega, hda, hs1, hs2, rfl, by simp [t7], by simp [t6], by simp [t0], by simp [t1], by simp [t2]⟩
    have hle' : ((b : Int) ≤ n) := by omega
    have hr := stN_row (t := t) (l := L) hid
    obtain ⟨m, hm⟩ : ∃ m, m = a + s := ⟨_, rfl⟩
    have em : (a : Int) + s = m := by omega
    obtain ⟨q, hq⟩ : ∃ q, q = b + w := ⟨_, rfl⟩
    have eq : (b : Int) + w = q := by omega
    obtain ⟨A, X, Z1, rfl, hA, hX⟩ := three L a m (by omega) (by omega)
    obtain ⟨O, Y, Z, rfl, hO, hY⟩ := three Z1 0 s (by omega) (by simp only [List.length_append] at hLn; omega)
    obtain rfl := nil_of_len hO
    simp only [List.nil_append] at *
    have hsa : s ∣ a := Nat.dvd_trans hdw hda
    have hsm : s ∣ m := by rw [hm]; exact Nat.dvd_add hsa (Nat.dvd_refl _)
    have sX := pw_of_seg (hs2 a hsa (Nat.le_refl _)) hA.symm (by omega)
    have sY : Y.Pairwise LeN := by
      have := hs2 m hsm (by omega)
      rw [show A ++ (X ++ (Y ++ Z)) = (A ++ X) ++ (Y ++ Z) by simp] at this
      exact pw_of_seg this (by simp only [List.length_append]; omega) (by simp only [List.length_append]; omega)
    have hvX : ∀ x, x ∈ X → noteB x = true := fun x hx => hv x (hp.mem_iff.1 (by simp [hx]))
    have hvY : ∀ x, x ∈ Y → noteB x = true := fun x hx => hv x (hp.mem_iff.1 (by simp [hx]))
    simp (disch := omega) [t8, t7, t6, t0, t1, t2, hle, hle', wrap_in, em]
    refine awCall_ctr ((merge_a (A := A) (X := X) (Y := Y) (Z := Z) (t := t) (c := c) (a := a) (m := m) (b := b) rfl hr hB hLn (by omega) hA.symm (by omega) (by omega) (by omega) (by omega) hvX hvY sX sY).weaken (by simp)) ?_
    rintro r M2 ⟨rfl, V, pv, sv, rfl⟩
    have lv := pv.length_eq
    simp only [List.length_append] at lv
    try simp (disch := omega) [t8, t6, wrap_in, ew, eq]
    refine lpI (n - b) (by omega) ?_
    refine ⟨A ++ (V ++ Z), b, q, rfl, by omega, ?_, hle, by rw [hb]; exact Nat.dvd_add hda (Nat.dvd_refl _), fun p hpd hpa => ?_, fun p hpd hpa => ?_, by rw [stN_stN], by simp [t8], by simp [t8], by simp [t6], by simp [t0], by simp [t1], by simp [t2]⟩
    · have := (perm_mid (A := A) (Z := Z) pv).trans (by simpa using hp)
      exact this
    · rcases Nat.lt_or_ge p a with hlt | hge
      · have h1 := hs1 p hpd hlt
        rw [← List.append_assoc X] at h1
        exact seg_low h1 (by have := dvd_step hpd hda hlt; omega)
      · have : p = a := by
          by_cases e : p = a
          · exact e
          · have := dvd_step hda hpd (by omega); omega
        exact seg_of_pw sv (by omega) (by omega)
    · have h1 := hs2 p hpd (by omega)
      rw [← List.append_assoc X] at h1
      exact seg_high h1 (by simp only [List.length_append]; omega) (by simp only [List.length_append]; omega)
  clear hS hp hLn t6 t0 t1 t2 L
  rintro T' M' ⟨L, a, hp, ha, hnb, hda, hs1, hs2, rfl, t7, t6, t0, t1, t2⟩
  have hLn : L.length = n := by rw [hp.length_eq, hn]
  have hr := stN_row (t := t) (l := L) hid
  obtain ⟨m, hm⟩ : ∃ m, m = a + s := ⟨_, rfl⟩
  have em : (a : Int) + s = m := by omega
  have hsa : s ∣ a := Nat.dvd_trans hdw hda
  have hsm : s ∣ m := by rw [hm]; exact Nat.dvd_add hsa (Nat.dvd_refl _)
  have ew2 : (s : Int) * 2 = w := by omega
  by_cases hmn : m < n
  case neg =>
    have hmn' : ¬ ((m : Int) < n) := by omega
    simp (disch := omega) [t7, t6, t1, wrap_in, em, hmn, hmn', ew2]
    refine lpI (n - w) (by omega) ?_
    refine ⟨L, w, rfl, hp, by omega, by omega, fun p hpd => ?_, rfl, by simp, by simp [t0], by simp [t1], by simp [t2]⟩
    rcases Nat.lt_or_ge p a with hlt | hge
    · exact hs1 p hpd hlt
    · by_cases hpe : p = a
      · subst hpe
        exact seg_cut (hs2 p hsa (Nat.le_refl _)) (.inr (by omega))
      · have := dvd_step hda hpd (by omega)
        exact seg_void (by omega)
  have hmn' : ((m : Int) < n) := by omega
  obtain ⟨A, X, Y, rfl, hA, hX⟩ := three L a m (by omega) (by omega)
  have hY : Y.length = n - m := by simp only [List.length_append] at hLn; omega
  have sX := pw_of_seg (hs2 a hsa (Nat.le_refl _)) hA.symm (by omega)
  have sY : Y.Pairwise LeN := by
    have := hs2 m hsm (by omega)
    rw [show A ++ (X ++ Y) = (A ++ X) ++ (Y ++ []) by simp] at this
    exact pw_of_seg this (by simp only [List.length_append]; omega) (by simp only [List.length_append]; omega)
  have hvX : ∀ x, x ∈ X → noteB x = true := fun x hx => hv x (hp.mem_iff.1 (by simp [hx]))
  have hvY : ∀ x, x ∈ Y → noteB x = true := fun x hx => hv x (hp.mem_iff.1 (by simp [hx]))
  simp (disch := omega) [t7, t6, t1, t0, t2, wrap_in, em, hmn, hmn']
  refine awCall_ctr ((merge_a (A := A) (X := X) (Y := Y) (Z := []) (t := t) (c := c) (a := a) (m := m) (b := n) (by simp) hr hB hLn (by omega) hA.symm (by omega) (by omega) (by omega) (by omega) hvX hvY sX sY).weaken (by simp)) ?_
  rintro r M2 ⟨rfl, V, pv, sv, rfl⟩
  have lv := pv.length_eq
  simp only [List.length_append] at lv
  try simp (disch := omega) [t6, wrap_in, ew2]
  refine lpI (n - w) (by omega) ?_
  refine ⟨A ++ V, w, rfl, (List.Perm.append_left A pv).trans hp, by omega, by omega, fun p hpd => ?_, by rw [stN_stN], by simp, by simp [t0], by simp [t1], by simp [t2]⟩
  rcases Nat.lt_or_ge p a with hlt | hge
  · have h1 := hs1 p hpd hlt
    rw [show A ++ (X ++ Y) = A ++ ((X ++ Y) ++ []) by simp] at h1
    have := seg_low (V' := V) h1 (by have := dvd_step hpd hda hlt; omega)
    simpa using this
  · by_cases hpe : p = a
    · subst hpe
      have := seg_of_pw (A := A) (Z := []) (p := p) (q := A.length + V.length) sv (by omega) (Nat.le_refl _)
      rw [List.append_nil] at this
      exact seg_cut this (.inr (by simp only [List.length_append]; omega))
    · have := dvd_step hda hpd (by omega)
      exact seg_void (by simp only [List.length_append]; omega)
theorem SortStable_a {M : Mem} {B id n c : Nat} {t : Bool} {l : List Note} (h : M[id]? = some (noteS t l)) (hB : B ≤ id) (hn : l.length = n) (hn2 : n ≤ 1000) (hv : ∀ x, x ∈ l → noteB x = true) :
    Ctr Try.prog B 68 [.slice (some ⟨id, 0, none⟩) n c, cmpV] M fun r M' => r = .tuple #[] ∧ ∃ l', l'.Perm l ∧ l'.Pairwise LeN ∧ M' = stN M id t l' := by
  first | (refine ctr_fn Try.func68 rfl Try.ntmps68 Try.results68 rfl rfl (by simp) ?_) | (refine ctr_fnC Try.func68 rfl Try.ntmps68 Try.results68 rfl (by simp) ?_)
  simp
  refine awCall_ctr ((stable_a (c := c) h hB hn hn2 hv).weaken (by simp)) ?_
  rintro r M2 ⟨rfl, l', h1, h2, rfl⟩
  try simp
  exact ⟨l', h1, h2, rfl⟩
end Go.Proofs.Ytbpaeonfebmomaa
