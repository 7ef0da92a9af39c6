/- Parts of the proof, together: The sort's insertion. Ways that part and meet again. Sorted lists of notes: where one is parted. The sort's merge: where one of the runs has one note. The sort's merge: where the second run has one note. No conditions. -/
import Derived.Test.YtbpaeonfebmomaaZzE11
namespace Go.Proofs.Ytbpaeonfebmomaa
open Go.RowKit
set_option linter.unusedVariables false
set_option linter.unusedSimpArgs false
set_option maxRecDepth 100000
attribute [local simp] List.getElem?_cons_zero
attribute [local irreducible] awCond awCall awLoop awDraw ow retQ retC resQ Keeps
theorem LeN.swap {a b : Note} (h : ¬ ordN a b < 0) : LeN b a := by
  have := ordN_neg a b
  unfold LeN
  omega
theorem ins_sorted {S1 S2 : List Note} {x : Note} (hv : ∀ y, y ∈ S1 ++ x :: S2 → noteB y = true) (hs : (S1 ++ S2).Pairwise LeN) (h2 : ∀ y, y ∈ S2 → LeN x y) (h1 : ∀ y, y ∈ S1 → LeN y x) : (S1 ++ x :: S2).Pairwise LeN := by
  rw [List.pairwise_append] at hs ⊢
  obtain ⟨a1, a2, a3⟩ := hs
  refine ⟨a1, List.pairwise_cons.2 ⟨h2, a2⟩, fun y hy z hz => ?_⟩
  rcases List.mem_cons.1 hz with rfl | hz
  · exact h1 y hy
  · exact a3 y hy z hz
theorem last_le {S1 : List Note} {x y : Note} (hv : ∀ z, z ∈ S1 ++ [y] → noteB z = true) (hx : noteB x = true) (hs : (S1 ++ [y]).Pairwise LeN) (h : LeN y x) : ∀ z, z ∈ S1 ++ [y] → LeN z x := by
  intro z hz
  rw [List.pairwise_append] at hs
  rcases List.mem_append.1 hz with h1 | h1
  · exact ordN_trans (hv z hz) (hv y (by simp)) hx (hs.2.2 z h1 y (by simp)) h
  · rw [List.mem_singleton] at h1; subst h1; exact h
set_option maxHeartbeats 4000000 in
theorem insertion_a {M : Mem} {B id n c a b : Nat} {t : Bool} {A X Z l : List Note} (hl : l = A ++ (X ++ Z)) (h : M[id]? = some (noteS t l)) (hB : B ≤ id) (hn : l.length = n) (hn2 : n ≤ 100000) (ha : a = A.length) (hb : b = a + X.length) (hv : ∀ x, x ∈ X → noteB x = true) :
    Ctr Try.prog B 104 [.slice (some ⟨id, 0, none⟩) n c, iv a, iv b, cmpV] M fun r M' => r = .tuple #[] ∧ ∃ X', X'.Perm X ∧ X'.Pairwise LeN ∧ M' = stN M id t (A ++ (X' ++ Z)) := by
  have hid := (List.getElem?_eq_some_iff.1 h).1
  have hn' := hn
  rw [hl] at hn'
  simp only [List.length_append] at hn'
  first | (refine ctr_fn Try.func104 rfl Try.ntmps104 Try.results104 rfl rfl (by simp) ?_) | (refine ctr_fnC Try.func104 rfl Try.ntmps104 Try.results104 rfl (by simp) ?_)
  have ea : (a : Int) + 1 = ((a + 1 : Nat) : Int) := by omega
  rcases X with _ | ⟨x0, X1⟩
  · have hab : ¬ ((a : Int) + 1 < b) := by simp at hb; omega
    simp (disch := omega) [wrap_in]
    refine awLoop_T (fun k T M' => k = 0 ∧ M' = M ∧ look T 8 = some (iv ((a : Int) + 1)) ∧ look T 2 = some (iv b)) 0 ⟨rfl, rfl, by simp, by simp⟩ ?_
    rintro k T M' ⟨rfl, hM, t8, t2⟩
    simp (disch := omega) [t8, t2, hab]
    rw [hM]
    have e : stN M id t (A ++ Z) = M := by rw [show A ++ Z = l from by rw [hl]; rfl, stN_self h]
    first | exact ⟨[], .refl _, .nil, by simpa using e.symm⟩ | exact e.symm | simp [e]
  simp (disch := omega) [wrap_in]
  refine awLoop_T (fun m T M' => ∃ (S R : List Note) (i : Nat), m = R.length ∧ i = a + S.length ∧ 0 < S.length ∧ (S ++ R).Perm (x0 :: X1) ∧ S.Pairwise LeN ∧ M' = stN M id t (A ++ (S ++ (R ++ Z))) ∧ look T 8 = some (iv i) ∧ look T 0 = some (.slice (some ⟨id, 0, none⟩) n c) ∧ look T 1 = some (iv a) ∧ look T 2 = some (iv b) ∧ look T 3 = some cmpV) X1.length
    ⟨[x0], X1, a + 1, rfl, rfl, by simp, by simp, by simp, by rw [show A ++ ([x0] ++ (X1 ++ Z)) = l by rw [hl]; simp, stN_self h], by simp, by simp, by simp, by simp, by simp⟩ ?_
  rintro m T M' ⟨S, R, i, hm, hi, hS0, hp, hs, rfl, t8, t0, t1, t2, t3⟩
  have hpl := hp.length_eq
  simp only [List.length_append, List.length_cons] at hpl hb hn'
  rcases R with _ | ⟨x, R⟩
  · have hib : ¬ ((i : Int) < b) := by simp at hpl; omega
    simp (disch := omega) [t8, t2, hib]
    exact ⟨S, by simpa using hp, hs, by simp⟩
  simp only [List.length_cons] at hpl hm
  have hib : (i : Int) < b := by omega
  have hvS : ∀ y, y ∈ S → noteB y = true := fun y hy => hv y (hp.mem_iff.1 (by simp [hy]))
  have hvx : noteB x = true := hv x (hp.mem_iff.1 (by simp))
  simp (disch := omega) [t8, t2, hib]
  refine awLoop_T (fun k T M' => ∃ (S1 S2 : List Note) (j : Nat), k = S1.length ∧ S = S1 ++ S2 ∧ j = a + k ∧ (∀ y, y ∈ S2 → LeN x y) ∧ M' = stN M id t (A ++ (S1 ++ (x :: (S2 ++ (R ++ Z))))) ∧ look T 9 = some (iv j) ∧ look T 8 = some (iv i) ∧ look T 0 = some (.slice (some ⟨id, 0, none⟩) n c) ∧ look T 1 = some (iv a) ∧ look T 2 = some (iv b) ∧ look T 3 = some cmpV) S.length
    ⟨S, [], i, rfl, by simp, hi, by simp, by simp, by simp [t8], by simp [t8], by simp [t0], by simp [t1], by simp [t2], by simp [t3]⟩ ?_
  rintro k T M' ⟨S1, S2, j, hk, hSS, hj, h2, rfl, t9, t8, t0, t1, t2, t3⟩
  have hSl := congrArg List.length hSS
  simp only [List.length_append] at hSl
  have fin : (∀ y, y ∈ S1 → LeN y x) → ((S1 ++ x :: S2) ++ R).Perm (x0 :: X1) ∧ (S1 ++ x :: S2).Pairwise LeN := fun h1 => ⟨by
    refine List.Perm.trans ?_ hp
    rw [hSS]
    simp only [List.append_assoc, List.cons_append]
    refine List.Perm.append_left S1 ?_
    rw [← List.cons_append]
    exact (List.perm_middle (l₁ := S2) (l₂ := R) (a := x)).symm, ins_sorted (fun y hy => by
      rcases List.mem_append.1 hy with h | h
      · exact hvS y (by rw [hSS]; simp [h])
      · rcases List.mem_cons.1 h with rfl | h
        · exact hvx
        · exact hvS y (by rw [hSS]; simp [h])) (by rw [← hSS]; exact hs) h2 h1⟩
  have out : ∀ T', (∀ y, y ∈ S1 → LeN y x) → look T' 8 = some (iv ((i : Int) + 1)) → look T' 0 = some (.slice (some ⟨id, 0, none⟩) n c) → look T' 1 = some (iv a) → look T' 2 = some (iv b) → look T' 3 = some cmpV → ∃ (S' R' : List Note) (i' : Nat), R.length = R'.length ∧ i' = a + S'.length ∧ 0 < S'.length ∧ (S' ++ R').Perm (x0 :: X1) ∧ S'.Pairwise LeN ∧ stN M id t (A ++ (S1 ++ (x :: (S2 ++ (R ++ Z))))) = stN M id t (A ++ (S' ++ (R' ++ Z))) ∧ look T' 8 = some (iv i') ∧ look T' 0 = some (.slice (some ⟨id, 0, none⟩) n c) ∧ look T' 1 = some (iv a) ∧ look T' 2 = some (iv b) ∧ look T' 3 = some cmpV := fun T' h1 r8 r0 r1 r2 r3 =>
    ⟨S1 ++ x :: S2, R, i + 1, rfl, by simp; omega, by simp <;> omega, (fin h1).1, (fin h1).2, by simp, by rw [r8]; rfl, r0, r1, r2, r3⟩
  have hr := stN_row (t := t) (l := A ++ (S1 ++ (x :: (S2 ++ (R ++ Z))))) hid
  rcases List.eq_nil_or_concat S1 with hnil | ⟨S1', y, hcat⟩
  · subst hnil
    have hja : ¬ ((a : Int) < j) := by simp at hk; omega
    simp (disch := omega) [t9, t1]
    refine awDraw_E 14 [[],[],[0,1],[2,0,1],[3,2,0,1],[3,2,0,1],[3,2,0,1],[5,3,2,0,1,6],[7,5,3,2,0,1,6],[3,2,0,1],[3,2,0,1],[10,3,2,0,1],[9,3,2,0,1,11,10],[12,9,3,2,0,1,11,10],[4,3,2,0,1,8,7,5,6,13,12,9,11,10],[14,4,3,2,0,1,8,7,5,6,13,12,9,11,10],[3,2,0,1,15,14,4,8,7,5,6,13,12,9,11,10]] (by kernel_rfl) (by kernel_rfl) ?_
    simp (disch := omega) [t9, t1, t8, hja, wrap_in]
    refine lpI R.length (by omega) (out _ (by simp) ?_ ?_ ?_ ?_ ?_) <;> simp [t8, t0, t1, t2, t3]
  · rw [List.concat_eq_append] at hcat
    subst hcat
    simp only [List.length_append, List.length_cons, List.length_nil] at hk hSl
    obtain ⟨q, hq⟩ : ∃ q, q = a + S1'.length := ⟨_, rfl⟩
    obtain ⟨p, hp1⟩ : ∃ p, p = q + 1 := ⟨_, rfl⟩
    obtain rfl : j = p := by omega
    have e1 : (j : Int) - 1 = q := by omega
    have hja : (a : Int) < j := by omega
    obtain ⟨l1, hl1⟩ : ∃ l1, l1 = A ++ ((S1' ++ [y]) ++ (x :: (S2 ++ (R ++ Z)))) := ⟨_, rfl⟩
    have hl1' : l1 = (A ++ S1') ++ (y :: x :: (S2 ++ (R ++ Z))) := by rw [hl1]; simp
    have hU : (A ++ S1').length = q := by simp; omega
    have elq : el l1 q = y := by rw [hl1', ← hU, el_app]
    have elp : el l1 j = x := by
      have e : (A ++ S1' ++ [y]).length = j := by simp; omega
      rw [show l1 = (A ++ S1' ++ [y]) ++ x :: (S2 ++ (R ++ Z)) from by rw [hl1']; simp, ← e, el_app]
    have hln : l1.length = n := by rw [hl1']; simp; omega
    obtain ⟨M1, hM1⟩ : ∃ M1, M1 = stN M id t l1 := ⟨_, rfl⟩
    have hr1 : M1[id]? = some (noteS t l1) := by rw [hM1]; exact stN_row hid
    have hid1 : id < M1.length := by rw [hM1, stN_len]; exact hid
    have hM1l : M1.length = M.length := by rw [hM1, stN_len]
    have hBl : B ≤ M1.length := by omega
    rw [← hl1] at out ⊢
    rw [← hM1] at out ⊢
    have hjn : j < n := by omega
    have hqn : q < n := by omega
    have hcx : cellsAt M1 id (j * 7) 7 = some x.row := by rw [stN_at hr1 (by omega), elp]
    have hcy : cellsAt M1 id (q * 7) 7 = some y.row := by rw [stN_at hr1 (by omega), elq]
    simp (disch := omega) [t9, t1]
    refine awDraw_E 14 [[],[],[0,1],[2,0,1],[3,2,0,1],[3,2,0,1],[3,2,0,1],[5,3,2,0,1,6],[7,5,3,2,0,1,6],[3,2,0,1],[3,2,0,1],[10,3,2,0,1],[9,3,2,0,1,11,10],[12,9,3,2,0,1,11,10],[4,3,2,0,1,8,7,5,6,13,12,9,11,10],[14,4,3,2,0,1,8,7,5,6,13,12,9,11,10],[3,2,0,1,15,14,4,8,7,5,6,13,12,9,11,10]] (by kernel_rfl) (by kernel_rfl) ?_
    simp (disch := omega) [t9, t1, t0, t3, t8, hja, wrap_in, e1, stN_esz hr1, hcx, hcy]
    refine ⟨by omega, by omega, ?_⟩
    refine awCall_det' (compareNotes_i x y hvx (hvS y (by rw [hSS]; simp))) (by omega) ?_
    by_cases ho : ordN x y < 0
    · simp (disch := omega) [ho, t9, t1, t0, t3, t8, wrap_in]
      refine awDraw_C [15, 17] (fun kk v => match kk with
        | 0 => v = .slice (some ⟨id, 0, none⟩) n c
        | 1 => v = iv j
        | 2 => v = .slice (some ⟨id, 0, none⟩) n c
        | 3 => v = iv j
        | 4 => v = iv q
        | 5 => v = .slice (some ⟨id, 0, none⟩) n c
        | 6 => v = iv j
        | 7 => v = iv q
        | 8 => v = .pointer (some ⟨id, q * 7, none⟩)
        | 9 => v = .agg (el l1 q).row.toArray
        | 10 => v = .slice (some ⟨id, 0, none⟩) n c
        | 11 => v = iv j
        | 12 => v = .pointer (some ⟨id, j * 7, none⟩)
        | 13 => v = .agg (el l1 j).row.toArray
        | 14 => v = .pointer (some ⟨id, j * 7, none⟩)
        | 16 => v = .pointer (some ⟨id, q * 7, none⟩)
        | _ => True) (fun vs M' => match vs with
        | [] => M' = M1
        | [_] => M' = stN M1 id t (l1.set j (el l1 q))
        | [_, _] => M' = stN M1 id t (swapL l1 j q)
        | _ => False) (by kernel_rfl) (by decide +kernel) (by decide +kernel) (by decide +kernel) rfl ?_ ?_ ?_
      · intro kk o T' M' vs K hi ho hΨ hlate hp hf' hK
        have f0 : look T' 0 = some (.slice (some ⟨id, 0, none⟩) n c) := by rw [hf' 0 (by decide +kernel)]; simp [t0]
        have f1 : look T' 1 = some (iv a) := by rw [hf' 1 (by decide +kernel)]; simp [t1]
        have f2 : look T' 2 = some (iv b) := by rw [hf' 2 (by decide +kernel)]; simp [t2]
        have f3 : look T' 3 = some (cmpV) := by rw [hf' 3 (by decide +kernel)]; simp [t3]
        have f8 : look T' 8 = some (iv i) := by rw [hf' 8 (by decide +kernel)]; simp [t8]
        have f9 : look T' 9 = some (iv j) := by rw [hf' 9 (by decide +kernel)]; simp [t9]
        rcases kk with _ | _ | _ | _ | _ | _ | _ | _ | _ | _ | _ | _ | _ | _ | _ | _ | _ | _ | kk
        · skip
          simp at ho; subst ho
          simp [f0]
          exact hK _ rfl
        · skip
          simp at ho; subst ho
          simp [f9]
          exact hK _ rfl
        · skip
          simp at ho; subst ho
          simp [f0]
          exact hK _ rfl
        · skip
          simp at ho; subst ho
          simp [f9]
          exact hK _ rfl
        · skip
          obtain ⟨v0, d0, q0, -⟩ := hp 3 40 (by decide +kernel) rfl
          rw [q0 (by decide)] at d0
          simp at ho; subst ho
          simp (disch := omega) [d0, wrap_in, e1]
          exact hK _ rfl
        · skip
          simp at ho; subst ho
          simp [f0]
          exact hK _ rfl
        · skip
          simp at ho; subst ho
          simp [f9]
          exact hK _ rfl
        · skip
          obtain ⟨v0, d0, q0, -⟩ := hp 6 43 (by decide +kernel) rfl
          rw [q0 (by decide)] at d0
          simp at ho; subst ho
          simp (disch := omega) [d0, wrap_in, e1]
          exact hK _ rfl
        · skip
          obtain ⟨v0, d0, q0, -⟩ := hp 5 42 (by decide +kernel) rfl
          rw [q0 (by decide)] at d0
          obtain ⟨v1, d1, q1, -⟩ := hp 7 44 (by decide +kernel) rfl
          rw [q1 (by decide)] at d1
          have he : rowEsz M' id = some 7 := by
            match vs, hΨ with
            | [], hΨ => rw [hΨ]; exact stN_esz hr1
            | [_], hΨ => rw [hΨ]; exact stN_esz (stN_row hid1)
            | [_, _], hΨ => rw [hΨ]; exact stN_esz (stN_row hid1)
          simp at ho; subst ho
          simp (disch := omega) [d0, d1, he, hqn]
          exact hK _ rfl
        · skip
          obtain ⟨v0, d0, q0, -⟩ := hp 8 45 (by decide +kernel) rfl
          rw [q0 (by decide)] at d0
          obtain rfl := List.eq_nil_of_length_eq_zero (Nat.le_zero.1 (hlate 0 15 rfl (by decide +kernel)))
          have hΨ' : M' = M1 := hΨ
          have hc := stN_at hr1 (i := q) (by omega)
          rw [← hΨ'] at hc
          simp at ho; subst ho
          simp [d0, hc]
          exact hK _ rfl
        · skip
          simp at ho; subst ho
          simp [f0]
          exact hK _ rfl
        · skip
          simp at ho; subst ho
          simp [f9]
          exact hK _ rfl
        · skip
          obtain ⟨v0, d0, q0, -⟩ := hp 10 47 (by decide +kernel) rfl
          rw [q0 (by decide)] at d0
          obtain ⟨v1, d1, q1, -⟩ := hp 11 48 (by decide +kernel) rfl
          rw [q1 (by decide)] at d1
          have he : rowEsz M' id = some 7 := by
            match vs, hΨ with
            | [], hΨ => rw [hΨ]; exact stN_esz hr1
            | [_], hΨ => rw [hΨ]; exact stN_esz (stN_row hid1)
            | [_, _], hΨ => rw [hΨ]; exact stN_esz (stN_row hid1)
          simp at ho; subst ho
          simp (disch := omega) [d0, d1, he, hjn]
          exact hK _ rfl
        · skip
          obtain ⟨v0, d0, q0, -⟩ := hp 12 49 (by decide +kernel) rfl
          rw [q0 (by decide)] at d0
          obtain rfl := List.eq_nil_of_length_eq_zero (Nat.le_zero.1 (hlate 0 15 rfl (by decide +kernel)))
          have hΨ' : M' = M1 := hΨ
          have hc := stN_at hr1 (i := j) (by omega)
          rw [← hΨ'] at hc
          simp at ho; subst ho
          simp [d0, hc]
          exact hK _ rfl
        · skip
          obtain ⟨v0, d0, q0, -⟩ := hp 0 37 (by decide +kernel) rfl
          rw [q0 (by decide)] at d0
          obtain ⟨v1, d1, q1, -⟩ := hp 1 38 (by decide +kernel) rfl
          rw [q1 (by decide)] at d1
          have he : rowEsz M' id = some 7 := by
            match vs, hΨ with
            | [], hΨ => rw [hΨ]; exact stN_esz hr1
            | [_], hΨ => rw [hΨ]; exact stN_esz (stN_row hid1)
            | [_, _], hΨ => rw [hΨ]; exact stN_esz (stN_row hid1)
          simp at ho; subst ho
          simp (disch := omega) [d0, d1, he, hjn]
          exact hK _ rfl
        · skip
          cases hi
        · skip
          obtain ⟨v0, d0, q0, -⟩ := hp 2 39 (by decide +kernel) rfl
          rw [q0 (by decide)] at d0
          obtain ⟨v1, d1, q1, -⟩ := hp 4 41 (by decide +kernel) rfl
          rw [q1 (by decide)] at d1
          have he : rowEsz M' id = some 7 := by
            match vs, hΨ with
            | [], hΨ => rw [hΨ]; exact stN_esz hr1
            | [_], hΨ => rw [hΨ]; exact stN_esz (stN_row hid1)
            | [_, _], hΨ => rw [hΨ]; exact stN_esz (stN_row hid1)
          simp at ho; subst ho
          simp (disch := omega) [d0, d1, he, hqn]
          exact hK _ rfl
        · skip
          cases hi
        · simp at ho
      · intro kk k' o T' M' vs K hi ho hΨ hlen hp hf' hK
        rcases kk with _ | _ | kk
        · skip
          obtain rfl : 15 = k' := by simpa using hi
          obtain ⟨v0, d0, q0, -⟩ := hp 14 51 (by decide +kernel) rfl
          rw [q0 (by decide)] at d0
          obtain ⟨v1, d1, q1, -⟩ := hp 9 46 (by decide +kernel) rfl
          rw [q1 (by decide)] at d1
          obtain rfl := List.eq_nil_of_length_eq_zero hlen
          have hΨ' : M' = M1 := hΨ
          simp at ho; subst ho
          simp [d0, d1, hΨ']
          refine ⟨rfl, ?_⟩
          rw [show putCells B M1 id (j * 7) _ = some (stN M1 id t (l1.set j (el l1 q))) from stN_put hr1 hB (by omega), ow_some]
          exact hK _ _ rfl
        · skip
          obtain rfl : 17 = k' := by simpa using hi
          obtain ⟨v0, d0, q0, -⟩ := hp 16 52 (by decide +kernel) rfl
          rw [q0 (by decide)] at d0
          obtain ⟨v1, d1, q1, -⟩ := hp 13 50 (by decide +kernel) rfl
          rw [q1 (by decide)] at d1
          match vs, hlen, hΨ with
          | [_], _, hΨ =>
            have hΨ' : M' = stN M1 id t (l1.set j (el l1 q)) := hΨ
            simp at ho; subst ho
            simp [d0, d1, hΨ']
            refine ⟨rfl, ?_⟩
            rw [show putCells B (stN M1 id t (l1.set j (el l1 q))) id (q * 7) _ = some (stN (stN M1 id t (l1.set j (el l1 q))) id t ((l1.set j (el l1 q)).set q (el l1 j))) from stN_put (stN_row hid1) hB (by simp; omega), ow_some, stN_stN]
            exact hK _ _ rfl
        · simp at hi
      · intro T' M' vs hlen hΨ hv hf'
        match vs, hlen, hΨ with
        | [_, _], _, hΨ =>
          have hΨ' : M' = stN M1 id t (swapL l1 j q) := hΨ
          subst hΨ'
          have g0 : look T' 0 = some (.slice (some ⟨id, 0, none⟩) n c) := by rw [hf' 0 (by decide +kernel)]; simp [t0]
          have g1 : look T' 1 = some (iv a) := by rw [hf' 1 (by decide +kernel)]; simp [t1]
          have g2 : look T' 2 = some (iv b) := by rw [hf' 2 (by decide +kernel)]; simp [t2]
          have g3 : look T' 3 = some (cmpV) := by rw [hf' 3 (by decide +kernel)]; simp [t3]
          have g8 : look T' 8 = some (iv i) := by rw [hf' 8 (by decide +kernel)]; simp [t8]
          have g9 : look T' 9 = some (iv j) := by rw [hf' 9 (by decide +kernel)]; simp [t9]
          simp (disch := omega) [g9, g0, g1, g2, g3, g8, wrap_in, e1]
          refine lpI S1'.length (by omega) ?_
          refine ⟨S1', y :: S2, q, rfl, by rw [hSS]; simp, hq, ?_, ?_, by simp, by simp [g8], by simp [g0], by simp [g1], by simp [g2], by simp [g3]⟩
          · intro z hz
            rcases List.mem_cons.1 hz with rfl | hz
            · exact Int.le_of_lt ho
            · exact h2 z hz
          · rw [hM1, stN_stN, swapL_comm (by omega), hp1, hl1', ← hU, swapL_adj]
            simp
    · simp (disch := omega) [ho, t9, t1, t0, t3, t8, wrap_in]
      refine lpI R.length (by omega) (out _ ?_ ?_ ?_ ?_ ?_ ?_)
      · exact last_le (fun z hz => hvS z (by rw [hSS]; exact List.mem_append_left _ hz)) hvx (by rw [hSS] at hs; exact (List.pairwise_append.1 hs).1) (LeN.swap ho)
      all_goals simp [t8, t0, t1, t2, t3]
end Go.Proofs.Ytbpaeonfebmomaa

namespace Go.Proofs.Ytbpaeonfebmomaa
open Go.RowKit
set_option linter.unusedVariables false
theorem awCond_join {P : Program} {b n : Nat} {c : Bool} {A B Y : Code} {Q : Ex → St → Prop} {T : List (Nat × Value)} {M : Mem} (J : List (Nat × Value) → Mem → Prop)
    (h1 : ∀ Q' : Ex → St → Prop, (∀ T' M', J T' M' → Q' .normal ⟨n, T', M'⟩) → c = true → sAw P b A Q' ⟨n, T, M⟩)
    (h2 : ∀ Q' : Ex → St → Prop, (∀ T' M', J T' M' → Q' .normal ⟨n, T', M'⟩) → c = false → sAw P b B Q' ⟨n, T, M⟩)
    (h3 : ∀ T' M', J T' M' → sAw P b Y Q ⟨n, T', M'⟩) : awCond (.bool c) (sAw P b A (sThen P b Y Q tk) ⟨n, T, M⟩) (sAw P b B (sThen P b Y Q tk) ⟨n, T, M⟩) :=
  ⟨fun h => h1 _ (fun T' M' hJ => by rw [sThen_normal]; exact h3 T' M' hJ) h, fun h => h2 _ (fun T' M' hJ => by rw [sThen_normal]; exact h3 T' M' hJ) h⟩
theorem awThen_join {P : Program} {b n : Nat} {A Y : Code} {Q : Ex → St → Prop} {T : List (Nat × Value)} {M : Mem} (J : List (Nat × Value) → Mem → Prop)
    (h1 : ∀ Q' : Ex → St → Prop, (∀ T' M', J T' M' → Q' .normal ⟨n, T', M'⟩) → sAw P b A Q' ⟨n, T, M⟩)
    (h3 : ∀ T' M', J T' M' → sAw P b Y Q ⟨n, T', M'⟩) : sAw P b A (sThen P b Y Q tk) ⟨n, T, M⟩ :=
  h1 _ fun T' M' hJ => by rw [sThen_normal]; exact h3 T' M' hJ
theorem awLoop_join {P : Program} {b n id : Nat} {F : (Ex → St → Prop) → St → Prop} {Y : Code} {Q : Ex → St → Prop} {T : List (Nat × Value)} {M : Mem} (J : List (Nat × Value) → Mem → Prop)
    (h1 : ∀ Q' : Ex → St → Prop, (∀ T' M', J T' M' → Q' .normal ⟨n, T', M'⟩) → awLoop F (sBlock id Q' tk) ⟨n, T, M⟩)
    (h3 : ∀ T' M', J T' M' → sAw P b Y Q ⟨n, T', M'⟩) : awLoop F (sBlock id (sThen P b Y Q tk) tk) ⟨n, T, M⟩ :=
  h1 _ fun T' M' hJ => by rw [sThen_normal]; exact h3 T' M' hJ
end Go.Proofs.Ytbpaeonfebmomaa

namespace Go.Proofs.Ytbpaeonfebmomaa
open Go.RowKit
set_option linter.unusedVariables false
set_option linter.unusedSimpArgs false
set_option maxRecDepth 100000
attribute [local simp] List.getElem?_cons_zero
attribute [local irreducible] awCond awCall awLoop awDraw ow retQ retC resQ Keeps
theorem ordN_self (a : Note) : ordN a a = 0 := by have := ordN_neg a a; omega
theorem pw_el {l : List Note} (h : l.Pairwise LeN) {i j : Nat} (hi : i < j) (hj : j < l.length) : LeN (el l i) (el l j) := by
  rw [List.pairwise_iff_getElem] at h
  have := h i j (by omega) hj hi
  simpa [el, List.getElem?_eq_getElem hj, List.getElem?_eq_getElem (show i < l.length by omega)] using this
theorem el_seg {A X R : List Note} {i : Nat} (hi : i < X.length) : el (A ++ (X ++ R)) (A.length + i) = el X i := by
  simp [el, List.getElem?_append_right, List.getElem?_append_left hi]
theorem low_le {L : List Note} {z : Note} {k : Nat} (hs : L.Pairwise LeN) (hv : ∀ x, x ∈ L → noteB x = true) (hz : noteB z = true) (hk : k ≤ L.length) (h : k = 0 ∨ LeN (el L (k - 1)) z) : ∀ y, y ∈ L.take k → LeN y z := by
  intro y hy
  obtain ⟨i, hi, rfl⟩ := List.getElem_of_mem hy
  rw [List.length_take] at hi
  have e : (L.take k)[i] = el L i := by simp [el, List.getElem?_eq_getElem (show i < L.length by omega)]
  rw [e]
  rcases h with h | h
  · omega
  · by_cases e2 : i = k - 1
    · rw [e2]; exact h
    · exact ordN_trans (hv _ (el_mem (by omega))) (hv _ (el_mem (by omega))) hz (pw_el hs (show i < k - 1 by omega) (by omega)) h
theorem high_le {L : List Note} {z : Note} {k : Nat} (hs : L.Pairwise LeN) (hv : ∀ x, x ∈ L → noteB x = true) (hz : noteB z = true) (h : k = L.length ∨ LeN z (el L k)) : ∀ y, y ∈ L.drop k → LeN z y := by
  intro y hy
  obtain ⟨i, hi, rfl⟩ := List.getElem_of_mem hy
  rw [List.length_drop] at hi
  have e : (L.drop k)[i] = el L (k + i) := by simp [el, List.getElem?_eq_getElem (show k + i < L.length by omega)]
  rw [e]
  rcases h with h | h
  · omega
  · by_cases e2 : i = 0
    · rw [e2]; exact h
    · exact ordN_trans hz (hv _ (el_mem (by omega))) (hv _ (el_mem (by omega))) h (pw_el hs (show k < k + i by omega) (by omega))
theorem LeN.of_lt {a b : Note} (h : ordN a b < 0) : LeN a b := Int.le_of_lt h
/-- What the halves of a parted pair of sorted lists give. -/
theorem halves {X1 X2 Y1 Y2 V1 V2 : List Note} (sX : (X1 ++ X2).Pairwise LeN) (sY : (Y1 ++ Y2).Pairwise LeN) (c1 : ∀ x, x ∈ X1 → ∀ y, y ∈ Y2 → LeN x y) (c2 : ∀ y, y ∈ Y1 → ∀ x, x ∈ X2 → LeN y x)
    (p1 : V1.Perm (X1 ++ Y1)) (p2 : V2.Perm (X2 ++ Y2)) (s1 : V1.Pairwise LeN) (s2 : V2.Pairwise LeN) : (V1 ++ V2).Perm ((X1 ++ X2) ++ (Y1 ++ Y2)) ∧ (V1 ++ V2).Pairwise LeN := by
  constructor
  · refine (p1.append p2).trans ?_
    simp only [List.append_assoc]
    refine List.Perm.append_left X1 ?_
    rw [← List.append_assoc, ← List.append_assoc X2]
    exact List.Perm.append_right Y2 List.perm_append_comm
  · rw [List.pairwise_append]
    refine ⟨s1, s2, fun a ha b hb => ?_⟩
    rw [p1.mem_iff, List.mem_append] at ha
    rw [p2.mem_iff, List.mem_append] at hb
    rw [List.pairwise_append] at sX sY
    rcases ha with ha | ha <;> rcases hb with hb | hb
    · exact sX.2.2 a ha b hb
    · exact c1 a ha b hb
    · exact c2 a ha b hb
    · exact sY.2.2 a ha b hb
theorem nil_of_len {L : List Note} (h : L.length = 0) : L = [] := List.eq_nil_of_length_eq_zero h
end Go.Proofs.Ytbpaeonfebmomaa

namespace Go.Proofs.Ytbpaeonfebmomaa
open Go.RowKit
set_option linter.unusedVariables false
set_option linter.unusedSimpArgs false
set_option maxRecDepth 100000
attribute [local simp] List.getElem?_cons_zero
attribute [local irreducible] awCond awCall awLoop awDraw ow retQ retC resQ Keeps
theorem half_sum (lo hi : Nat) : ((lo : Int) + hi).fdiv 2 = (((lo + hi) / 2 : Nat) : Int) := by
  rw [Int.fdiv_eq_ediv_of_nonneg _ (by omega)]
  omega
theorem shr_one {lo hi p : Nat} (hp : p = (lo + hi) / 2) : intV .shr .u64 ((lo : Int) + hi) 1 = some (.int .u64 (p : Int)) := by
  show (if (1 : Int) < 0 then none else some (Value.int IntKind.u64 (((lo : Int) + hi).fdiv (2 ^ (min (1 : Int).toNat IntKind.u64.bits))))) = _
  rw [if_neg (by omega), show (2 : Int) ^ (min (1 : Int).toNat IntKind.u64.bits) = 2 from by decide, half_sum, hp]
set_option maxHeartbeats 4000000 in
theorem merge_x {M : Mem} {B id n c a m b : Nat} {t : Bool} {A Y Z l : List Note} {x : Note} (hl : l = A ++ ([x] ++ (Y ++ Z))) (h : M[id]? = some (noteS t l)) (hB : B ≤ id) (hn : l.length = n) (hn2 : n ≤ 100000) (ha : a = A.length) (hm : m = a + 1) (hb : b = m + Y.length) (hY : 0 < Y.length) (hvx : noteB x = true) (hvY : ∀ y, y ∈ Y → noteB y = true) (sY : Y.Pairwise LeN) :
    Ctr Try.prog B 105 [.slice (some ⟨id, 0, none⟩) n c, iv a, iv m, iv b, cmpV] M fun r M' => r = .tuple #[] ∧ ∃ V, V.Perm ([x] ++ Y) ∧ V.Pairwise LeN ∧ M' = stN M id t (A ++ (V ++ Z)) := by
  have hid := (List.getElem?_eq_some_iff.1 h).1
  have hn' := hn
  rw [hl] at hn'
  simp only [List.length_append, List.length_cons, List.length_nil] at hn'
  have e0 : (m : Int) - a = 1 := by omega
  have elx : el l a = x := by rw [hl, ha]; exact el_app
  have elY : ∀ j, j < Y.length → el l (m + j) = el Y j := fun j hj => by
    have := el_seg (A := A ++ [x]) (X := Y) (R := Z) hj
    rw [hl, show m + j = (A ++ [x]).length + j by simp; omega]
    simpa using this
  first | (refine ctr_fn Try.func105 rfl Try.ntmps105 Try.results105 rfl rfl (by simp) ?_) | (refine ctr_fnC Try.func105 rfl Try.ntmps105 Try.results105 rfl (by simp) ?_)
  simp (disch := omega) [wrap_in, e0]
  refine awLoop_join (fun T' M' => M' = M ∧ ∃ k : Nat, k ≤ Y.length ∧ (k = 0 ∨ ordN (el Y (k - 1)) x < 0) ∧ (k = Y.length ∨ ¬ ordN (el Y k) x < 0) ∧ look T' 10 = some (iv ((m + k : Nat) : Int)) ∧ look T' 0 = some (.slice (some ⟨id, 0, none⟩) n c) ∧ look T' 1 = some (iv a)) ?_ ?_
  · intro Q' hQ
    refine awLoop_T (fun d T M' => ∃ (lo hi : Nat), d = hi - lo ∧ m ≤ lo ∧ lo ≤ hi ∧ hi ≤ b ∧ (lo = m ∨ ordN (el Y (lo - m - 1)) x < 0) ∧ (hi = b ∨ ¬ ordN (el Y (hi - m)) x < 0) ∧ M' = M ∧ look T 10 = some (iv lo) ∧ look T 11 = some (iv hi) ∧ look T 0 = some (.slice (some ⟨id, 0, none⟩) n c) ∧ look T 1 = some (iv a) ∧ look T 4 = some cmpV) (b - m)
      ⟨m, b, rfl, Nat.le_refl _, by omega, Nat.le_refl _, .inl rfl, .inl rfl, rfl, by simp, by simp, by simp, by simp, by simp⟩ ?_
    rintro d T M' ⟨lo, hi, hd, h1, h2, h3, h4, h5, rfl, t10, t11, t0, t1, t4⟩
    by_cases hlt : lo < hi
    · obtain ⟨p, hp⟩ : ∃ p, p = (lo + hi) / 2 := ⟨_, rfl⟩
      have hs := shr_one hp
      have hpm : m ≤ p := by omega
      have hcp : cellsAt M' id (p * 7) 7 = some (el Y (p - m)).row := by
        rw [stN_at h (by omega), ← elY (p - m) (by omega)]
        congr 2; congr 1; omega
      have hca : cellsAt M' id (a * 7) 7 = some x.row := by rw [stN_at h (by omega), elx]
      have hpn : p < n := by omega
      have han : a < n := by omega
      simp (disch := omega) [t10, t11, hlt, wrap_in, u64_in, hs]
      refine awDraw_E 9 [[],[],[],[1,2],[3,1,2],[],[],[5,6],[7,5,6],[0,4,3,1,2,8,7,5,6],[9,0,4,3,1,2,8,7,5,6]] (by kernel_rfl) (by kernel_rfl) ?_
      simp (disch := omega) [t10, t11, t0, t1, t4, wrap_in, stN_esz h, hcp, hca, hpn, han]
      refine awCall_det' (compareNotes_i (el Y (p - m)) x (hvY _ (el_mem (by omega))) hvx) (by omega) ?_
      by_cases ho : ordN (el Y (p - m)) x < 0
      · simp (disch := omega) [ho, t10, t11, wrap_in]
        refine lpI (hi - (p + 1)) (by omega) ?_
        exact ⟨p + 1, hi, rfl, by omega, by omega, h3, .inr (by rw [show p + 1 - m - 1 = p - m by omega]; exact ho), h5, rfl, by simp, by simp [t11], by simp [t0], by simp [t1], by simp [t4]⟩
      · simp (disch := omega) [ho, t10, t11, wrap_in]
        refine lpI (p - lo) (by omega) ?_
        exact ⟨lo, p, rfl, by omega, by omega, by omega, h4, .inr ho, rfl, by simp [t10], by simp, by simp [t0], by simp [t1], by simp [t4]⟩
    · obtain rfl : lo = hi := by omega
      simp (disch := omega) [t10, t11]
      refine hQ _ _ ⟨rfl, lo - m, by omega, ?_, ?_, by simp [t10]; omega, by simp [t0], by simp [t1]⟩
      · rcases h4 with h4 | h4
        · exact .inl (by omega)
        · exact .inr h4
      · rcases h5 with h5 | h5
        · exact .inl (by omega)
        · exact .inr h5
  · rintro T' M' ⟨rfl, k, hk, k1, k2, t10, t0, t1⟩
    have hV : (Y.take k ++ x :: Y.drop k).Pairwise LeN := ins_sorted (fun y hy => by
      rcases List.mem_append.1 hy with h | h
      · exact hvY y (List.mem_of_mem_take h)
      · rcases List.mem_cons.1 h with rfl | h
        · exact hvx
        · exact hvY y (List.mem_of_mem_drop h)) (by rw [List.take_append_drop]; exact sY)
      (high_le sY hvY hvx (k2.imp (fun h => h) LeN.swap)) (low_le sY hvY hvx hk (k1.imp (fun h => h) LeN.of_lt))
    have hP : (Y.take k ++ x :: Y.drop k).Perm ([x] ++ Y) := by
      refine List.perm_middle.trans ?_
      rw [List.take_append_drop]
      exact .refl _
    have htk : (Y.take k).length = k := by rw [List.length_take]; omega
    simp (disch := omega) [t10, t0, t1]
    refine awLoop_T (fun d T M2 => ∃ (U W : List Note) (j : Nat), d = W.length ∧ U ++ W = Y.take k ∧ j = a + U.length ∧ M2 = stN M' id t (A ++ (U ++ (x :: (W ++ (Y.drop k ++ Z))))) ∧ look T 13 = some (iv j) ∧ look T 10 = some (iv ((m + k : Nat) : Int)) ∧ look T 0 = some (.slice (some ⟨id, 0, none⟩) n c)) k
      ⟨[], Y.take k, a, htk.symm, rfl, by simp, by rw [show A ++ ([] ++ (x :: (Y.take k ++ (Y.drop k ++ Z)))) = l from by rw [hl, ← List.append_assoc (Y.take k), List.take_append_drop]; simp, stN_self h], by simp, by simp [t10], by simp [t0]⟩ ?_
    rintro d T M2 ⟨U, W, j, hd, hUW, hj, rfl, t13, t10, t0⟩
    have hUl := congrArg List.length hUW
    rw [List.length_append, htk] at hUl
    rcases W with _ | ⟨w, W⟩
    · have hjk : ¬ ((j : Int) < m + k - 1) := by simp at hUl; omega
      simp (disch := omega) [t13, t10, wrap_in, hjk]
      refine ⟨_, hP, hV, ?_⟩
      rw [← hUW]
      simp
    · simp only [List.length_cons] at hUl hd
      have hjk : ((j : Int) < m + k - 1) := by omega
      obtain ⟨q, hq⟩ : ∃ q, q = j + 1 := ⟨_, rfl⟩
      have e1 : (j : Int) + 1 = q := by omega
      obtain ⟨l1, hl1⟩ : ∃ l1, l1 = A ++ (U ++ (x :: ((w :: W) ++ (Y.drop k ++ Z)))) := ⟨_, rfl⟩
      have hl1' : l1 = (A ++ U) ++ (x :: w :: (W ++ (Y.drop k ++ Z))) := by rw [hl1]; simp
      have hU : (A ++ U).length = j := by simp; omega
      have hdk : (Y.drop k).length = Y.length - k := List.length_drop
      have hln : l1.length = n := by rw [hl1']; simp; omega
      obtain ⟨M1, hM1⟩ : ∃ M1, M1 = stN M' id t l1 := ⟨_, rfl⟩
      have hr1 : M1[id]? = some (noteS t l1) := by rw [hM1]; exact stN_row hid
      have hid1 : id < M1.length := by rw [hM1, stN_len]; exact hid
      rw [← hl1, ← hM1]
      have hjn : j < n := by omega
      have hqn : q < n := by omega
      simp (disch := omega) [t13, t10, wrap_in, hjk]
      refine awDraw_C [15, 17] (fun kk v => match kk with
        | 0 => v = .slice (some ⟨id, 0, none⟩) n c
        | 1 => v = iv j
        | 2 => v = .slice (some ⟨id, 0, none⟩) n c
        | 3 => v = iv j
        | 4 => v = iv q
        | 5 => v = .slice (some ⟨id, 0, none⟩) n c
        | 6 => v = iv j
        | 7 => v = iv q
        | 8 => v = .pointer (some ⟨id, q * 7, none⟩)
        | 9 => v = .agg (el l1 q).row.toArray
        | 10 => v = .slice (some ⟨id, 0, none⟩) n c
        | 11 => v = iv j
        | 12 => v = .pointer (some ⟨id, j * 7, none⟩)
        | 13 => v = .agg (el l1 j).row.toArray
        | 14 => v = .pointer (some ⟨id, j * 7, none⟩)
        | 16 => v = .pointer (some ⟨id, q * 7, none⟩)
        | _ => True) (fun vs M' => match vs with
        | [] => M' = M1
        | [_] => M' = stN M1 id t (l1.set j (el l1 q))
        | [_, _] => M' = stN M1 id t (swapL l1 j q)
        | _ => False) (by kernel_rfl) (by decide +kernel) (by decide +kernel) (by decide +kernel) rfl ?_ ?_ ?_
      · intro kk o T' M' vs K hi ho hΨ hlate hp hf' hK
        have f0 : look T' 0 = some (.slice (some ⟨id, 0, none⟩) n c) := by rw [hf' 0 (by decide +kernel)]; simp [t0]
        have f10 : look T' 10 = some (iv ((m + k : Nat) : Int)) := by rw [hf' 10 (by decide +kernel)]; simp [t10]
        have f13 : look T' 13 = some (iv j) := by rw [hf' 13 (by decide +kernel)]; simp [t13]
        rcases kk with _ | _ | _ | _ | _ | _ | _ | _ | _ | _ | _ | _ | _ | _ | _ | _ | _ | _ | kk
        · skip
          simp at ho; subst ho
          simp [f0]
          exact hK _ rfl
        · skip
          simp at ho; subst ho
          simp [f13]
          exact hK _ rfl
        · skip
          simp at ho; subst ho
          simp [f0]
          exact hK _ rfl
        · skip
          simp at ho; subst ho
          simp [f13]
          exact hK _ rfl
        · skip
          obtain ⟨v0, d0, q0, -⟩ := hp 3 64 (by decide +kernel) rfl
          rw [q0 (by decide)] at d0
          simp at ho; subst ho
          simp (disch := omega) [d0, wrap_in, e1]
          exact hK _ rfl
        · skip
          simp at ho; subst ho
          simp [f0]
          exact hK _ rfl
        · skip
          simp at ho; subst ho
          simp [f13]
          exact hK _ rfl
        · skip
          obtain ⟨v0, d0, q0, -⟩ := hp 6 67 (by decide +kernel) rfl
          rw [q0 (by decide)] at d0
          simp at ho; subst ho
          simp (disch := omega) [d0, wrap_in, e1]
          exact hK _ rfl
        · skip
          obtain ⟨v0, d0, q0, -⟩ := hp 5 66 (by decide +kernel) rfl
          rw [q0 (by decide)] at d0
          obtain ⟨v1, d1, q1, -⟩ := hp 7 68 (by decide +kernel) rfl
          rw [q1 (by decide)] at d1
          have he : rowEsz M' id = some 7 := by
            match vs, hΨ with
            | [], hΨ => rw [hΨ]; exact stN_esz hr1
            | [_], hΨ => rw [hΨ]; exact stN_esz (stN_row hid1)
            | [_, _], hΨ => rw [hΨ]; exact stN_esz (stN_row hid1)
          simp at ho; subst ho
          simp (disch := omega) [d0, d1, he, hqn]
          exact hK _ rfl
        · skip
          obtain ⟨v0, d0, q0, -⟩ := hp 8 69 (by decide +kernel) rfl
          rw [q0 (by decide)] at d0
          obtain rfl := List.eq_nil_of_length_eq_zero (Nat.le_zero.1 (hlate 0 15 rfl (by decide +kernel)))
          have hΨ' : M' = M1 := hΨ
          have hc := stN_at hr1 (i := q) (by omega)
          rw [← hΨ'] at hc
          simp at ho; subst ho
          simp [d0, hc]
          exact hK _ rfl
        · skip
          simp at ho; subst ho
          simp [f0]
          exact hK _ rfl
        · skip
          simp at ho; subst ho
          simp [f13]
          exact hK _ rfl
        · skip
          obtain ⟨v0, d0, q0, -⟩ := hp 10 71 (by decide +kernel) rfl
          rw [q0 (by decide)] at d0
          obtain ⟨v1, d1, q1, -⟩ := hp 11 72 (by decide +kernel) rfl
          rw [q1 (by decide)] at d1
          have he : rowEsz M' id = some 7 := by
            match vs, hΨ with
            | [], hΨ => rw [hΨ]; exact stN_esz hr1
            | [_], hΨ => rw [hΨ]; exact stN_esz (stN_row hid1)
            | [_, _], hΨ => rw [hΨ]; exact stN_esz (stN_row hid1)
          simp at ho; subst ho
          simp (disch := omega) [d0, d1, he, hjn]
          exact hK _ rfl
        · skip
          obtain ⟨v0, d0, q0, -⟩ := hp 12 73 (by decide +kernel) rfl
          rw [q0 (by decide)] at d0
          obtain rfl := List.eq_nil_of_length_eq_zero (Nat.le_zero.1 (hlate 0 15 rfl (by decide +kernel)))
          have hΨ' : M' = M1 := hΨ
          have hc := stN_at hr1 (i := j) (by omega)
          rw [← hΨ'] at hc
          simp at ho; subst ho
          simp [d0, hc]
          exact hK _ rfl
        · skip
          obtain ⟨v0, d0, q0, -⟩ := hp 0 61 (by decide +kernel) rfl
          rw [q0 (by decide)] at d0
          obtain ⟨v1, d1, q1, -⟩ := hp 1 62 (by decide +kernel) rfl
          rw [q1 (by decide)] at d1
          have he : rowEsz M' id = some 7 := by
            match vs, hΨ with
            | [], hΨ => rw [hΨ]; exact stN_esz hr1
            | [_], hΨ => rw [hΨ]; exact stN_esz (stN_row hid1)
            | [_, _], hΨ => rw [hΨ]; exact stN_esz (stN_row hid1)
          simp at ho; subst ho
          simp (disch := omega) [d0, d1, he, hjn]
          exact hK _ rfl
        · skip
          cases hi
        · skip
          obtain ⟨v0, d0, q0, -⟩ := hp 2 63 (by decide +kernel) rfl
          rw [q0 (by decide)] at d0
          obtain ⟨v1, d1, q1, -⟩ := hp 4 65 (by decide +kernel) rfl
          rw [q1 (by decide)] at d1
          have he : rowEsz M' id = some 7 := by
            match vs, hΨ with
            | [], hΨ => rw [hΨ]; exact stN_esz hr1
            | [_], hΨ => rw [hΨ]; exact stN_esz (stN_row hid1)
            | [_, _], hΨ => rw [hΨ]; exact stN_esz (stN_row hid1)
          simp at ho; subst ho
          simp (disch := omega) [d0, d1, he, hqn]
          exact hK _ rfl
        · skip
          cases hi
        · simp at ho
      · intro kk k' o T' M' vs K hi ho hΨ hlen hp hf' hK
        rcases kk with _ | _ | kk
        · skip
          obtain rfl : 15 = k' := by simpa using hi
          obtain ⟨v0, d0, q0, -⟩ := hp 14 75 (by decide +kernel) rfl
          rw [q0 (by decide)] at d0
          obtain ⟨v1, d1, q1, -⟩ := hp 9 70 (by decide +kernel) rfl
          rw [q1 (by decide)] at d1
          obtain rfl := List.eq_nil_of_length_eq_zero hlen
          have hΨ' : M' = M1 := hΨ
          simp at ho; subst ho
          simp [d0, d1, hΨ']
          refine ⟨rfl, ?_⟩
          rw [show putCells B M1 id (j * 7) _ = some (stN M1 id t (l1.set j (el l1 q))) from stN_put hr1 hB (by omega), ow_some]
          exact hK _ _ rfl
        · skip
          obtain rfl : 17 = k' := by simpa using hi
          obtain ⟨v0, d0, q0, -⟩ := hp 16 76 (by decide +kernel) rfl
          rw [q0 (by decide)] at d0
          obtain ⟨v1, d1, q1, -⟩ := hp 13 74 (by decide +kernel) rfl
          rw [q1 (by decide)] at d1
          match vs, hlen, hΨ with
          | [_], _, hΨ =>
            have hΨ' : M' = stN M1 id t (l1.set j (el l1 q)) := hΨ
            simp at ho; subst ho
            simp [d0, d1, hΨ']
            refine ⟨rfl, ?_⟩
            rw [show putCells B (stN M1 id t (l1.set j (el l1 q))) id (q * 7) _ = some (stN (stN M1 id t (l1.set j (el l1 q))) id t ((l1.set j (el l1 q)).set q (el l1 j))) from stN_put (stN_row hid1) hB (by simp; omega), ow_some, stN_stN]
            exact hK _ _ rfl
        · simp at hi
      · intro T' M' vs hlen hΨ hv hf'
        match vs, hlen, hΨ with
        | [_, _], _, hΨ =>
          have hΨ' : M' = stN M1 id t (swapL l1 j q) := hΨ
          subst hΨ'
          have g0 : look T' 0 = some (.slice (some ⟨id, 0, none⟩) n c) := by rw [hf' 0 (by decide +kernel)]; simp [t0]
          have g10 : look T' 10 = some (iv ((m + k : Nat) : Int)) := by rw [hf' 10 (by decide +kernel)]; simp [t10]
          have g13 : look T' 13 = some (iv j) := by rw [hf' 13 (by decide +kernel)]; simp [t13]
          simp (disch := omega) [g13, g0, g10, wrap_in, e1]
          refine lpI W.length (by omega) ?_
          refine ⟨U ++ [w], W, q, rfl, by rw [← hUW]; simp, by simp; omega, ?_, by simp, by simp [g10], by simp [g0]⟩
          rw [hM1, stN_stN, hq, hl1', ← hU, swapL_adj]
          simp
end Go.Proofs.Ytbpaeonfebmomaa

namespace Go.Proofs.Ytbpaeonfebmomaa
open Go.RowKit
set_option linter.unusedVariables false
set_option linter.unusedSimpArgs false
set_option maxRecDepth 100000
attribute [local simp] List.getElem?_cons_zero
attribute [local irreducible] awCond awCall awLoop awDraw ow retQ retC resQ Keeps
set_option maxHeartbeats 4000000 in
theorem merge_y {M : Mem} {B id n c a m b : Nat} {t : Bool} {A X Z l : List Note} {y : Note} (hl : l = A ++ (X ++ ([y] ++ Z))) (h : M[id]? = some (noteS t l)) (hB : B ≤ id) (hn : l.length = n) (hn2 : n ≤ 100000) (ha : a = A.length) (hm : m = a + X.length) (hb : b = m + 1) (hX : 2 ≤ X.length) (hvy : noteB y = true) (hvX : ∀ x, x ∈ X → noteB x = true) (sX : X.Pairwise LeN) :
    Ctr Try.prog B 105 [.slice (some ⟨id, 0, none⟩) n c, iv a, iv m, iv b, cmpV] M fun r M' => r = .tuple #[] ∧ ∃ V, V.Perm (X ++ [y]) ∧ V.Pairwise LeN ∧ M' = stN M id t (A ++ (V ++ Z)) := by
  have hid := (List.getElem?_eq_some_iff.1 h).1
  have hn' := hn
  rw [hl] at hn'
  simp only [List.length_append, List.length_cons, List.length_nil] at hn'
  have e00 : ¬ ((m : Int) - a = 1) := by omega
  have e0 : (b : Int) - m = 1 := by omega
  have ely : el l m = y := by
    have := el_app (U := A ++ X) (x := y) (W := Z)
    rw [hl, show m = (A ++ X).length by simp; omega]
    simpa using this
  have elX : ∀ j, j < X.length → el l (a + j) = el X j := fun j hj => by rw [hl, ha]; exact el_seg hj
  first | (refine ctr_fn Try.func105 rfl Try.ntmps105 Try.results105 rfl rfl (by simp) ?_) | (refine ctr_fnC Try.func105 rfl Try.ntmps105 Try.results105 rfl (by simp) ?_)
  simp (disch := omega) [wrap_in, e0, e00]
  refine awLoop_join (fun T' M' => M' = M ∧ ∃ k : Nat, k ≤ X.length ∧ (k = 0 ∨ ¬ ordN y (el X (k - 1)) < 0) ∧ (k = X.length ∨ ordN y (el X k) < 0) ∧ look T' 14 = some (iv ((a + k : Nat) : Int)) ∧ look T' 0 = some (.slice (some ⟨id, 0, none⟩) n c) ∧ look T' 2 = some (iv m)) ?_ ?_
  · intro Q' hQ
    refine awLoop_T (fun d T M' => ∃ (lo hi : Nat), d = hi - lo ∧ a ≤ lo ∧ lo ≤ hi ∧ hi ≤ m ∧ (lo = a ∨ ¬ ordN y (el X (lo - a - 1)) < 0) ∧ (hi = m ∨ ordN y (el X (hi - a)) < 0) ∧ M' = M ∧ look T 14 = some (iv lo) ∧ look T 15 = some (iv hi) ∧ look T 0 = some (.slice (some ⟨id, 0, none⟩) n c) ∧ look T 2 = some (iv m) ∧ look T 4 = some cmpV) (m - a)
      ⟨a, m, rfl, Nat.le_refl _, by omega, Nat.le_refl _, .inl rfl, .inl rfl, rfl, by simp, by simp, by simp, by simp, by simp⟩ ?_
    rintro d T M' ⟨lo, hi, hd, h1, h2, h3, h4, h5, rfl, t14, t15, t0, t2, t4⟩
    by_cases hlt : lo < hi
    · obtain ⟨p, hp⟩ : ∃ p, p = (lo + hi) / 2 := ⟨_, rfl⟩
      have hs := shr_one hp
      have hpa : a ≤ p := by omega
      have hcp : cellsAt M' id (p * 7) 7 = some (el X (p - a)).row := by
        rw [stN_at h (by omega), ← elX (p - a) (by omega)]
        congr 2; congr 1; omega
      have hcm : cellsAt M' id (m * 7) 7 = some y.row := by rw [stN_at h (by omega), ely]
      have hpn : p < n := by omega
      have hmn : m < n := by omega
      simp (disch := omega) [t14, t15, hlt, wrap_in, u64_in, hs]
      refine awDraw_E 9 [[],[],[],[1,2],[3,1,2],[],[],[5,6],[7,5,6],[0,4,3,1,2,8,7,5,6],[9,0,4,3,1,2,8,7,5,6],[10,9,0,4,3,1,2,8,7,5,6]] (by kernel_rfl) (by kernel_rfl) ?_
      simp (disch := omega) [t14, t15, t0, t2, t4, wrap_in, stN_esz h, hcp, hcm, hpn, hmn]
      refine awCall_det' (compareNotes_i y (el X (p - a)) hvy (hvX _ (el_mem (by omega)))) (by omega) ?_
      by_cases ho : ordN y (el X (p - a)) < 0
      · simp (disch := omega) [ho, t14, t15, wrap_in]
        refine lpI (p - lo) (by omega) ?_
        exact ⟨lo, p, rfl, by omega, by omega, by omega, h4, .inr ho, rfl, by simp [t14], by simp, by simp [t0], by simp [t2], by simp [t4]⟩
      · simp (disch := omega) [ho, t14, t15, wrap_in]
        refine lpI (hi - (p + 1)) (by omega) ?_
        exact ⟨p + 1, hi, rfl, by omega, by omega, h3, .inr (by rw [show p + 1 - a - 1 = p - a by omega]; exact ho), h5, rfl, by simp, by simp [t15], by simp [t0], by simp [t2], by simp [t4]⟩
    · obtain rfl : lo = hi := by omega
      simp (disch := omega) [t14, t15]
      refine hQ _ _ ⟨rfl, lo - a, by omega, ?_, ?_, by simp [t14]; omega, by simp [t0], by simp [t2]⟩
      · rcases h4 with h4 | h4
        · exact .inl (by omega)
        · exact .inr h4
      · rcases h5 with h5 | h5
        · exact .inl (by omega)
        · exact .inr h5
  · rintro T' M' ⟨rfl, k, hk, k1, k2, t14, t0, t2⟩
    have hV : (X.take k ++ y :: X.drop k).Pairwise LeN := ins_sorted (fun z hy => by
      rcases List.mem_append.1 hy with h | h
      · exact hvX z (List.mem_of_mem_take h)
      · rcases List.mem_cons.1 h with rfl | h
        · exact hvy
        · exact hvX z (List.mem_of_mem_drop h)) (by rw [List.take_append_drop]; exact sX)
      (high_le sX hvX hvy (k2.imp (fun h => h) LeN.of_lt)) (low_le sX hvX hvy hk (k1.imp (fun h => h) LeN.swap))
    have hP : (X.take k ++ y :: X.drop k).Perm (X ++ [y]) := by
      refine List.perm_middle.trans ?_
      rw [List.take_append_drop]
      exact (List.perm_append_singleton y X).symm
    have htk : (X.take k).length = k := by rw [List.length_take]; omega
    have hdk : (X.drop k).length = X.length - k := List.length_drop
    simp (disch := omega) [t14, t0, t2]
    refine awLoop_T (fun d T M2 => ∃ (U W : List Note) (j : Nat), d = U.length ∧ U ++ W = X.drop k ∧ j = a + k + U.length ∧ M2 = stN M' id t (A ++ (X.take k ++ (U ++ (y :: (W ++ Z))))) ∧ look T 17 = some (iv j) ∧ look T 14 = some (iv ((a + k : Nat) : Int)) ∧ look T 0 = some (.slice (some ⟨id, 0, none⟩) n c)) (X.length - k)
      ⟨X.drop k, [], m, hdk.symm, by simp, by rw [hdk]; omega, by rw [show A ++ (X.take k ++ (X.drop k ++ (y :: ([] ++ Z)))) = l from by rw [hl, ← List.append_assoc (X.take k), List.take_append_drop]; simp, stN_self h], by simp [t2], by simp [t14], by simp [t0]⟩ ?_
    rintro d T M2 ⟨U, W, j, hd, hUW, hj, rfl, t17, t14, t0⟩
    have hUl := congrArg List.length hUW
    rw [List.length_append, hdk] at hUl
    rcases List.eq_nil_or_concat U with hnil | ⟨U', u, hcat⟩
    · subst hnil
      have hjk : ¬ ((a : Int) + k < j) := by simp at hj; omega
      simp (disch := omega) [t17, t14, wrap_in, hjk]
      refine ⟨_, hP, hV, ?_⟩
      rw [← hUW]
      simp
    · rw [List.concat_eq_append] at hcat
      subst hcat
      simp only [List.length_append, List.length_cons, List.length_nil] at hUl hd hj
      have hjk : ((a : Int) + k < j) := by omega
      obtain ⟨q, hq⟩ : ∃ q, q = a + k + U'.length := ⟨_, rfl⟩
      have hjq : j = q + 1 := by omega
      have e1 : (j : Int) - 1 = q := by omega
      obtain ⟨l1, hl1⟩ : ∃ l1, l1 = A ++ (X.take k ++ ((U' ++ [u]) ++ (y :: (W ++ Z)))) := ⟨_, rfl⟩
      have hl1' : l1 = (A ++ X.take k ++ U') ++ (u :: y :: (W ++ Z)) := by rw [hl1]; simp
      have hU : (A ++ X.take k ++ U').length = q := by simp only [List.length_append, htk]; omega
      have hln : l1.length = n := by rw [hl1']; simp only [List.length_append, List.length_cons, htk]; omega
      obtain ⟨M1, hM1⟩ : ∃ M1, M1 = stN M' id t l1 := ⟨_, rfl⟩
      have hr1 : M1[id]? = some (noteS t l1) := by rw [hM1]; exact stN_row hid
      have hid1 : id < M1.length := by rw [hM1, stN_len]; exact hid
      rw [← hl1, ← hM1]
      have hjn : j < n := by omega
      have hqn : q < n := by omega
      simp (disch := omega) [t17, t14, wrap_in, hjk]
      refine awDraw_C [15, 17] (fun kk v => match kk with
        | 0 => v = .slice (some ⟨id, 0, none⟩) n c
        | 1 => v = iv j
        | 2 => v = .slice (some ⟨id, 0, none⟩) n c
        | 3 => v = iv j
        | 4 => v = iv q
        | 5 => v = .slice (some ⟨id, 0, none⟩) n c
        | 6 => v = iv j
        | 7 => v = iv q
        | 8 => v = .pointer (some ⟨id, q * 7, none⟩)
        | 9 => v = .agg (el l1 q).row.toArray
        | 10 => v = .slice (some ⟨id, 0, none⟩) n c
        | 11 => v = iv j
        | 12 => v = .pointer (some ⟨id, j * 7, none⟩)
        | 13 => v = .agg (el l1 j).row.toArray
        | 14 => v = .pointer (some ⟨id, j * 7, none⟩)
        | 16 => v = .pointer (some ⟨id, q * 7, none⟩)
        | _ => True) (fun vs M' => match vs with
        | [] => M' = M1
        | [_] => M' = stN M1 id t (l1.set j (el l1 q))
        | [_, _] => M' = stN M1 id t (swapL l1 j q)
        | _ => False) (by kernel_rfl) (by decide +kernel) (by decide +kernel) (by decide +kernel) rfl ?_ ?_ ?_
      · intro kk o T' M' vs K hi ho hΨ hlate hp hf' hK
        have f0 : look T' 0 = some (.slice (some ⟨id, 0, none⟩) n c) := by rw [hf' 0 (by decide +kernel)]; simp [t0]
        have f14 : look T' 14 = some (iv ((a + k : Nat) : Int)) := by rw [hf' 14 (by decide +kernel)]; simp [t14]
        have f17 : look T' 17 = some (iv j) := by rw [hf' 17 (by decide +kernel)]; simp [t17]
        rcases kk with _ | _ | _ | _ | _ | _ | _ | _ | _ | _ | _ | _ | _ | _ | _ | _ | _ | _ | kk
        · skip
          simp at ho; subst ho
          simp [f0]
          exact hK _ rfl
        · skip
          simp at ho; subst ho
          simp [f17]
          exact hK _ rfl
        · skip
          simp at ho; subst ho
          simp [f0]
          exact hK _ rfl
        · skip
          simp at ho; subst ho
          simp [f17]
          exact hK _ rfl
        · skip
          obtain ⟨v0, d0, q0, -⟩ := hp 3 116 (by decide +kernel) rfl
          rw [q0 (by decide)] at d0
          simp at ho; subst ho
          simp (disch := omega) [d0, wrap_in, e1]
          exact hK _ rfl
        · skip
          simp at ho; subst ho
          simp [f0]
          exact hK _ rfl
        · skip
          simp at ho; subst ho
          simp [f17]
          exact hK _ rfl
        · skip
          obtain ⟨v0, d0, q0, -⟩ := hp 6 119 (by decide +kernel) rfl
          rw [q0 (by decide)] at d0
          simp at ho; subst ho
          simp (disch := omega) [d0, wrap_in, e1]
          exact hK _ rfl
        · skip
          obtain ⟨v0, d0, q0, -⟩ := hp 5 118 (by decide +kernel) rfl
          rw [q0 (by decide)] at d0
          obtain ⟨v1, d1, q1, -⟩ := hp 7 120 (by decide +kernel) rfl
          rw [q1 (by decide)] at d1
          have he : rowEsz M' id = some 7 := by
            match vs, hΨ with
            | [], hΨ => rw [hΨ]; exact stN_esz hr1
            | [_], hΨ => rw [hΨ]; exact stN_esz (stN_row hid1)
            | [_, _], hΨ => rw [hΨ]; exact stN_esz (stN_row hid1)
          simp at ho; subst ho
          simp (disch := omega) [d0, d1, he, hqn]
          exact hK _ rfl
        · skip
          obtain ⟨v0, d0, q0, -⟩ := hp 8 121 (by decide +kernel) rfl
          rw [q0 (by decide)] at d0
          obtain rfl := List.eq_nil_of_length_eq_zero (Nat.le_zero.1 (hlate 0 15 rfl (by decide +kernel)))
          have hΨ' : M' = M1 := hΨ
          have hc := stN_at hr1 (i := q) (by omega)
          rw [← hΨ'] at hc
          simp at ho; subst ho
          simp [d0, hc]
          exact hK _ rfl
        · skip
          simp at ho; subst ho
          simp [f0]
          exact hK _ rfl
        · skip
          simp at ho; subst ho
          simp [f17]
          exact hK _ rfl
        · skip
          obtain ⟨v0, d0, q0, -⟩ := hp 10 123 (by decide +kernel) rfl
          rw [q0 (by decide)] at d0
          obtain ⟨v1, d1, q1, -⟩ := hp 11 124 (by decide +kernel) rfl
          rw [q1 (by decide)] at d1
          have he : rowEsz M' id = some 7 := by
            match vs, hΨ with
            | [], hΨ => rw [hΨ]; exact stN_esz hr1
            | [_], hΨ => rw [hΨ]; exact stN_esz (stN_row hid1)
            | [_, _], hΨ => rw [hΨ]; exact stN_esz (stN_row hid1)
          simp at ho; subst ho
          simp (disch := omega) [d0, d1, he, hjn]
          exact hK _ rfl
        · skip
          obtain ⟨v0, d0, q0, -⟩ := hp 12 125 (by decide +kernel) rfl
          rw [q0 (by decide)] at d0
          obtain rfl := List.eq_nil_of_length_eq_zero (Nat.le_zero.1 (hlate 0 15 rfl (by decide +kernel)))
          have hΨ' : M' = M1 := hΨ
          have hc := stN_at hr1 (i := j) (by omega)
          rw [← hΨ'] at hc
          simp at ho; subst ho
          simp [d0, hc]
          exact hK _ rfl
        · skip
          obtain ⟨v0, d0, q0, -⟩ := hp 0 113 (by decide +kernel) rfl
          rw [q0 (by decide)] at d0
          obtain ⟨v1, d1, q1, -⟩ := hp 1 114 (by decide +kernel) rfl
          rw [q1 (by decide)] at d1
          have he : rowEsz M' id = some 7 := by
            match vs, hΨ with
            | [], hΨ => rw [hΨ]; exact stN_esz hr1
            | [_], hΨ => rw [hΨ]; exact stN_esz (stN_row hid1)
            | [_, _], hΨ => rw [hΨ]; exact stN_esz (stN_row hid1)
          simp at ho; subst ho
          simp (disch := omega) [d0, d1, he, hjn]
          exact hK _ rfl
        · skip
          cases hi
        · skip
          obtain ⟨v0, d0, q0, -⟩ := hp 2 115 (by decide +kernel) rfl
          rw [q0 (by decide)] at d0
          obtain ⟨v1, d1, q1, -⟩ := hp 4 117 (by decide +kernel) rfl
          rw [q1 (by decide)] at d1
          have he : rowEsz M' id = some 7 := by
            match vs, hΨ with
            | [], hΨ => rw [hΨ]; exact stN_esz hr1
            | [_], hΨ => rw [hΨ]; exact stN_esz (stN_row hid1)
            | [_, _], hΨ => rw [hΨ]; exact stN_esz (stN_row hid1)
          simp at ho; subst ho
          simp (disch := omega) [d0, d1, he, hqn]
          exact hK _ rfl
        · skip
          cases hi
        · simp at ho
      · intro kk k' o T' M' vs K hi ho hΨ hlen hp hf' hK
        rcases kk with _ | _ | kk
        · skip
          obtain rfl : 15 = k' := by simpa using hi
          obtain ⟨v0, d0, q0, -⟩ := hp 14 127 (by decide +kernel) rfl
          rw [q0 (by decide)] at d0
          obtain ⟨v1, d1, q1, -⟩ := hp 9 122 (by decide +kernel) rfl
          rw [q1 (by decide)] at d1
          obtain rfl := List.eq_nil_of_length_eq_zero hlen
          have hΨ' : M' = M1 := hΨ
          simp at ho; subst ho
          simp [d0, d1, hΨ']
          refine ⟨rfl, ?_⟩
          rw [show putCells B M1 id (j * 7) _ = some (stN M1 id t (l1.set j (el l1 q))) from stN_put hr1 hB (by omega), ow_some]
          exact hK _ _ rfl
        · skip
          obtain rfl : 17 = k' := by simpa using hi
          obtain ⟨v0, d0, q0, -⟩ := hp 16 128 (by decide +kernel) rfl
          rw [q0 (by decide)] at d0
          obtain ⟨v1, d1, q1, -⟩ := hp 13 126 (by decide +kernel) rfl
          rw [q1 (by decide)] at d1
          match vs, hlen, hΨ with
          | [_], _, hΨ =>
            have hΨ' : M' = stN M1 id t (l1.set j (el l1 q)) := hΨ
            simp at ho; subst ho
            simp [d0, d1, hΨ']
            refine ⟨rfl, ?_⟩
            rw [show putCells B (stN M1 id t (l1.set j (el l1 q))) id (q * 7) _ = some (stN (stN M1 id t (l1.set j (el l1 q))) id t ((l1.set j (el l1 q)).set q (el l1 j))) from stN_put (stN_row hid1) hB (by simp; omega), ow_some, stN_stN]
            exact hK _ _ rfl
        · simp at hi
      · intro T' M' vs hlen hΨ hv hf'
        match vs, hlen, hΨ with
        | [_, _], _, hΨ =>
          have hΨ' : M' = stN M1 id t (swapL l1 j q) := hΨ
          subst hΨ'
          have g0 : look T' 0 = some (.slice (some ⟨id, 0, none⟩) n c) := by rw [hf' 0 (by decide +kernel)]; simp [t0]
          have g14 : look T' 14 = some (iv ((a + k : Nat) : Int)) := by rw [hf' 14 (by decide +kernel)]; simp [t14]
          have g17 : look T' 17 = some (iv j) := by rw [hf' 17 (by decide +kernel)]; simp [t17]
          simp (disch := omega) [g17, g0, g14, wrap_in, e1]
          refine lpI U'.length (by omega) ?_
          refine ⟨U', u :: W, q, rfl, by rw [← hUW]; simp, hq, ?_, by simp, by simp [g14], by simp [g0]⟩
          rw [hM1, stN_stN, swapL_comm (by omega), hjq, hl1', ← hU, swapL_adj]
          simp
end Go.Proofs.Ytbpaeonfebmomaa
