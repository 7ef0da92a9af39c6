/- Parts of the proof, together: The sort's functions on rows of notes: swaps of stretches. Lists of notes: swapped, turned round, merged: plain laws. The notes that events tell, in plain words. The sort's rotation. The sort's insertion. Sorted lists of notes: where one is parted. No conditions. -/
import Derived.Test.YtbpaeonfebmomaaZzF13
import Derived.Test.YtbpaeonfebmomaaZzF12
import Derived.Test.YtbpaeonfebmomaaZzF10
namespace Go.Proofs.Ytbpaeonfebmomaa
open Go.RowKit
set_option linter.unusedVariables false
set_option linter.unusedSimpArgs false
set_option maxRecDepth 100000
attribute [local simp] List.getElem?_cons_zero
attribute [local irreducible] awCond awCall awLoop awDraw ow retQ retC resQ Keeps
abbrev cmpV : Value := .func (.func 56) #[] #[]
set_option maxHeartbeats 1600000 in
theorem swapRange_a {M : Mem} {B id n c a b k : Nat} {t : Bool} {l : List Note} {f : Value} (h : M[id]? = some (noteS t l)) (hB : B ≤ id) (hn : l.length = n) (hn2 : n ≤ 100000) (ha : a + k ≤ n) (hb : b + k ≤ n) :
    Ctr Try.prog B 108 [.slice (some ⟨id, 0, none⟩) n c, iv a, iv b, iv k, f] M fun r M' => r = .tuple #[] ∧ M' = stN M id t (swI l a b k) := by
  have hid := (List.getElem?_eq_some_iff.1 h).1
  first | (refine ctr_fn Try.func108 rfl Try.ntmps108 Try.results108 rfl rfl (by simp) ?_) | (refine ctr_fnC Try.func108 rfl Try.ntmps108 Try.results108 rfl (by simp) ?_)
  simp
  refine awLoop_T (fun m T M' => ∃ i : Nat, i + m = k ∧ M' = stN M id t (swI l a b i) ∧ look T 10 = some (iv i) ∧ look T 0 = some (.slice (some ⟨id, 0, none⟩) n c) ∧ look T 1 = some (iv a) ∧ look T 2 = some (iv b) ∧ look T 3 = some (iv k)) k ⟨0, by omega, by rw [swI, stN_self h], by simp, by simp, by simp, by simp, by simp⟩ ?_
  rintro m T M' ⟨i, hm, rfl, t10, t0, t1, t2, t3⟩
  have hr := stN_row (t := t) (l := swI l a b i) hid
  have hln := swI_len (l := l) (a := a) (b := b) i
  by_cases hlt : i < k
  · obtain ⟨p, hp⟩ : ∃ p, p = a + i := ⟨_, rfl⟩
    obtain ⟨q, hq⟩ : ∃ q, q = b + i := ⟨_, rfl⟩
    have e1 : (a : Int) + i = p := by omega
    have e2 : (b : Int) + i = q := by omega
    simp (disch := omega) [t10, t3, hlt]
    obtain ⟨M1, hM1⟩ : ∃ M1, M1 = stN M id t (swI l a b i) := ⟨_, rfl⟩
    obtain ⟨l1, hl1⟩ : ∃ l1, l1 = swI l a b i := ⟨_, rfl⟩
    have hr1 : M1[id]? = some (noteS t l1) := by rw [hM1, hl1]; exact hr
    have hid1 : id < M1.length := by rw [hM1, stN_len]; exact hid
    have hpn : p < n := by omega
    have hqn : q < n := by omega
    rw [← hl1] at hln
    rw [← hM1]
    refine awDraw_C [21, 23] (fun kk v => match kk with
      | 0 => v = .slice (some ⟨id, 0, none⟩) n c
      | 1 => v = iv a
      | 2 => v = iv i
      | 3 => v = iv p
      | 4 => v = .slice (some ⟨id, 0, none⟩) n c
      | 5 => v = iv b
      | 6 => v = iv i
      | 7 => v = iv q
      | 8 => v = .slice (some ⟨id, 0, none⟩) n c
      | 9 => v = iv b
      | 10 => v = iv i
      | 11 => v = iv q
      | 12 => v = .pointer (some ⟨id, q * 7, none⟩)
      | 13 => v = .agg (el l1 q).row.toArray
      | 14 => v = .slice (some ⟨id, 0, none⟩) n c
      | 15 => v = iv a
      | 16 => v = iv i
      | 17 => v = iv p
      | 18 => v = .pointer (some ⟨id, p * 7, none⟩)
      | 19 => v = .agg (el l1 p).row.toArray
      | 20 => v = .pointer (some ⟨id, p * 7, none⟩)
      | 22 => v = .pointer (some ⟨id, q * 7, none⟩)
      | _ => True) (fun vs M' => match vs with
      | [] => M' = M1
      | [_] => M' = stN M1 id t (l1.set p (el l1 q))
      | [_, _] => M' = stN M1 id t (swapL l1 p q)
      | _ => False) (by kernel_rfl) (by decide +kernel) (by decide +kernel) (by decide +kernel) rfl ?_ ?_ ?_
    · intro kk o T' M' vs K hi ho hΨ hlate hp hf' hK
      have f0 : look T' 0 = some (.slice (some ⟨id, 0, none⟩) n c) := by rw [hf' 0 (by decide +kernel)]; simp [t0]
      have f1 : look T' 1 = some (iv a) := by rw [hf' 1 (by decide +kernel)]; simp [t1]
      have f2 : look T' 2 = some (iv b) := by rw [hf' 2 (by decide +kernel)]; simp [t2]
      have f3 : look T' 3 = some (iv k) := by rw [hf' 3 (by decide +kernel)]; simp [t3]
      have f10 : look T' 10 = some (iv i) := by rw [hf' 10 (by decide +kernel)]; simp [t10]
      rcases kk with _ | _ | _ | _ | _ | _ | _ | _ | _ | _ | _ | _ | _ | _ | _ | _ | _ | _ | _ | _ | _ | _ | _ | _ | kk
      · skip
        simp at ho; subst ho
        simp [f0]
        exact hK _ rfl
      · skip
        simp at ho; subst ho
        simp [f1]
        exact hK _ rfl
      · skip
        simp at ho; subst ho
        simp [f10]
        exact hK _ rfl
      · skip
        obtain ⟨v0, d0, q0, -⟩ := hp 1 17 (by decide +kernel) rfl
        rw [q0 (by decide)] at d0
        obtain ⟨v1, d1, q1, -⟩ := hp 2 18 (by decide +kernel) rfl
        rw [q1 (by decide)] at d1
        simp at ho; subst ho
        simp (disch := omega) [d0, d1, wrap_in, e1, e2]
        exact hK _ rfl
      · skip
        simp at ho; subst ho
        simp [f0]
        exact hK _ rfl
      · skip
        simp at ho; subst ho
        simp [f2]
        exact hK _ rfl
      · skip
        simp at ho; subst ho
        simp [f10]
        exact hK _ rfl
      · skip
        obtain ⟨v0, d0, q0, -⟩ := hp 5 21 (by decide +kernel) rfl
        rw [q0 (by decide)] at d0
        obtain ⟨v1, d1, q1, -⟩ := hp 6 22 (by decide +kernel) rfl
        rw [q1 (by decide)] at d1
        simp at ho; subst ho
        simp (disch := omega) [d0, d1, wrap_in, e1, e2]
        exact hK _ rfl
      · skip
        simp at ho; subst ho
        simp [f0]
        exact hK _ rfl
      · skip
        simp at ho; subst ho
        simp [f2]
        exact hK _ rfl
      · skip
        simp at ho; subst ho
        simp [f10]
        exact hK _ rfl
      · skip
        obtain ⟨v0, d0, q0, -⟩ := hp 9 25 (by decide +kernel) rfl
        rw [q0 (by decide)] at d0
        obtain ⟨v1, d1, q1, -⟩ := hp 10 26 (by decide +kernel) rfl
        rw [q1 (by decide)] at d1
        simp at ho; subst ho
        simp (disch := omega) [d0, d1, wrap_in, e1, e2]
        exact hK _ rfl
      · skip
        obtain ⟨v0, d0, q0, -⟩ := hp 8 24 (by decide +kernel) rfl
        rw [q0 (by decide)] at d0
        obtain ⟨v1, d1, q1, -⟩ := hp 11 27 (by decide +kernel) rfl
        rw [q1 (by decide)] at d1
        have he : rowEsz M' id = some 7 := by
          match vs, hΨ with
          | [], hΨ => rw [hΨ]; exact stN_esz hr1
          | [_], hΨ => rw [hΨ]; exact stN_esz (stN_row hid1)
          | [_, _], hΨ => rw [hΨ]; exact stN_esz (stN_row hid1)
        simp at ho; subst ho
        simp (disch := omega) [d0, d1, he, hqn]
        exact hK _ rfl
      · skip
        obtain ⟨v0, d0, q0, -⟩ := hp 12 28 (by decide +kernel) rfl
        rw [q0 (by decide)] at d0
        obtain rfl := List.eq_nil_of_length_eq_zero (Nat.le_zero.1 (hlate 0 21 rfl (by decide +kernel)))
        have hΨ' : M' = M1 := hΨ
        have hc := stN_at hr1 (i := q) (by omega)
        rw [← hΨ'] at hc
        simp at ho; subst ho
        simp [d0, hc]
        exact hK _ rfl
      · skip
        simp at ho; subst ho
        simp [f0]
        exact hK _ rfl
      · skip
        simp at ho; subst ho
        simp [f1]
        exact hK _ rfl
      · skip
        simp at ho; subst ho
        simp [f10]
        exact hK _ rfl
      · skip
        obtain ⟨v0, d0, q0, -⟩ := hp 15 31 (by decide +kernel) rfl
        rw [q0 (by decide)] at d0
        obtain ⟨v1, d1, q1, -⟩ := hp 16 32 (by decide +kernel) rfl
        rw [q1 (by decide)] at d1
        simp at ho; subst ho
        simp (disch := omega) [d0, d1, wrap_in, e1, e2]
        exact hK _ rfl
      · skip
        obtain ⟨v0, d0, q0, -⟩ := hp 14 30 (by decide +kernel) rfl
        rw [q0 (by decide)] at d0
        obtain ⟨v1, d1, q1, -⟩ := hp 17 33 (by decide +kernel) rfl
        rw [q1 (by decide)] at d1
        have he : rowEsz M' id = some 7 := by
          match vs, hΨ with
          | [], hΨ => rw [hΨ]; exact stN_esz hr1
          | [_], hΨ => rw [hΨ]; exact stN_esz (stN_row hid1)
          | [_, _], hΨ => rw [hΨ]; exact stN_esz (stN_row hid1)
        simp at ho; subst ho
        simp (disch := omega) [d0, d1, he, hpn]
        exact hK _ rfl
      · skip
        obtain ⟨v0, d0, q0, -⟩ := hp 18 34 (by decide +kernel) rfl
        rw [q0 (by decide)] at d0
        obtain rfl := List.eq_nil_of_length_eq_zero (Nat.le_zero.1 (hlate 0 21 rfl (by decide +kernel)))
        have hΨ' : M' = M1 := hΨ
        have hc := stN_at hr1 (i := p) (by omega)
        rw [← hΨ'] at hc
        simp at ho; subst ho
        simp [d0, hc]
        exact hK _ rfl
      · skip
        obtain ⟨v0, d0, q0, -⟩ := hp 0 16 (by decide +kernel) rfl
        rw [q0 (by decide)] at d0
        obtain ⟨v1, d1, q1, -⟩ := hp 3 19 (by decide +kernel) rfl
        rw [q1 (by decide)] at d1
        have he : rowEsz M' id = some 7 := by
          match vs, hΨ with
          | [], hΨ => rw [hΨ]; exact stN_esz hr1
          | [_], hΨ => rw [hΨ]; exact stN_esz (stN_row hid1)
          | [_, _], hΨ => rw [hΨ]; exact stN_esz (stN_row hid1)
        simp at ho; subst ho
        simp (disch := omega) [d0, d1, he, hpn]
        exact hK _ rfl
      · skip
        cases hi
      · skip
        obtain ⟨v0, d0, q0, -⟩ := hp 4 20 (by decide +kernel) rfl
        rw [q0 (by decide)] at d0
        obtain ⟨v1, d1, q1, -⟩ := hp 7 23 (by decide +kernel) rfl
        rw [q1 (by decide)] at d1
        have he : rowEsz M' id = some 7 := by
          match vs, hΨ with
          | [], hΨ => rw [hΨ]; exact stN_esz hr1
          | [_], hΨ => rw [hΨ]; exact stN_esz (stN_row hid1)
          | [_, _], hΨ => rw [hΨ]; exact stN_esz (stN_row hid1)
        simp at ho; subst ho
        simp (disch := omega) [d0, d1, he, hqn]
        exact hK _ rfl
      · skip
        cases hi
      · simp at ho
    · intro kk k' o T' M' vs K hi ho hΨ hlen hp hf' hK
      rcases kk with _ | _ | kk
      · skip
        obtain rfl : 21 = k' := by simpa using hi
        obtain ⟨v0, d0, q0, -⟩ := hp 20 36 (by decide +kernel) rfl
        rw [q0 (by decide)] at d0
        obtain ⟨v1, d1, q1, -⟩ := hp 13 29 (by decide +kernel) rfl
        rw [q1 (by decide)] at d1
        obtain rfl := List.eq_nil_of_length_eq_zero hlen
        have hΨ' : M' = M1 := hΨ
        simp at ho; subst ho
        simp [d0, d1, hΨ']
        refine ⟨rfl, ?_⟩
        rw [show putCells B M1 id (p * 7) _ = some (stN M1 id t (l1.set p (el l1 q))) from stN_put hr1 hB (by omega), ow_some]
        exact hK _ _ rfl
      · skip
        obtain rfl : 23 = k' := by simpa using hi
        obtain ⟨v0, d0, q0, -⟩ := hp 22 37 (by decide +kernel) rfl
        rw [q0 (by decide)] at d0
        obtain ⟨v1, d1, q1, -⟩ := hp 19 35 (by decide +kernel) rfl
        rw [q1 (by decide)] at d1
        match vs, hlen, hΨ with
        | [_], _, hΨ =>
          have hΨ' : M' = stN M1 id t (l1.set p (el l1 q)) := hΨ
          simp at ho; subst ho
          simp [d0, d1, hΨ']
          refine ⟨rfl, ?_⟩
          rw [show putCells B (stN M1 id t (l1.set p (el l1 q))) id (q * 7) _ = some (stN (stN M1 id t (l1.set p (el l1 q))) id t ((l1.set p (el l1 q)).set q (el l1 p))) from stN_put (stN_row hid1) hB (by simp; omega), ow_some, stN_stN]
          exact hK _ _ rfl
      · simp at hi
    · intro T' M' vs hlen hΨ hv hf'
      match vs, hlen, hΨ with
      | [_, _], _, hΨ =>
        have hΨ' : M' = stN M1 id t (swapL l1 p q) := hΨ
        subst hΨ'
        have g0 : look T' 0 = some (.slice (some ⟨id, 0, none⟩) n c) := by rw [hf' 0 (by decide +kernel)]; simp [t0]
        have g1 : look T' 1 = some (iv a) := by rw [hf' 1 (by decide +kernel)]; simp [t1]
        have g2 : look T' 2 = some (iv b) := by rw [hf' 2 (by decide +kernel)]; simp [t2]
        have g3 : look T' 3 = some (iv k) := by rw [hf' 3 (by decide +kernel)]; simp [t3]
        have g10 : look T' 10 = some (iv i) := by rw [hf' 10 (by decide +kernel)]; simp [t10]
        simp (disch := omega) [g10, g0, g1, g2, g3, wrap_in]
        refine lpI (m - 1) (by omega) ?_
        exact ⟨i + 1, by omega, by rw [hM1, stN_stN, hl1, hp, hq]; rfl, by simp, by simp [g0], by simp [g1], by simp [g2], by simp [g3]⟩
  · obtain rfl : i = k := by omega
    simp (disch := omega) [t10, t3]
end Go.Proofs.Ytbpaeonfebmomaa

namespace Go.Proofs.Ytbpaeonfebmomaa
open Go.RowKit
set_option linter.unusedVariables false
set_option linter.unusedSimpArgs false
set_option maxRecDepth 100000
attribute [local simp] List.getElem?_cons_zero
attribute [local irreducible] awCond awCall awLoop awDraw ow retQ retC resQ Keeps
abbrev LeN (a b : Note) : Prop := ordN a b ≤ 0
theorem el_app {U W : List Note} {x : Note} : el (U ++ x :: W) U.length = x := by simp [el]
theorem el_app2 {U V W : List Note} {x y : Note} : el (U ++ (x :: (V ++ (y :: W)))) (U.length + 1 + V.length) = y := by
  have e : U ++ (x :: (V ++ (y :: W))) = (U ++ x :: V) ++ y :: W := by simp
  have e2 : U.length + 1 + V.length = (U ++ x :: V).length := by simp; omega
  rw [e, e2, el_app]
theorem set_app {U W : List Note} {x z : Note} : (U ++ x :: W).set U.length z = U ++ z :: W := by simp
theorem set_app2 {U V W : List Note} {x y z : Note} : (U ++ (x :: (V ++ (y :: W)))).set (U.length + 1 + V.length) z = U ++ (x :: (V ++ (z :: W))) := by
  have e : U ++ (x :: (V ++ (y :: W))) = (U ++ x :: V) ++ y :: W := by simp
  have e2 : U.length + 1 + V.length = (U ++ x :: V).length := by simp; omega
  rw [e, e2, set_app]
  simp
theorem swapL_app {U V W : List Note} {x y : Note} : swapL (U ++ (x :: (V ++ (y :: W)))) U.length (U.length + 1 + V.length) = U ++ (y :: (V ++ (x :: W))) := by
  unfold swapL
  rw [el_app2, el_app, set_app, set_app2]
theorem swapL_comm {l : List Note} {i j : Nat} (h : i ≠ j) : swapL l i j = swapL l j i := by
  unfold swapL
  rw [List.set_comm _ _ h]
theorem swapL_adj {U W : List Note} {x y : Note} : swapL (U ++ (x :: y :: W)) U.length (U.length + 1) = U ++ (y :: x :: W) := by
  have := swapL_app (U := U) (V := []) (W := W) (x := x) (y := y)
  simpa using this
theorem swI_app {A P D Q B : List Note} (hk : P.length = Q.length) : ∀ j, j ≤ P.length → swI (A ++ (P ++ (D ++ (Q ++ B)))) A.length (A.length + P.length + D.length) j = A ++ (Q.take j ++ (P.drop j ++ (D ++ (P.take j ++ (Q.drop j ++ B)))))
  | 0, _ => by simp [swI]
  | j + 1, hj => by
    rw [swI, swI_app hk j (by omega)]
    have hP : P.drop j = el P j :: P.drop (j + 1) := drop_el (by omega)
    have hQ : Q.drop j = el Q j :: Q.drop (j + 1) := drop_el (by omega)
    have tP : P.take (j + 1) = P.take j ++ [el P j] := take_el (by omega)
    have tQ : Q.take (j + 1) = Q.take j ++ [el Q j] := take_el (by omega)
    have l1 : (P.take j).length = j := by rw [List.length_take]; omega
    have l2 : (Q.take j).length = j := by rw [List.length_take]; omega
    have l3 : (P.drop (j + 1)).length = P.length - (j + 1) := List.length_drop ..
    rw [hP, hQ, tP, tQ]
    have := swapL_app (U := A ++ Q.take j) (V := P.drop (j + 1) ++ (D ++ P.take j)) (W := Q.drop (j + 1) ++ B) (x := el P j) (y := el Q j)
    have e1 : (A ++ Q.take j).length = A.length + j := by rw [List.length_append, l2]
    have e2 : (A ++ Q.take j).length + 1 + (P.drop (j + 1) ++ (D ++ P.take j)).length = A.length + P.length + D.length + j := by
      simp only [List.length_append, l1, l2, l3]; omega
    rw [e2, e1] at this
    simp only [List.append_assoc, List.cons_append, List.nil_append] at this ⊢
    exact this
theorem swI_full {A P D Q B : List Note} (hk : P.length = Q.length) : swI (A ++ (P ++ (D ++ (Q ++ B)))) A.length (A.length + P.length + D.length) P.length = A ++ (Q ++ (D ++ (P ++ B))) := by
  rw [swI_app hk _ (Nat.le_refl _)]
  rw [List.take_of_length_le (by omega), List.drop_of_length_le (Nat.le_refl _), List.take_of_length_le (Nat.le_refl _), List.drop_of_length_le (by omega)]
  simp
end Go.Proofs.Ytbpaeonfebmomaa

namespace Go.Proofs.Ytbpaeonfebmomaa
open Go.RowKit
set_option linter.unusedVariables false
set_option linter.unusedSimpArgs false
set_option maxRecDepth 100000
attribute [local simp] List.getElem?_cons_zero
attribute [local irreducible] awCond awCall awLoop awDraw ow retQ retC resQ Keeps
/-- A key of a channel that sounds since a tick. -/
structure Opn where
  o : Int
  k : Int
  t : Int
  u : Int
deriving DecidableEq, Inhabited
def Opn.is (x : Opn) (e : StreamEvent) : Bool := decide (x.o = e.o) && decide (x.k = e.k)
theorem Opn.is_iff {x : Opn} {e : StreamEvent} : x.is e = true ↔ x.o = e.o ∧ x.k = e.k := by simp [Opn.is]
def fndO (os : List Opn) (e : StreamEvent) : Option Nat := os.findIdx? fun x => x.is e
def mkN (D : Int) (x : Opn) (now : Int) : Note := ⟨(mkF x.t D).1.n, (mkF x.t D).1.d, (mkF (now - x.t) D).1.n, (mkF (now - x.t) D).1.d, x.k, x.u, x.o⟩
def okM (D : Int) (x : Opn) (now : Int) : Bool := decide ((mkF x.t D).2 = 0) && (decide ((mkF (now - x.t) D).2 = 0) && noteB (mkN D x now))
def sosG (D : Int) : List StreamEvent → Int → List Opn → List Note → List Note × Int
  | [], _, os, ns => if os.length > 0 then ([], 6) else if ns.length > 60 then ([], 5) else (ns, 0)
  | e :: es, now, os, ns =>
    match fndO os e with
    | some i => if e.j = 1 then ([], 4) else if okM D (el os i) (now + e.d) = true then sosG D es (now + e.d) (os.eraseIdx i) (ns ++ [mkN D (el os i) (now + e.d)]) else ([], 2)
    | none => if e.j = 1 then sosG D es (now + e.d) (os ++ [⟨e.o, e.k, now + e.d, e.u⟩]) ns else ([], 3)
open Classical in
noncomputable def sortN (ns : List Note) : List Note := if h : ∃ l' : List Note, l'.Perm ns ∧ l'.Pairwise LeN then h.choose else ns
noncomputable def sosV (l : List StreamEvent) (D : Int) : List Note × Int :=
  if okE l = false then ([], 1) else if inB D 1 960 = false then ([], 2) else if (sosG D l 0 [] []).2 = 0 then (sortN (sosG D l 0 [] []).1, 0) else ([], (sosG D l 0 [] []).2)
theorem sortN_of {ns l' : List Note} (h1 : l'.Perm ns) (h2 : l'.Pairwise LeN) : (sortN ns).Perm ns ∧ (sortN ns).Pairwise LeN := by
  have h : ∃ l' : List Note, l'.Perm ns ∧ l'.Pairwise LeN := ⟨l', h1, h2⟩
  unfold sortN
  rw [dif_pos h]
  exact h.choose_spec
/-- Two lists of the same notes, each in order, are one, where none are level. -/
theorem sortN_one : ∀ (a b : List Note), a.Perm b → a.Pairwise LeN → b.Pairwise LeN → a.Pairwise (fun x y => ordN x y ≠ 0) → a = b
  | [], b, hp, _, _, _ => by rw [List.Perm.eq_nil hp.symm]
  | x :: a, [], hp, _, _, _ => by have := hp.length_eq; simp at this
  | x :: a, y :: b, hp, ha, hb, hu => by
    have hx : x ∈ y :: b := hp.mem_iff.1 (by simp)
    have hy : y ∈ x :: a := hp.mem_iff.2 (by simp)
    obtain ⟨ha1, ha2⟩ := List.pairwise_cons.1 ha
    obtain ⟨hb1, hb2⟩ := List.pairwise_cons.1 hb
    obtain ⟨hu1, hu2⟩ := List.pairwise_cons.1 hu
    have exy : x = y := by
      by_cases e : x = y
      · exact e
      · have h1 : y ∈ a := by
          rcases List.mem_cons.1 hy with h | h
          · exact absurd h.symm e
          · exact h
        have h2 : x ∈ b := by
          rcases List.mem_cons.1 hx with h | h
          · exact absurd h e
          · exact h
        have l1 := ha1 y h1
        have l2 := hb1 x h2
        have l3 := hu1 y h1
        have := ordN_neg x y
        omega
    subst exy
    rw [sortN_one a b (List.Perm.cons_inv hp) ha2 hb2 hu2]
theorem ordN_sym {a b : Note} (h : ordN a b ≠ 0) : ordN b a ≠ 0 := by have := ordN_neg a b; omega
theorem tw_perm {a b : List Note} (h : a.Perm b) (hu : b.Pairwise (fun x y => ordN x y ≠ 0)) : a.Pairwise (fun x y => ordN x y ≠ 0) := (h.pairwise_iff (fun h => ordN_sym h)).2 hu
theorem sortN_eq {ns l' : List Note} (h1 : l'.Perm ns) (h2 : l'.Pairwise LeN) (h3 : ns.Pairwise (fun x y => ordN x y ≠ 0)) : l' = sortN ns := by
  obtain ⟨g1, g2⟩ := sortN_of h1 h2
  exact sortN_one _ _ (h1.trans g1.symm) h2 g2 (tw_perm h1 h3)
theorem ordN_level {a b : Note} (ha : noteB a = true) (hb : noteB b = true) (h : ordN a b = 0) : a.at_.q = b.at_.q ∧ a.o = b.o ∧ a.k = b.k := by
  have h1 : cmpF a.at_ b.at_ = 0 ∧ a.o = b.o ∧ a.k = b.k := by
    unfold ordN at h
    split at h
    · omega
    · split at h
      · omega
      · omega
  refine ⟨?_, h1.2⟩
  have d1 := note_den ha
  have d2 := note_den hb
  have a1 := (cmpF_q (a := a.at_) (b := b.at_) d1 d2).1 (by omega)
  have a2 := (cmpF_q (a := b.at_) (b := a.at_) d2 d1).1 (by rw [cmpF_neg]; omega)
  exact Rat.le_antisymm a1 a2
/-- What is known of the notes so far. -/
structure InvO (D now : Int) (os : List Opn) (ns : List Note) : Prop where
  ok : ∀ n, n ∈ ns → noteB n = true
  at_ : ∀ n, n ∈ ns → ∃ t, n.at_.q = Rat.divInt t D ∧ t < now ∧ ∀ x, x ∈ os → x.o = n.o → x.k = n.k → t < x.t
  keys : os.Pairwise fun x y => ¬ (x.o = y.o ∧ x.k = y.k)
  low : ∀ x, x ∈ os → 0 ≤ x.t ∧ x.t ≤ now
  bd : ∀ x, x ∈ os → (0 ≤ x.o ∧ x.o ≤ 15) ∧ (0 ≤ x.k ∧ x.k ≤ 127)
  tw : ns.Pairwise fun x y => ordN x y ≠ 0
theorem InvO.nil (D : Int) : InvO D 0 [] [] := ⟨by simp, by simp, .nil, by simp, by simp, .nil⟩
theorem fndO_some {os : List Opn} {e : StreamEvent} {i : Nat} (h : fndO os e = some i) : i < os.length ∧ (el os i).o = e.o ∧ (el os i).k = e.k := by
  unfold fndO at h
  obtain ⟨h1, h2, -⟩ := List.findIdx?_eq_some_iff_getElem.1 h
  rw [el_eq h1] at h2
  exact ⟨h1, Opn.is_iff.1 h2⟩
theorem fndO_none {os : List Opn} {e : StreamEvent} (h : fndO os e = none) : ∀ x, x ∈ os → ¬ (x.o = e.o ∧ x.k = e.k) := by
  unfold fndO at h
  intro x hx hh
  have := List.findIdx?_eq_none_iff.1 h x hx
  rw [Opn.is_iff.2 hh] at this
  cases this
theorem mem_erase {α : Type} {l : List α} {i : Nat} {x : α} (h : x ∈ l.eraseIdx i) : x ∈ l := List.mem_of_mem_eraseIdx h
theorem InvO.open_ {D now : Int} {os : List Opn} {ns : List Note} (h : InvO D now os ns) {e : StreamEvent} (hb : eventB e = true) (hf : fndO os e = none) (h0 : 0 ≤ now) : InvO D (now + e.d) (os ++ [⟨e.o, e.k, now + e.d, e.u⟩]) ns := by
  unfold eventB at hb
  simp only [Bool.and_eq_true] at hb
  obtain ⟨⟨⟨b1, b2⟩, b3⟩, -⟩ := hb
  have b1 := inB_iff.1 b1
  have b2 := inB_iff.1 b2
  have b3 := inB_iff.1 b3
  refine ⟨h.ok, fun n hn => ?_, ?_, fun x hx => ?_, fun x hx => ?_, h.tw⟩
  · obtain ⟨t, t1, t2, t3⟩ := h.at_ n hn
    refine ⟨t, t1, by omega, fun x hx eo ek => ?_⟩
    rcases List.mem_append.1 hx with hx | hx
    · exact t3 x hx eo ek
    · rw [List.mem_singleton] at hx; subst hx
      show t < now + e.d
      omega
  · rw [List.pairwise_append]
    refine ⟨h.keys, List.pairwise_singleton _ _, fun x hx y hy => ?_⟩
    rw [List.mem_singleton] at hy; subst hy
    exact fndO_none hf x hx
  · rcases List.mem_append.1 hx with hx | hx
    · have := h.low x hx; omega
    · rw [List.mem_singleton] at hx; subst hx
      show 0 ≤ now + e.d ∧ now + e.d ≤ now + e.d
      omega
  · rcases List.mem_append.1 hx with hx | hx
    · exact h.bd x hx
    · rw [List.mem_singleton] at hx; subst hx
      exact ⟨b2, b3⟩
theorem okM_pos {D : Int} {x : Opn} {now : Int} (hD : 1 ≤ D) (h : okM D x now = true) : x.t < now ∧ (mkN D x now).at_.q = Rat.divInt x.t D ∧ noteB (mkN D x now) = true := by
  unfold okM at h
  simp only [Bool.and_eq_true, decide_eq_true_eq] at h
  obtain ⟨h1, h2, h3⟩ := h
  refine ⟨?_, mkF_q (by omega) h1, h3⟩
  have hl : (mkN D x now).len.q = Rat.divInt (now - x.t) D := mkF_q (by omega) h2
  obtain ⟨-, g2, g3, -⟩ := noteB_iff.1 h3
  have g := beatB_iff.1 g2
  have gd := (fracB_iff.1 g.1).1.1
  have hn : 0 < (mkN D x now).len.n := by
    have : (mkN D x now).len.n = (mkN D x now).ln := rfl
    omega
  by_cases hh : x.t < now
  · exact hh
  · exfalso
    have : Rat.divInt (now - x.t) D ≤ Rat.divInt 0 1 := by
      rw [divInt_le (by omega) (by omega)]
      omega
    rw [← hl] at this
    unfold Frac.q at this
    rw [divInt_le (by omega) (by omega)] at this
    omega
theorem InvO.close {D now : Int} {os : List Opn} {ns : List Note} (h : InvO D now os ns) (hD : 1 ≤ D) {e : StreamEvent} {i : Nat} (hb : eventB e = true) (hf : fndO os e = some i) (h0 : 0 ≤ now) (ho : okM D (el os i) (now + e.d) = true) : InvO D (now + e.d) (os.eraseIdx i) (ns ++ [mkN D (el os i) (now + e.d)]) := by
  obtain ⟨p1, p2, p3⟩ := okM_pos hD ho
  obtain ⟨f1, f2, f3⟩ := fndO_some hf
  have b1 : 0 ≤ e.d := by
    unfold eventB at hb
    simp only [Bool.and_eq_true] at hb
    exact (inB_iff.1 hb.1.1.1).1
  have hm := el_mem f1
  refine ⟨fun n hn => ?_, fun n hn => ?_, h.keys.sublist (List.eraseIdx_sublist _ _), fun x hx => ?_, fun x hx => h.bd x (mem_erase hx), ?_⟩
  · rcases List.mem_append.1 hn with hn | hn
    · exact h.ok n hn
    · rw [List.mem_singleton] at hn; subst hn; exact p3
  · rcases List.mem_append.1 hn with hn | hn
    · obtain ⟨t, t1, t2, t3⟩ := h.at_ n hn
      exact ⟨t, t1, by omega, fun x hx => t3 x (mem_erase hx)⟩
    · rw [List.mem_singleton] at hn; subst hn
      refine ⟨_, p2, p1, fun x hx eo ek => ?_⟩
      exfalso
      obtain ⟨q, hq, hqe⟩ := List.getElem_of_mem hx
      rw [List.length_eraseIdx_of_lt f1] at hq
      have hp := h.keys
      rw [List.pairwise_iff_getElem] at hp
      rw [List.getElem_eraseIdx] at hqe
      split at hqe
      · have := hp q i (by omega) f1 (by omega)
        rw [hqe, el_eq f1] at this
        exact this ⟨eo, ek⟩
      · have := hp i (q + 1) f1 (by omega) (by omega)
        rw [hqe, el_eq f1] at this
        exact this ⟨eo.symm, ek.symm⟩
  · have := h.low x (mem_erase hx); omega
  · rw [List.pairwise_append]
    refine ⟨h.tw, List.pairwise_singleton _ _, fun n hn y hy => ?_⟩
    rw [List.mem_singleton] at hy; subst hy
    intro hz
    obtain ⟨z1, z2, z3⟩ := ordN_level (h.ok n hn) p3 hz
    obtain ⟨t, t1, t2, t3⟩ := h.at_ n hn
    have := t3 _ hm z2.symm z3.symm
    rw [t1, p2] at z1
    have : Rat.divInt (el os i).t D ≤ Rat.divInt t D := by rw [z1]; exact Rat.le_refl
    rw [divInt_le (by omega) (by omega)] at this
    have := Int.le_of_mul_le_mul_right this (by omega)
    omega
theorem sosG_ok {D : Int} (hD : 1 ≤ D) : ∀ (l : List StreamEvent) (now : Int) (os : List Opn) (ns : List Note), InvO D now os ns → 0 ≤ now → l.all eventB = true → (sosG D l now os ns).2 = 0 →
    (∀ n, n ∈ (sosG D l now os ns).1 → noteB n = true) ∧ (sosG D l now os ns).1.Pairwise (fun x y => ordN x y ≠ 0) ∧ (sosG D l now os ns).1.length ≤ 60
  | [], now, os, ns, h, _, _, hc => by
    rw [sosG] at hc ⊢
    split at hc
    · cases hc
    · split at hc
      · cases hc
      · rename_i h1 h2
        rw [if_neg h1, if_neg h2]
        exact ⟨h.ok, h.tw, by show ns.length ≤ 60; omega⟩
  | e :: es, now, os, ns, h, h0, hv, hc => by
    simp only [List.all_cons, Bool.and_eq_true] at hv
    have hd : 0 ≤ e.d := by
      have := hv.1
      unfold eventB at this
      simp only [Bool.and_eq_true] at this
      exact (inB_iff.1 this.1.1.1).1
    rw [sosG] at hc ⊢
    cases hf : fndO os e with
    | some i =>
      rw [hf] at hc
      simp only at hc ⊢
      split at hc
      · cases hc
      · split at hc
        · rename_i h1 h2
          rw [if_neg h1, if_pos h2]
          exact sosG_ok hD es _ _ _ (h.close hD hv.1 hf h0 h2) (by omega) hv.2 hc
        · cases hc
    | none =>
      rw [hf] at hc
      simp only at hc ⊢
      split at hc
      · rename_i h1
        rw [if_pos h1]
        exact sosG_ok hD es _ _ _ (h.open_ hv.1 hf h0) (by omega) hv.2 hc
      · cases hc
end Go.Proofs.Ytbpaeonfebmomaa

namespace Go.Proofs.Ytbpaeonfebmomaa
open Go.RowKit
set_option linter.unusedVariables false
set_option linter.unusedSimpArgs false
set_option maxRecDepth 100000
attribute [local simp] List.getElem?_cons_zero
attribute [local irreducible] awCond awCall awLoop awDraw ow retQ retC resQ Keeps
theorem swap_seg {M : Mem} {B id n c x y k : Nat} {t : Bool} {A P D Q Z l : List Note} {f : Value} (hl : l = A ++ (P ++ (D ++ (Q ++ Z)))) (h : M[id]? = some (noteS t l)) (hB : B ≤ id) (hn : l.length = n) (hn2 : n ≤ 100000) (hx : x = A.length) (hk : P.length = k) (hk2 : Q.length = k) (hy : y = A.length + k + D.length) :
    Ctr Try.prog B 108 [.slice (some ⟨id, 0, none⟩) n c, iv x, iv y, iv k, f] M fun r M' => r = .tuple #[] ∧ M' = stN M id t (A ++ (Q ++ (D ++ (P ++ Z)))) := by
  subst hl
  have hs := swI_full (A := A) (D := D) (B := Z) (show P.length = Q.length by omega)
  simp only [List.length_append] at hn
  refine (swapRange_a (a := x) (b := y) (k := k) h hB (by simp only [List.length_append]; omega) hn2 (by omega) (by omega)).mono ?_
  rintro r M' ⟨h1, h2⟩
  refine ⟨h1, ?_⟩
  rw [h2, ← hs, hx, hy, hk]
set_option maxHeartbeats 1600000 in
theorem rotate_a {M : Mem} {B id n c a m b : Nat} {t : Bool} {A X Y Z l : List Note} {f : Value} (hl : l = A ++ (X ++ (Y ++ Z))) (h : M[id]? = some (noteS t l)) (hB : B ≤ id) (hn : l.length = n) (hn2 : n ≤ 100000) (ha : a = A.length) (hm : m = a + X.length) (hb : b = m + Y.length) (hX : 0 < X.length) (hY : 0 < Y.length) (hf : f = cmpV) :
    Ctr Try.prog B 107 [.slice (some ⟨id, 0, none⟩) n c, iv a, iv m, iv b, f] M fun r M' => r = .tuple #[] ∧ M' = stN M id t (A ++ (Y ++ (X ++ Z))) := by
  have hid := (List.getElem?_eq_some_iff.1 h).1
  have hn' := hn
  rw [hl] at hn'
  simp only [List.length_append] at hn'
  first | (refine ctr_fn Try.func107 rfl Try.ntmps107 Try.results107 rfl rfl (by simp) ?_) | (refine ctr_fnC Try.func107 rfl Try.ntmps107 Try.results107 rfl (by simp) ?_)
  have e0 : (m : Int) - a = X.length := by omega
  have e00 : (b : Int) - m = Y.length := by omega
  simp (disch := omega) [wrap_in, e0, e00]
  refine awLoop_T (fun k T M' => ∃ (A' X' Y' Z' : List Note), k + 2 = X'.length + Y'.length ∧ 0 < X'.length ∧ 0 < Y'.length ∧ A'.length + X'.length = m ∧ A' ++ (Y' ++ (X' ++ Z')) = A ++ (Y ++ (X ++ Z)) ∧ M' = stN M id t (A' ++ (X' ++ (Y' ++ Z'))) ∧ look T 10 = some (iv X'.length) ∧ look T 11 = some (iv Y'.length) ∧ look T 0 = some (.slice (some ⟨id, 0, none⟩) n c) ∧ look T 2 = some (iv m) ∧ look T 4 = some f) (X.length + Y.length - 2) ⟨A, X, Y, Z, by omega, hX, hY, by omega, rfl, by rw [← hl, stN_self h], by simp, by simp, by simp, by simp, by simp⟩ ?_
  rintro k T M' ⟨A', X', Y', Z', hk, hx, hy, hAm, hT, rfl, t10, t11, t0, t2, t4⟩
  have hr := stN_row (t := t) (l := A' ++ (X' ++ (Y' ++ Z'))) hid
  have hlen := congrArg List.length hT
  simp only [List.length_append] at hlen
  have eA : (m : Int) - X'.length = A'.length := by omega
  by_cases hij : X'.length = Y'.length
  · simp (disch := omega) [t10, t11, hij, t0, t2, t4, wrap_in]
    have eA' : (m : Int) - Y'.length = A'.length := by omega
    simp (disch := omega) [wrap_in, eA']
    refine awCall_ctr ((swap_seg (P := X') (D := []) (Q := Y') (Z := Z') (l := A' ++ (X' ++ (Y' ++ Z'))) (by simp) hr hB (by simp only [List.length_append]; omega) hn2 (x := A'.length) rfl (k := Y'.length) (by omega) rfl (y := m) (by simp; omega)).weaken (by simp)) ?_
    rintro r M2 ⟨rfl, rfl⟩
    simp
    rw [stN_stN, ← hT]
  · have hij' : ¬ ((X'.length : Int) = Y'.length) := by omega
    by_cases hgt : Y'.length < X'.length
    · have hgt' : (Y'.length : Int) < X'.length := by omega
      have e5 : (X'.length : Int) - Y'.length = ((X'.drop Y'.length).length : Nat) := by rw [List.length_drop]; omega
      simp (disch := omega) [t10, t11, hij, hij', hgt, hgt', t0, t2, t4, wrap_in, eA]
      refine awCall_ctr ((swap_seg (P := X'.take Y'.length) (D := X'.drop Y'.length) (Q := Y') (Z := Z') (l := A' ++ (X' ++ (Y' ++ Z'))) (by rw [← List.append_assoc (X'.take _), List.take_append_drop]) hr hB (by simp only [List.length_append]; omega) hn2 (x := A'.length) rfl (k := Y'.length) (by rw [List.length_take]; omega) rfl (y := m) (by rw [List.length_drop]; omega)).weaken (by simp)) ?_
      rintro r M2 ⟨rfl, rfl⟩
      try simp (disch := omega) [t10, t11, wrap_in]
      have hd : (X'.drop Y'.length).length = X'.length - Y'.length := List.length_drop
      have ht : (X'.take Y'.length).length = Y'.length := by rw [List.length_take]; omega
      refine lpI (k - Y'.length) (by omega) ?_
      refine ⟨A' ++ Y', X'.drop Y'.length, X'.take Y'.length, Z', by rw [hd, ht]; omega, by omega, by omega, by rw [List.length_append, hd]; omega, ?_, by rw [stN_stN]; simp, by simp [hd]; omega, by simp [t11, ht], by simp [t0], by simp [t2], by simp [t4]⟩
      rw [← hT]
      simp only [List.append_assoc]
      rw [← List.append_assoc (X'.take _), List.take_append_drop]
    · have hgt' : ¬ (Y'.length : Int) < X'.length := by omega
      have hd : (Y'.drop (Y'.length - X'.length)).length = X'.length := by rw [List.length_drop]; omega
      have ht : (Y'.take (Y'.length - X'.length)).length = Y'.length - X'.length := by rw [List.length_take]; omega
      obtain ⟨q, hq⟩ : ∃ q, q = m + Y'.length - X'.length := ⟨_, rfl⟩
      have e6 : (m : Int) + Y'.length - X'.length = q := by omega
      simp (disch := omega) [t10, t11, hij, hij', hgt, hgt', t0, t2, t4, wrap_in, eA, e6]
      refine awCall_ctr ((swap_seg (P := X') (D := Y'.take (Y'.length - X'.length)) (Q := Y'.drop (Y'.length - X'.length)) (Z := Z') (l := A' ++ (X' ++ (Y' ++ Z'))) (by rw [← List.append_assoc (Y'.take _), List.take_append_drop]) hr hB (by simp only [List.length_append]; omega) hn2 (x := A'.length) rfl (k := X'.length) rfl hd (y := q) (by rw [ht]; omega)).weaken (by simp)) ?_
      rintro r M2 ⟨rfl, rfl⟩
      try simp (disch := omega) [t10, t11, wrap_in]
      refine lpI (k - X'.length) (by omega) ?_
      refine ⟨A', Y'.drop (Y'.length - X'.length), Y'.take (Y'.length - X'.length), X' ++ Z', by rw [hd, ht]; omega, by omega, by omega, by rw [hd]; omega, ?_, by rw [stN_stN], by simp [hd, t10], by simp [ht]; omega, by simp [t0], by simp [t2], by simp [t4]⟩
      rw [← hT]
      rw [← List.append_assoc (Y'.take _), List.take_append_drop]
end Go.Proofs.Ytbpaeonfebmomaa

namespace Go.Proofs.Ytbpaeonfebmomaa
open Go.RowKit
set_option linter.unusedVariables false
set_option linter.unusedSimpArgs false
set_option maxRecDepth 100000
attribute [local simp] List.getElem?_cons_zero
attribute [local irreducible] awCond awCall awLoop awDraw ow retQ retC resQ Keeps
theorem LeN.swap {a b : Note} (h : ¬ ordN a b < 0) : LeN b a := by
  have := ordN_neg a b
  unfold LeN
  omega
theorem ins_sorted {S1 S2 : List Note} {x : Note} (hv : ∀ y, y ∈ S1 ++ x :: S2 → noteB y = true) (hs : (S1 ++ S2).Pairwise LeN) (h2 : ∀ y, y ∈ S2 → LeN x y) (h1 : ∀ y, y ∈ S1 → LeN y x) : (S1 ++ x :: S2).Pairwise LeN := by
  rw [List.pairwise_append] at hs ⊢
  obtain ⟨a1, a2, a3⟩ := hs
  refine ⟨a1, List.pairwise_cons.2 ⟨h2, a2⟩, fun y hy z hz => ?_⟩
  rcases List.mem_cons.1 hz with rfl | hz
  · exact h1 y hy
  · exact a3 y hy z hz
theorem last_le {S1 : List Note} {x y : Note} (hv : ∀ z, z ∈ S1 ++ [y] → noteB z = true) (hx : noteB x = true) (hs : (S1 ++ [y]).Pairwise LeN) (h : LeN y x) : ∀ z, z ∈ S1 ++ [y] → LeN z x := by
  intro z hz
  rw [List.pairwise_append] at hs
  rcases List.mem_append.1 hz with h1 | h1
  · exact ordN_trans (hv z hz) (hv y (by simp)) hx (hs.2.2 z h1 y (by simp)) h
  · rw [List.mem_singleton] at h1; subst h1; exact h
set_option maxHeartbeats 4000000 in
theorem insertion_a {M : Mem} {B id n c a b : Nat} {t : Bool} {A X Z l : List Note} (hl : l = A ++ (X ++ Z)) (h : M[id]? = some (noteS t l)) (hB : B ≤ id) (hn : l.length = n) (hn2 : n ≤ 100000) (ha : a = A.length) (hb : b = a + X.length) (hv : ∀ x, x ∈ X → noteB x = true) :
    Ctr Try.prog B 104 [.slice (some ⟨id, 0, none⟩) n c, iv a, iv b, cmpV] M fun r M' => r = .tuple #[] ∧ ∃ X', X'.Perm X ∧ X'.Pairwise LeN ∧ M' = stN M id t (A ++ (X' ++ Z)) := by
  have hid := (List.getElem?_eq_some_iff.1 h).1
  have hn' := hn
  rw [hl] at hn'
  simp only [List.length_append] at hn'
  first | (refine ctr_fn Try.func104 rfl Try.ntmps104 Try.results104 rfl rfl (by simp) ?_) | (refine ctr_fnC Try.func104 rfl Try.ntmps104 Try.results104 rfl (by simp) ?_)
  have ea : (a : Int) + 1 = ((a + 1 : Nat) : Int) := by omega
  rcases X with _ | ⟨x0, X1⟩
  · have hab : ¬ ((a : Int) + 1 < b) := by simp at hb; omega
    simp (disch := omega) [wrap_in]
    refine awLoop_T (fun k T M' => k = 0 ∧ M' = M ∧ look T 8 = some (iv ((a : Int) + 1)) ∧ look T 2 = some (iv b)) 0 ⟨rfl, rfl, by simp, by simp⟩ ?_
    rintro k T M' ⟨rfl, hM, t8, t2⟩
    simp (disch := omega) [t8, t2, hab]
    rw [hM]
    have e : stN M id t (A ++ Z) = M := by rw [show A ++ Z = l from by rw [hl]; rfl, stN_self h]
    first | exact ⟨[], .refl _, .nil, by simpa using e.symm⟩ | exact e.symm | simp [e]
  simp (disch := omega) [wrap_in]
  refine awLoop_T (fun m T M' => ∃ (S R : List Note) (i : Nat), m = R.length ∧ i = a + S.length ∧ 0 < S.length ∧ (S ++ R).Perm (x0 :: X1) ∧ S.Pairwise LeN ∧ M' = stN M id t (A ++ (S ++ (R ++ Z))) ∧ look T 8 = some (iv i) ∧ look T 0 = some (.slice (some ⟨id, 0, none⟩) n c) ∧ look T 1 = some (iv a) ∧ look T 2 = some (iv b) ∧ look T 3 = some cmpV) X1.length
    ⟨[x0], X1, a + 1, rfl, rfl, by simp, by simp, by simp, by rw [show A ++ ([x0] ++ (X1 ++ Z)) = l by rw [hl]; simp, stN_self h], by simp, by simp, by simp, by simp, by simp⟩ ?_
  rintro m T M' ⟨S, R, i, hm, hi, hS0, hp, hs, rfl, t8, t0, t1, t2, t3⟩
  have hpl := hp.length_eq
  simp only [List.length_append, List.length_cons] at hpl hb hn'
  rcases R with _ | ⟨x, R⟩
  · have hib : ¬ ((i : Int) < b) := by simp at hpl; omega
    simp (disch := omega) [t8, t2, hib]
    exact ⟨S, by simpa using hp, hs, by simp⟩
  simp only [List.length_cons] at hpl hm
  have hib : (i : Int) < b := by omega
  have hvS : ∀ y, y ∈ S → noteB y = true := fun y hy => hv y (hp.mem_iff.1 (by simp [hy]))
  have hvx : noteB x = true := hv x (hp.mem_iff.1 (by simp))
  simp (disch := omega) [t8, t2, hib]
  refine awLoop_T (fun k T M' => ∃ (S1 S2 : List Note) (j : Nat), k = S1.length ∧ S = S1 ++ S2 ∧ j = a + k ∧ (∀ y, y ∈ S2 → LeN x y) ∧ M' = stN M id t (A ++ (S1 ++ (x :: (S2 ++ (R ++ Z))))) ∧ look T 9 = some (iv j) ∧ look T 8 = some (iv i) ∧ look T 0 = some (.slice (some ⟨id, 0, none⟩) n c) ∧ look T 1 = some (iv a) ∧ look T 2 = some (iv b) ∧ look T 3 = some cmpV) S.length
    ⟨S, [], i, rfl, by simp, hi, by simp, by simp, by simp [t8], by simp [t8], by simp [t0], by simp [t1], by simp [t2], by simp [t3]⟩ ?_
  rintro k T M' ⟨S1, S2, j, hk, hSS, hj, h2, rfl, t9, t8, t0, t1, t2, t3⟩
  have hSl := congrArg List.length hSS
  simp only [List.length_append] at hSl
  have fin : (∀ y, y ∈ S1 → LeN y x) → ((S1 ++ x :: S2) ++ R).Perm (x0 :: X1) ∧ (S1 ++ x :: S2).Pairwise LeN := fun h1 => ⟨by
    refine List.Perm.trans ?_ hp
    rw [hSS]
    simp only [List.append_assoc, List.cons_append]
    refine List.Perm.append_left S1 ?_
    rw [← List.cons_append]
    exact (List.perm_middle (l₁ := S2) (l₂ := R) (a := x)).symm, ins_sorted (fun y hy => by
      rcases List.mem_append.1 hy with h | h
      · exact hvS y (by rw [hSS]; simp [h])
      · rcases List.mem_cons.1 h with rfl | h
        · exact hvx
        · exact hvS y (by rw [hSS]; simp [h])) (by rw [← hSS]; exact hs) h2 h1⟩
  have out : ∀ T', (∀ y, y ∈ S1 → LeN y x) → look T' 8 = some (iv ((i : Int) + 1)) → look T' 0 = some (.slice (some ⟨id, 0, none⟩) n c) → look T' 1 = some (iv a) → look T' 2 = some (iv b) → look T' 3 = some cmpV → ∃ (S' R' : List Note) (i' : Nat), R.length = R'.length ∧ i' = a + S'.length ∧ 0 < S'.length ∧ (S' ++ R').Perm (x0 :: X1) ∧ S'.Pairwise LeN ∧ stN M id t (A ++ (S1 ++ (x :: (S2 ++ (R ++ Z))))) = stN M id t (A ++ (S' ++ (R' ++ Z))) ∧ look T' 8 = some (iv i') ∧ look T' 0 = some (.slice (some ⟨id, 0, none⟩) n c) ∧ look T' 1 = some (iv a) ∧ look T' 2 = some (iv b) ∧ look T' 3 = some cmpV := fun T' h1 r8 r0 r1 r2 r3 =>
    ⟨S1 ++ x :: S2, R, i + 1, rfl, by simp; omega, by simp <;> omega, (fin h1).1, (fin h1).2, by simp, by rw [r8]; rfl, r0, r1, r2, r3⟩
  have hr := stN_row (t := t) (l := A ++ (S1 ++ (x :: (S2 ++ (R ++ Z))))) hid
  rcases List.eq_nil_or_concat S1 with hnil | ⟨S1', y, hcat⟩
  · subst hnil
    have hja : ¬ ((a : Int) < j) := by simp at hk; omega
    simp (disch := omega) [t9, t1]
    refine awDraw_E 14 [[],[],[0,1],[2,0,1],[3,2,0,1],[3,2,0,1],[3,2,0,1],[5,3,2,0,1,6],[7,5,3,2,0,1,6],[3,2,0,1],[3,2,0,1],[10,3,2,0,1],[9,3,2,0,1,11,10],[12,9,3,2,0,1,11,10],[4,3,2,0,1,8,7,5,6,13,12,9,11,10],[14,4,3,2,0,1,8,7,5,6,13,12,9,11,10],[3,2,0,1,15,14,4,8,7,5,6,13,12,9,11,10]] (by kernel_rfl) (by kernel_rfl) ?_
    simp (disch := omega) [t9, t1, t8, hja, wrap_in]
    refine lpI R.length (by omega) (out _ (by simp) ?_ ?_ ?_ ?_ ?_) <;> simp [t8, t0, t1, t2, t3]
  · rw [List.concat_eq_append] at hcat
    subst hcat
    simp only [List.length_append, List.length_cons, List.length_nil] at hk hSl
    obtain ⟨q, hq⟩ : ∃ q, q = a + S1'.length := ⟨_, rfl⟩
    obtain ⟨p, hp1⟩ : ∃ p, p = q + 1 := ⟨_, rfl⟩
    obtain rfl : j = p := by omega
    have e1 : (j : Int) - 1 = q := by omega
    have hja : (a : Int) < j := by omega
    obtain ⟨l1, hl1⟩ : ∃ l1, l1 = A ++ ((S1' ++ [y]) ++ (x :: (S2 ++ (R ++ Z)))) := ⟨_, rfl⟩
    have hl1' : l1 = (A ++ S1') ++ (y :: x :: (S2 ++ (R ++ Z))) := by rw [hl1]; simp
    have hU : (A ++ S1').length = q := by simp; omega
    have elq : el l1 q = y := by rw [hl1', ← hU, el_app]
    have elp : el l1 j = x := by
      have e : (A ++ S1' ++ [y]).length = j := by simp; omega
      rw [show l1 = (A ++ S1' ++ [y]) ++ x :: (S2 ++ (R ++ Z)) from by rw [hl1']; simp, ← e, el_app]
    have hln : l1.length = n := by rw [hl1']; simp; omega
    obtain ⟨M1, hM1⟩ : ∃ M1, M1 = stN M id t l1 := ⟨_, rfl⟩
    have hr1 : M1[id]? = some (noteS t l1) := by rw [hM1]; exact stN_row hid
    have hid1 : id < M1.length := by rw [hM1, stN_len]; exact hid
    have hM1l : M1.length = M.length := by rw [hM1, stN_len]
    have hBl : B ≤ M1.length := by omega
    rw [← hl1] at out ⊢
    rw [← hM1] at out ⊢
    have hjn : j < n := by omega
    have hqn : q < n := by omega
    have hcx : cellsAt M1 id (j * 7) 7 = some x.row := by rw [stN_at hr1 (by omega), elp]
    have hcy : cellsAt M1 id (q * 7) 7 = some y.row := by rw [stN_at hr1 (by omega), elq]
    simp (disch := omega) [t9, t1]
    refine awDraw_E 14 [[],[],[0,1],[2,0,1],[3,2,0,1],[3,2,0,1],[3,2,0,1],[5,3,2,0,1,6],[7,5,3,2,0,1,6],[3,2,0,1],[3,2,0,1],[10,3,2,0,1],[9,3,2,0,1,11,10],[12,9,3,2,0,1,11,10],[4,3,2,0,1,8,7,5,6,13,12,9,11,10],[14,4,3,2,0,1,8,7,5,6,13,12,9,11,10],[3,2,0,1,15,14,4,8,7,5,6,13,12,9,11,10]] (by kernel_rfl) (by kernel_rfl) ?_
    simp (disch := omega) [t9, t1, t0, t3, t8, hja, wrap_in, e1, stN_esz hr1, hcx, hcy]
    refine ⟨by omega, by omega, ?_⟩
    refine awCall_det' (compareNotes_i x y hvx (hvS y (by rw [hSS]; simp))) (by omega) ?_
    by_cases ho : ordN x y < 0
    · simp (disch := omega) [ho, t9, t1, t0, t3, t8, wrap_in]
      refine awDraw_C [15, 17] (fun kk v => match kk with
        | 0 => v = .slice (some ⟨id, 0, none⟩) n c
        | 1 => v = iv j
        | 2 => v = .slice (some ⟨id, 0, none⟩) n c
        | 3 => v = iv j
        | 4 => v = iv q
        | 5 => v = .slice (some ⟨id, 0, none⟩) n c
        | 6 => v = iv j
        | 7 => v = iv q
        | 8 => v = .pointer (some ⟨id, q * 7, none⟩)
        | 9 => v = .agg (el l1 q).row.toArray
        | 10 => v = .slice (some ⟨id, 0, none⟩) n c
        | 11 => v = iv j
        | 12 => v = .pointer (some ⟨id, j * 7, none⟩)
        | 13 => v = .agg (el l1 j).row.toArray
        | 14 => v = .pointer (some ⟨id, j * 7, none⟩)
        | 16 => v = .pointer (some ⟨id, q * 7, none⟩)
        | _ => True) (fun vs M' => match vs with
        | [] => M' = M1
        | [_] => M' = stN M1 id t (l1.set j (el l1 q))
        | [_, _] => M' = stN M1 id t (swapL l1 j q)
        | _ => False) (by kernel_rfl) (by decide +kernel) (by decide +kernel) (by decide +kernel) rfl ?_ ?_ ?_
      · intro kk o T' M' vs K hi ho hΨ hlate hp hf' hK
        have f0 : look T' 0 = some (.slice (some ⟨id, 0, none⟩) n c) := by rw [hf' 0 (by decide +kernel)]; simp [t0]
        have f1 : look T' 1 = some (iv a) := by rw [hf' 1 (by decide +kernel)]; simp [t1]
        have f2 : look T' 2 = some (iv b) := by rw [hf' 2 (by decide +kernel)]; simp [t2]
        have f3 : look T' 3 = some (cmpV) := by rw [hf' 3 (by decide +kernel)]; simp [t3]
        have f8 : look T' 8 = some (iv i) := by rw [hf' 8 (by decide +kernel)]; simp [t8]
        have f9 : look T' 9 = some (iv j) := by rw [hf' 9 (by decide +kernel)]; simp [t9]
        rcases kk with _ | _ | _ | _ | _ | _ | _ | _ | _ | _ | _ | _ | _ | _ | _ | _ | _ | _ | kk
        · skip
          simp at ho; subst ho
          simp [f0]
          exact hK _ rfl
        · skip
          simp at ho; subst ho
          simp [f9]
          exact hK _ rfl
        · skip
          simp at ho; subst ho
          simp [f0]
          exact hK _ rfl
        · skip
          simp at ho; subst ho
          simp [f9]
          exact hK _ rfl
        · skip
          obtain ⟨v0, d0, q0, -⟩ := hp 3 40 (by decide +kernel) rfl
          rw [q0 (by decide)] at d0
          simp at ho; subst ho
          simp (disch := omega) [d0, wrap_in, e1]
          exact hK _ rfl
        · skip
          simp at ho; subst ho
          simp [f0]
          exact hK _ rfl
        · skip
          simp at ho; subst ho
          simp [f9]
          exact hK _ rfl
        · skip
          obtain ⟨v0, d0, q0, -⟩ := hp 6 43 (by decide +kernel) rfl
          rw [q0 (by decide)] at d0
          simp at ho; subst ho
          simp (disch := omega) [d0, wrap_in, e1]
          exact hK _ rfl
        · skip
          obtain ⟨v0, d0, q0, -⟩ := hp 5 42 (by decide +kernel) rfl
          rw [q0 (by decide)] at d0
          obtain ⟨v1, d1, q1, -⟩ := hp 7 44 (by decide +kernel) rfl
          rw [q1 (by decide)] at d1
          have he : rowEsz M' id = some 7 := by
            match vs, hΨ with
            | [], hΨ => rw [hΨ]; exact stN_esz hr1
            | [_], hΨ => rw [hΨ]; exact stN_esz (stN_row hid1)
            | [_, _], hΨ => rw [hΨ]; exact stN_esz (stN_row hid1)
          simp at ho; subst ho
          simp (disch := omega) [d0, d1, he, hqn]
          exact hK _ rfl
        · skip
          obtain ⟨v0, d0, q0, -⟩ := hp 8 45 (by decide +kernel) rfl
          rw [q0 (by decide)] at d0
          obtain rfl := List.eq_nil_of_length_eq_zero (Nat.le_zero.1 (hlate 0 15 rfl (by decide +kernel)))
          have hΨ' : M' = M1 := hΨ
          have hc := stN_at hr1 (i := q) (by omega)
          rw [← hΨ'] at hc
          simp at ho; subst ho
          simp [d0, hc]
          exact hK _ rfl
        · skip
          simp at ho; subst ho
          simp [f0]
          exact hK _ rfl
        · skip
          simp at ho; subst ho
          simp [f9]
          exact hK _ rfl
        · skip
          obtain ⟨v0, d0, q0, -⟩ := hp 10 47 (by decide +kernel) rfl
          rw [q0 (by decide)] at d0
          obtain ⟨v1, d1, q1, -⟩ := hp 11 48 (by decide +kernel) rfl
          rw [q1 (by decide)] at d1
          have he : rowEsz M' id = some 7 := by
            match vs, hΨ with
            | [], hΨ => rw [hΨ]; exact stN_esz hr1
            | [_], hΨ => rw [hΨ]; exact stN_esz (stN_row hid1)
            | [_, _], hΨ => rw [hΨ]; exact stN_esz (stN_row hid1)
          simp at ho; subst ho
          simp (disch := omega) [d0, d1, he, hjn]
          exact hK _ rfl
        · skip
          obtain ⟨v0, d0, q0, -⟩ := hp 12 49 (by decide +kernel) rfl
          rw [q0 (by decide)] at d0
          obtain rfl := List.eq_nil_of_length_eq_zero (Nat.le_zero.1 (hlate 0 15 rfl (by decide +kernel)))
          have hΨ' : M' = M1 := hΨ
          have hc := stN_at hr1 (i := j) (by omega)
          rw [← hΨ'] at hc
          simp at ho; subst ho
          simp [d0, hc]
          exact hK _ rfl
        · skip
          obtain ⟨v0, d0, q0, -⟩ := hp 0 37 (by decide +kernel) rfl
          rw [q0 (by decide)] at d0
          obtain ⟨v1, d1, q1, -⟩ := hp 1 38 (by decide +kernel) rfl
          rw [q1 (by decide)] at d1
          have he : rowEsz M' id = some 7 := by
            match vs, hΨ with
            | [], hΨ => rw [hΨ]; exact stN_esz hr1
            | [_], hΨ => rw [hΨ]; exact stN_esz (stN_row hid1)
            | [_, _], hΨ => rw [hΨ]; exact stN_esz (stN_row hid1)
          simp at ho; subst ho
          simp (disch := omega) [d0, d1, he, hjn]
          exact hK _ rfl
        · skip
          cases hi
        · skip
          obtain ⟨v0, d0, q0, -⟩ := hp 2 39 (by decide +kernel) rfl
          rw [q0 (by decide)] at d0
          obtain ⟨v1, d1, q1, -⟩ := hp 4 41 (by decide +kernel) rfl
          rw [q1 (by decide)] at d1
          have he : rowEsz M' id = some 7 := by
            match vs, hΨ with
            | [], hΨ => rw [hΨ]; exact stN_esz hr1
            | [_], hΨ => rw [hΨ]; exact stN_esz (stN_row hid1)
            | [_, _], hΨ => rw [hΨ]; exact stN_esz (stN_row hid1)
          simp at ho; subst ho
          simp (disch := omega) [d0, d1, he, hqn]
          exact hK _ rfl
        · skip
          cases hi
        · simp at ho
      · intro kk k' o T' M' vs K hi ho hΨ hlen hp hf' hK
        rcases kk with _ | _ | kk
        · skip
          obtain rfl : 15 = k' := by simpa using hi
          obtain ⟨v0, d0, q0, -⟩ := hp 14 51 (by decide +kernel) rfl
          rw [q0 (by decide)] at d0
          obtain ⟨v1, d1, q1, -⟩ := hp 9 46 (by decide +kernel) rfl
          rw [q1 (by decide)] at d1
          obtain rfl := List.eq_nil_of_length_eq_zero hlen
          have hΨ' : M' = M1 := hΨ
          simp at ho; subst ho
          simp [d0, d1, hΨ']
          refine ⟨rfl, ?_⟩
          rw [show putCells B M1 id (j * 7) _ = some (stN M1 id t (l1.set j (el l1 q))) from stN_put hr1 hB (by omega), ow_some]
          exact hK _ _ rfl
        · skip
          obtain rfl : 17 = k' := by simpa using hi
          obtain ⟨v0, d0, q0, -⟩ := hp 16 52 (by decide +kernel) rfl
          rw [q0 (by decide)] at d0
          obtain ⟨v1, d1, q1, -⟩ := hp 13 50 (by decide +kernel) rfl
          rw [q1 (by decide)] at d1
          match vs, hlen, hΨ with
          | [_], _, hΨ =>
            have hΨ' : M' = stN M1 id t (l1.set j (el l1 q)) := hΨ
            simp at ho; subst ho
            simp [d0, d1, hΨ']
            refine ⟨rfl, ?_⟩
            rw [show putCells B (stN M1 id t (l1.set j (el l1 q))) id (q * 7) _ = some (stN (stN M1 id t (l1.set j (el l1 q))) id t ((l1.set j (el l1 q)).set q (el l1 j))) from stN_put (stN_row hid1) hB (by simp; omega), ow_some, stN_stN]
            exact hK _ _ rfl
        · simp at hi
      · intro T' M' vs hlen hΨ hv hf'
        match vs, hlen, hΨ with
        | [_, _], _, hΨ =>
          have hΨ' : M' = stN M1 id t (swapL l1 j q) := hΨ
          subst hΨ'
          have g0 : look T' 0 = some (.slice (some ⟨id, 0, none⟩) n c) := by rw [hf' 0 (by decide +kernel)]; simp [t0]
          have g1 : look T' 1 = some (iv a) := by rw [hf' 1 (by decide +kernel)]; simp [t1]
          have g2 : look T' 2 = some (iv b) := by rw [hf' 2 (by decide +kernel)]; simp [t2]
          have g3 : look T' 3 = some (cmpV) := by rw [hf' 3 (by decide +kernel)]; simp [t3]
          have g8 : look T' 8 = some (iv i) := by rw [hf' 8 (by decide +kernel)]; simp [t8]
          have g9 : look T' 9 = some (iv j) := by rw [hf' 9 (by decide +kernel)]; simp [t9]
          simp (disch := omega) [g9, g0, g1, g2, g3, g8, wrap_in, e1]
          refine lpI S1'.length (by omega) ?_
          refine ⟨S1', y :: S2, q, rfl, by rw [hSS]; simp, hq, ?_, ?_, by simp, by simp [g8], by simp [g0], by simp [g1], by simp [g2], by simp [g3]⟩
          · intro z hz
            rcases List.mem_cons.1 hz with rfl | hz
            · exact Int.le_of_lt ho
            · exact h2 z hz
          · rw [hM1, stN_stN, swapL_comm (by omega), hp1, hl1', ← hU, swapL_adj]
            simp
    · simp (disch := omega) [ho, t9, t1, t0, t3, t8, wrap_in]
      refine lpI R.length (by omega) (out _ ?_ ?_ ?_ ?_ ?_ ?_)
      · exact last_le (fun z hz => hvS z (by rw [hSS]; exact List.mem_append_left _ hz)) hvx (by rw [hSS] at hs; exact (List.pairwise_append.1 hs).1) (LeN.swap ho)
      all_goals simp [t8, t0, t1, t2, t3]
end Go.Proofs.Ytbpaeonfebmomaa

namespace Go.Proofs.Ytbpaeonfebmomaa
open Go.RowKit
set_option linter.unusedVariables false
set_option linter.unusedSimpArgs false
set_option maxRecDepth 100000
attribute [local simp] List.getElem?_cons_zero
attribute [local irreducible] awCond awCall awLoop awDraw ow retQ retC resQ Keeps
theorem ordN_self (a : Note) : ordN a a = 0 := by have := ordN_neg a a; omega
theorem pw_el {l : List Note} (h : l.Pairwise LeN) {i j : Nat} (hi : i < j) (hj : j < l.length) : LeN (el l i) (el l j) := by
  rw [List.pairwise_iff_getElem] at h
  have := h i j (by omega) hj hi
  simpa [el, List.getElem?_eq_getElem hj, List.getElem?_eq_getElem (show i < l.length by omega)] using this
theorem el_seg {A X R : List Note} {i : Nat} (hi : i < X.length) : el (A ++ (X ++ R)) (A.length + i) = el X i := by
  simp [el, List.getElem?_append_right, List.getElem?_append_left hi]
theorem low_le {L : List Note} {z : Note} {k : Nat} (hs : L.Pairwise LeN) (hv : ∀ x, x ∈ L → noteB x = true) (hz : noteB z = true) (hk : k ≤ L.length) (h : k = 0 ∨ LeN (el L (k - 1)) z) : ∀ y, y ∈ L.take k → LeN y z := by
  intro y hy
  obtain ⟨i, hi, rfl⟩ := List.getElem_of_mem hy
  rw [List.length_take] at hi
  have e : (L.take k)[i] = el L i := by simp [el, List.getElem?_eq_getElem (show i < L.length by omega)]
  rw [e]
  rcases h with h | h
  · omega
  · by_cases e2 : i = k - 1
    · rw [e2]; exact h
    · exact ordN_trans (hv _ (el_mem (by omega))) (hv _ (el_mem (by omega))) hz (pw_el hs (show i < k - 1 by omega) (by omega)) h
theorem high_le {L : List Note} {z : Note} {k : Nat} (hs : L.Pairwise LeN) (hv : ∀ x, x ∈ L → noteB x = true) (hz : noteB z = true) (h : k = L.length ∨ LeN z (el L k)) : ∀ y, y ∈ L.drop k → LeN z y := by
  intro y hy
  obtain ⟨i, hi, rfl⟩ := List.getElem_of_mem hy
  rw [List.length_drop] at hi
  have e : (L.drop k)[i] = el L (k + i) := by simp [el, List.getElem?_eq_getElem (show k + i < L.length by omega)]
  rw [e]
  rcases h with h | h
  · omega
  · by_cases e2 : i = 0
    · rw [e2]; exact h
    · exact ordN_trans hz (hv _ (el_mem (by omega))) (hv _ (el_mem (by omega))) h (pw_el hs (show k < k + i by omega) (by omega))
theorem LeN.of_lt {a b : Note} (h : ordN a b < 0) : LeN a b := Int.le_of_lt h
/-- What the halves of a parted pair of sorted lists give. -/
theorem halves {X1 X2 Y1 Y2 V1 V2 : List Note} (sX : (X1 ++ X2).Pairwise LeN) (sY : (Y1 ++ Y2).Pairwise LeN) (c1 : ∀ x, x ∈ X1 → ∀ y, y ∈ Y2 → LeN x y) (c2 : ∀ y, y ∈ Y1 → ∀ x, x ∈ X2 → LeN y x)
    (p1 : V1.Perm (X1 ++ Y1)) (p2 : V2.Perm (X2 ++ Y2)) (s1 : V1.Pairwise LeN) (s2 : V2.Pairwise LeN) : (V1 ++ V2).Perm ((X1 ++ X2) ++ (Y1 ++ Y2)) ∧ (V1 ++ V2).Pairwise LeN := by
  constructor
  · refine (p1.append p2).trans ?_
    simp only [List.append_assoc]
    refine List.Perm.append_left X1 ?_
    rw [← List.append_assoc, ← List.append_assoc X2]
    exact List.Perm.append_right Y2 List.perm_append_comm
  · rw [List.pairwise_append]
    refine ⟨s1, s2, fun a ha b hb => ?_⟩
    rw [p1.mem_iff, List.mem_append] at ha
    rw [p2.mem_iff, List.mem_append] at hb
    rw [List.pairwise_append] at sX sY
    rcases ha with ha | ha <;> rcases hb with hb | hb
    · exact sX.2.2 a ha b hb
    · exact c1 a ha b hb
    · exact c2 a ha b hb
    · exact sY.2.2 a ha b hb
theorem nil_of_len {L : List Note} (h : L.length = 0) : L = [] := List.eq_nil_of_length_eq_zero h
end Go.Proofs.Ytbpaeonfebmomaa
