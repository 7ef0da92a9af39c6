/- Parts of the proof, together: Drawn envelopes. Drawn instruments. Gate: records in memory, and the laws' helpers on them. Gates: contracts of the functions on one gate. Gates: are two lists equal. Gates: playable, polyphony. Gates: the gates of a voice. Gates: what good gates are. Gate: a list is cloned. Gates: voices are given, in plain words. No conditions. -/
import Derived.Test.YtimijeeihicohaaZzL10
import Derived.Test.YtimijeeihicohaaZzL12
import Derived.Test.YtimijeeihicohaaZzL9
import Derived.Laws.StructEq
import Derived.Test.YtimijeeihicohaaZzL8
namespace Go.Proofs.Ytimijeeihicohaa
open Go.RowKit
set_option linter.unusedVariables false
set_option linter.unusedSimpArgs false
set_option maxRecDepth 100000
attribute [local simp] List.getElem?_cons_zero
attribute [local irreducible] awCond awCall awLoop awDraw ow retQ retC resQ Keeps
set_option maxHeartbeats 2000000 in
theorem l14Draw_b {M : Mem} {b g k B : Nat} (h : Src g B M k) (hb : b ≤ g) (hB : B ≤ M.length) (hk : k ≤ 1048576) :
    Ctr Try.prog b 70 [.pointer (some ⟨g, 0, none⟩)] M fun r M' => ∃ (st rel : Int) (u : Value) (l : List Segment) (k' : Nat), r = .agg #[iv st, u, iv rel] ∧ Acc segmentR 125 M.length M' u l ∧ (0 ≤ st ∧ st ≤ 65536) ∧ (0 ≤ rel ∧ rel ≤ 4000) ∧ l.length ≤ 4 ∧ (∀ x, x ∈ l → segB x = true) ∧ k' ≤ k + 60 ∧ Src g B M' k' ∧ Grow g M M' := by
  have hg := h.lt
  first | (refine ctr_fn Try.func70 rfl Try.ntmps70 Try.results70 rfl rfl (by simp) ?_) | (refine ctr_fnC Try.func70 rfl Try.ntmps70 Try.results70 rfl (by simp) ?_)
  simp [fill5]
  have hc := among_new (b := b) (M := M ++ [.live ⟨[iv 0, .slice none 0 0, iv 0], true, true, 51, 3⟩]) (n := 5) [0, 0, 0, 100, 65536] rfl (h.app _) hb (by omega) (by omega) (by omega) rfl (by simp; omega)
  simp at hc
  refine awCall_ctr hc ?_
  clear hc
  rintro r M1 ⟨x, rfl, hx, k1, hk1, h1, g1⟩
  have n1 := g1.1
  simp at n1
  have z1 : M1[M.length]? = some (.live ⟨[iv 0, .slice none 0 0, iv 0], true, true, 51, 3⟩) := g1.2 _ _ (by omega) (by simp)
  have hfill : Instr.fill (fun x => [(0, 1), (1, 1), (2, 1)][x]?) #[iv 0, Value.slice none 0 0, iv 0] [(0, iv x)] = some #[iv x, .slice none 0 0, iv 0] := by rfl
  simp (disch := omega) [hfill]
  refine awCall_ctr ((h1.app _).pick 5 hb (by omega) (by omega)) ?_
  rintro r M3 ⟨y, k3, rfl, y0, y1, hk3, h3, u3⟩
  have n3 := u3.1
  simp at n3
  obtain ⟨cn, rfl⟩ := Int.eq_ofNat_of_zero_le y0
  have b3 : M3[M1.length]? = some (.live ⟨[iv x, .slice none 0 0, iv 0], true, true, 51, 3⟩) := u3.2 _ _ (by omega) getElem?_snoc_eq
  have z3 : M3[M.length]? = some (.live ⟨[iv 0, .slice none 0 0, iv 0], true, true, 51, 3⟩) := u3.2 _ _ (by omega) ((keeps_app _).get z1)
  have gg : Grow g M M3 := (((Grow.app g M _).trans g1).trans (Grow.app g M1 _)).trans u3.grow
  generalize hq : M1.length = q at *
  try simp
  refine awLoop_T (fun m T M' => ∃ (l : List Segment) (u : Value) (k' : Nat), l.length + m = cn ∧ Acc segmentR 125 (q + 1) M' u l ∧ (∀ x, x ∈ l → segB x = true) ∧ M'[q]? = some (.live ⟨[iv x, u, iv 0], true, true, 51, 3⟩) ∧ M'[M.length]? = some (.live ⟨[iv 0, .slice none 0 0, iv 0], true, true, 51, 3⟩) ∧
      k' ≤ k3 + 4 * l.length ∧ Src g B M' k' ∧ Grow g M M' ∧ M3.length ≤ M'.length ∧ look T 4 = some (iv m) ∧ look T 3 = some (.pointer (some ⟨q, 0, none⟩)) ∧ look T 2 = some (.pointer (some ⟨M.length, 0, none⟩)) ∧ look T 0 = some (.pointer (some ⟨g, 0, none⟩))) cn
    ⟨[], _, k3, by simp, .nil, fun x h => by simp at h, b3, z3, by omega, h3, gg, Nat.le_refl _, by simp, by simp, by simp, by simp⟩ ?_
  rintro m T M4 ⟨l, u, k4, hl, hA, hs, b4, z4, hk4, h4, g4, n4, t4, t3, t2, t0⟩
  rcases m with _ | m
  · simp (disch := omega) [t4, t3, t2, t0]
    refine awCall_ctr (h4.pick 10 hb (by omega) (by omega)) ?_
    rintro r M5 ⟨z, k5, rfl, zz0, zz1, hk5, h5, u5⟩
    have n5 := u5.1
    have b5 := u5.2 _ _ (by omega) b4
    have z5 := u5.2 _ _ (by omega) z4
    have p5 : putCells b M5 q 2 [iv z] = some (M5.set q (.live ⟨[iv x, u, iv z], true, true, 51, 3⟩)) := put_row b5 (by omega) (by simp) rfl
    have hql : q < M5.length := by omega
    have c5 : cellsAt (M5.set q (.live ⟨[iv x, u, iv z], true, true, 51, 3⟩)) q 0 3 = some [iv x, u, iv z] := by simp [cellsAt, hql]
    have ou : oneV u = true := by obtain ⟨_, _, _, e, _⟩ := hA; rw [e]; rfl
    have z6 : (M5.set q (.live ⟨[iv x, u, iv z], true, true, 51, 3⟩))[M.length]? = some (.live ⟨[iv 0, .slice none 0 0, iv 0], true, true, 51, 3⟩) := by rw [List.getElem?_set_ne (by omega)]; exact z5
    have p6 := put_whole (b := b) (vs := [iv x, u, iv z]) z6 (by omega) rfl (by simp [ou])
    have hMl : M.length < (M5.set q (.live ⟨[iv x, u, iv z], true, true, 51, 3⟩)).length := by simp; omega
    have c6 : cellsAt ((M5.set q (.live ⟨[iv x, u, iv z], true, true, 51, 3⟩)).set M.length (.live ⟨[iv x, u, iv z], true, true, 51, 3⟩)) M.length 0 3 = some [iv x, u, iv z] := by simp at hMl; simp [cellsAt, hMl]
    simp (disch := omega) [p5, c5, p6, c6]
    have gA : Grow g M M5 := g4.trans u5.grow
    have hA5 := u5.acc hA (by omega)
    refine ⟨x, z, u, ⟨rfl, rfl, rfl⟩, l, ((hA5.set_ne (by omega)).set_ne (by omega)).low (by omega), by omega, by omega, by omega, hs, k5, by omega, (h5.same (Same.set (by omega))).same (Same.set (by omega)), by simpa using gA.1, fun i s hi hs => ?_⟩
    have hlt := (List.getElem?_eq_some_iff.1 hs).1
    rw [List.getElem?_set_ne (by omega), List.getElem?_set_ne (by omega)]
    exact gA.2 i s hi hs
  · have e : (0 : Int) < ((m + 1 : Nat) : Int) := by omega
    simp (disch := omega) [t4, t3, t2, t0, e]
    refine awCall_ctr (h4.pick 12 hb (by omega) (by omega)) ?_
    rintro r M5 ⟨z, k5, rfl, zz0, zz1, hk5, h5, u5⟩
    have n5 := u5.1
    have b5 := u5.2 _ _ (by omega) b4
    have z5 := u5.2 _ _ (by omega) z4
    have hfill2 : Instr.fill (fun x => [(0, 1), (1, 1)][x]?) #[iv 0, iv 0] [(0, iv z)] = some #[iv z, iv 0] := by rfl
    simp (disch := omega) [hfill2, fill6, t0, t3, t4]
    have hc := among_new (b := b) (M := M5 ++ [.live ⟨[iv z, iv 0], true, true, 125, 2⟩]) (n := 6) [0, 7, 100, 1000, 50000, 65536] rfl (h5.app _) hb (by omega) (by omega) (by omega) rfl (by simp; omega)
    simp at hc
    refine awCall_ctr hc ?_
    clear hc
    rintro r M6 ⟨w, rfl, hw, k6, hk6, h6, g6⟩
    have hw' : 0 ≤ w ∧ w ≤ 65536 := by rcases hw with h | h | h | h | h | h <;> (rw [h]; decide)
    have n6 := g6.1
    simp at n6
    have s6 : M6[M5.length]? = some (.live ⟨[iv z, iv 0], true, true, 125, 2⟩) := g6.2 _ _ (by omega) (by simp)
    have b6 : M6[q]? = some (.live ⟨[iv x, u, iv 0], true, true, 51, 3⟩) := g6.2 _ _ (by omega) ((keeps_app _).get b5)
    have z6 : M6[M.length]? = some (.live ⟨[iv 0, .slice none 0 0, iv 0], true, true, 51, 3⟩) := g6.2 _ _ (by omega) ((keeps_app _).get z5)
    have p6 : putCells b M6 M5.length 1 [iv w] = some (M6.set M5.length (.live ⟨[iv z, iv w], true, true, 125, 2⟩)) := put_row s6 (by omega) (by simp) rfl
    have hsl : M5.length < M6.length := by omega
    have c6 : cellAt (M6.set M5.length (.live ⟨[iv z, iv w], true, true, 125, 2⟩)) q 1 = some u := by
      have : (M6.set M5.length (.live ⟨[iv z, iv w], true, true, 125, 2⟩))[q]? = some (.live ⟨[iv x, u, iv 0], true, true, 51, 3⟩) := by rw [List.getElem?_set_ne (by omega)]; exact b6
      simp [cellAt, this]
    have d6 : cellsAt (M6.set M5.length (.live ⟨[iv z, iv w], true, true, 125, 2⟩)) M5.length 0 2 = some [iv z, iv w] := by simp [cellsAt, hsl]
    simp (disch := omega) [p6, c6, d6, t0, t3, t4]
    have hA5 := u5.acc hA (by omega)
    have hA7 : Acc segmentR 125 (q + 1) (M6.set M5.length (.live ⟨[iv z, iv w], true, true, 125, 2⟩)) u l := by
      obtain ⟨A, n, c, e1, e2, e3⟩ := hA5
      refine ⟨A, n, c, e1, e2, e3.imp id fun ⟨i, t, ei, hi, hr⟩ => ⟨i, t, ei, hi, ?_⟩⟩
      have hlt := (List.getElem?_eq_some_iff.1 hr).1
      rw [List.getElem?_set_ne (by omega)]
      exact g6.2 _ _ (by omega) ((keeps_app _).get hr)
    refine Acc.append (R := segmentR) (e := 125) (by_ := 16) (a := ⟨z, w⟩) (hA7.keeps (keeps_app _)) (by omega) (by simp; omega) (by omega) (by simp) (by kernel_rfl) (by
      simp [srcOf, segmentR, Segment.row]
      rw [show M6.length = (M6.set M5.length (Slot.live ⟨[iv z, iv w], true, true, 125, 2⟩)).length by simp]
      unfold cellsAt
      rw [getElem?_snoc_eq]
      rfl) (by rfl) (by omega) (by unfold maxLen; omega) ?_
    intro v M8 hA8 hS8
    have n8 := hS8.1
    simp at n8
    have b8 : M8[q]? = some (.live ⟨[iv x, u, iv 0], true, true, 51, 3⟩) := hS8.2 _ _ (by omega) ((keeps_app _).get (by rw [List.getElem?_set_ne (by omega)]; exact b6))
    have z8 : M8[M.length]? = some (.live ⟨[iv 0, .slice none 0 0, iv 0], true, true, 51, 3⟩) := hS8.2 _ _ (by omega) ((keeps_app _).get (by rw [List.getElem?_set_ne (by omega)]; exact z6))
    obtain ⟨A8, m8, c8, rfl, hl8, hr8⟩ := hA8
    have p8 : putCells b M8 q 1 [.slice A8 m8 c8] = some (M8.set q (.live ⟨[iv x, .slice A8 m8 c8, iv 0], true, true, 51, 3⟩)) := put_row b8 (by omega) (by simp) rfl
    have hA9 : Acc segmentR 125 (q + 1) M8 (.slice A8 m8 c8) (l ++ [⟨z, w⟩]) := ⟨_, _, _, rfl, hl8, hr8⟩
    have hq8 : q < M8.length := by omega
    have gB : Grow g M M6 := ((g4.trans u5.grow).trans (Grow.app g M5 _)).trans g6
    simp (disch := omega) [p8, t4, wrap_in]
    refine lpI m (by omega) ⟨l ++ [⟨z, w⟩], _, k6, by simp; omega, hA9.set_ne (by omega), fun y hy => ?_, by rw [List.getElem?_set_self hq8], by rw [List.getElem?_set_ne (by omega)]; exact z8, by simp; omega,
      ((((h6.same (Same.set (by omega))).app _).same (hS8.low (by omega))).same (Same.set (by omega))), ⟨by simp; omega, fun i s hi hs => ?_⟩, by simp; omega, by simp, by simp [t3], by simp [t2], by simp [t0]⟩
    · rcases List.mem_append.1 hy with hy | hy
      · exact hs y hy
      · simp at hy
        subst hy
        simp only [segB, Bool.and_eq_true, inB_iff]
        exact ⟨hw', by omega, by omega⟩
    · have hlt := (List.getElem?_eq_some_iff.1 hs).1
      rw [List.getElem?_set_ne (by omega)]
      exact hS8.2 i _ (by omega) ((keeps_app _).get (by rw [List.getElem?_set_ne (by omega)]; exact gB.2 i s hi hs))
end Go.Proofs.Ytimijeeihicohaa

namespace Go.Proofs.Ytimijeeihicohaa
open Go.RowKit
set_option linter.unusedVariables false
set_option linter.unusedSimpArgs false
set_option maxRecDepth 100000
attribute [local simp] List.getElem?_cons_zero
attribute [local irreducible] awCond awCall awLoop awDraw ow retQ retC resQ Keeps
/-- What l22Draw gives. -/
def InR (g B k : Nat) (M : Mem) (r : Value) (M' : Mem) : Prop := ∃ (x : Inst) (us : List Value) (k' : Nat), r = .agg us.toArray ∧ instP.rd M.length M'.length M' x us ∧ us.length = 8 ∧ us.all oneV = true ∧ instB x = true ∧ k' ≤ k + 4000 ∧ Src g B M' k' ∧ Grow g M M'
theorem in_build (a e h : Int) (A1 A2 A3 A4 : Option Addr) (n1 c1 n2 c2 n3 c3 n4 c4 : Nat) : Instr.fill (fun x => [(0, 4), (4, 3), (7, 1)][x]?) #[iv 0, .slice none 0 0, .slice none 0 0, .slice none 0 0, iv 0, .slice none 0 0, iv 0, .slice none 0 0] [(0, .agg #[iv a, .slice A1 n1 c1, .slice A2 n2 c2, .slice A3 n3 c3]), (1, .agg #[iv e, .slice A4 n4 c4, iv h])] = some #[iv a, .slice A1 n1 c1, .slice A2 n2 c2, .slice A3 n3 c3, iv e, .slice A4 n4 c4, iv h, .slice none 0 0] := by
  simp [Instr.fill, Value.cells, List.zipIdx]
set_option maxHeartbeats 4000000 in
theorem l22Draw_b {M : Mem} {b g k B : Nat} (h : Src g B M k) (hb : b ≤ g) (hB : B ≤ M.length) (hk : k ≤ 10000) :
    Ctr Try.prog b 45 [.pointer (some ⟨g, 0, none⟩)] M fun r M' => InR g B k M r M' := by
  have hg := h.lt
  first | (refine ctr_fn Try.func45 rfl Try.ntmps45 Try.results45 rfl rfl (by simp) ?_) | (refine ctr_fnC Try.func45 rfl Try.ntmps45 Try.results45 rfl (by simp) ?_)
  simp
  refine awCall_ctr (one_b 2 (h.app _) hb (by omega) (by omega)) ?_
  rintro r M1 ⟨lin, k1, rfl, hk1, h1, u1⟩
  have n1 := u1.1
  simp at n1
  have z1 := u1.2 M.length _ (by omega) getElem?_snoc_eq
  have g1 : Grow g M M1 := (Grow.app g M _).trans u1.grow
  try simp
  refine awCall_ctr (l07Draw_b lin h1 hb (by omega) (by omega)) ?_
  rintro r M2 ⟨p, us, k2, rfl, ⟨w1, w2, w3, rfl, hp1, hp2, hp3⟩, hpB, hpi, hpo, hk2, h2, g2⟩
  have n2 := g2.1
  try simp
  refine awCall_ctr (l14Draw_b h2 hb (by omega) (by omega)) ?_
  rintro r M3 ⟨st, rel, eu, el', k3, rfl, hE, hst, hrel, hel, hseg, hk3, h3, g3⟩
  have n3 := g3.1
  have hp1' := hp1
  have hp2' := hp2
  have hp3' := hp3
  have hE' := hE
  obtain ⟨A1, n1', c1, rfl, -⟩ := hp1'
  obtain ⟨A2, n2', c2, rfl, -⟩ := hp2'
  obtain ⟨A3, n3', c3, rfl, -⟩ := hp3'
  obtain ⟨A4, n4', c4, rfl, -⟩ := hE'
  rw [hpi]
  simp [in_build]
  obtain ⟨q, hq⟩ : ∃ q, q = M3.length := ⟨_, rfl⟩
  rw [← hq]
  have z3 := g3.2 _ _ (by omega) (g2.2 _ _ (by omega) z1)
  have qp := put_box (b := b) (M := M3) (t := true) (e := 53) (z := 8) (cs := [iv 0, .slice none 0 0, .slice none 0 0, .slice none 0 0, iv 0, .slice none 0 0, iv 0, .slice none 0 0]) (vs := [iv 3, .slice A1 n1' c1, .slice A2 n2' c2, .slice A3 n3' c3, iv st, .slice A4 n4' c4, iv rel, .slice none 0 0]) (by omega) rfl (by simp)
  rw [← hq] at qp
  simp [qp]
  obtain ⟨M4, hM4⟩ : ∃ M4, M4 = M3 ++ [Slot.live ⟨[iv 3, .slice A1 n1' c1, .slice A2 n2' c2, .slice A3 n3' c3, iv st, .slice A4 n4' c4, iv rel, .slice none 0 0], true, true, 53, 8⟩] := ⟨_, rfl⟩
  rw [← hM4]
  have l4 : M4.length = q + 1 := by rw [hM4]; simp [hq]
  have b4 : M4[q]? = some (.live ⟨[iv 3, .slice A1 n1' c1, .slice A2 n2' c2, .slice A3 n3' c3, iv st, .slice A4 n4' c4, iv rel, .slice none 0 0], true, true, 53, 8⟩) := by rw [hM4, hq]; exact getElem?_snoc_eq
  have z4 : M4[M.length]? = some (.live ⟨[iv 0, .slice none 0 0, .slice none 0 0, .slice none 0 0, iv 0, .slice none 0 0, iv 0, .slice none 0 0], true, true, 53, 8⟩) := by rw [hM4]; exact (keeps_app _).get z3
  have g4 : Grow g M M4 := by rw [hM4]; exact ((g1.trans g2).trans g3).trans (Grow.app _ _ _)
  have h4 : Src g B M4 k3 := by rw [hM4]; exact h3.app _
  have hpat : patchP.rd (M.length + 1) q M4 p [iv 3, .slice A1 n1' c1, .slice A2 n2' c2, .slice A3 n3' c3] := by
    have ha : Agree M1.length M2.length M2 M4 := by
      rw [hM4]
      exact fun i s a b hs => (keeps_app _).get (g3.2 i s (by omega) hs)
    exact patchP.wide (patchP.agree ⟨_, _, _, by rw [hpi], hp1, hp2, hp3⟩ ha) (by omega) (by omega)
  have henv : envP.rd (M.length + 1) q M4 ⟨st, el', rel⟩ [iv st, .slice A4 n4' c4, iv rel] := by
    refine ⟨_, rfl, ?_⟩
    have := (hE.slv (by omega)).wide (lo' := M.length + 1) (hi' := q) (by omega) (by omega)
    rw [hM4]
    exact this.app _
  clear hM4 z3 z1 qp hp1 hp2 hp3 hE g1 g2 g3 h1 h2 h3 u1
  refine awLoop_T (fun m T M' => ∃ (l : List Int) (u : Value) (k' j : Nat), j + m = 12 ∧ l.length = j ∧ (∀ x, x ∈ l → smB x) ∧ Lo g q (q + 1) M4 M' ∧ M'[q]? = some (.live ⟨[iv 3, .slice A1 n1' c1, .slice A2 n2' c2, .slice A3 n3' c3, iv st, .slice A4 n4' c4, iv rel, u], true, true, 53, 8⟩) ∧ Acc intR 2 (q + 1) M' u l ∧ k' ≤ k3 + 6 * j ∧ Src g B M' k' ∧ look T 4 = some (iv j) ∧ look T 3 = some (.pointer (some ⟨q, 0, none⟩)) ∧ look T 2 = some (.pointer (some ⟨M.length, 0, none⟩)) ∧ look T 0 = some (.pointer (some ⟨g, 0, none⟩))) 12
    ⟨[], .slice none 0 0, k3, 0, by simp, rfl, fun x h => by simp at h, .refl _ _ _ _, b4, .nil, by omega, h4, by simp, by simp, by simp, by simp⟩ ?_
  rintro m T M5 ⟨l, u, k5, j, hj, hl, hs, lo5, b5, hA, hk5, h5, t4, t3, t2, t0⟩
  have n5 := lo5.1
  have l5 := (List.getElem?_eq_some_iff.1 b5).1
  rcases m with _ | m
  · have hj1 : ¬ (j : Int) < 12 := by omega
    have hj2 : ¬ j < 12 := by omega
    have hA' := hA
    obtain ⟨A5, n5', d5, rfl, -⟩ := hA'
    have c5 := cells_hr (n := 8) b5 rfl
    simp only at c5
    have z5 := lo5.2 _ _ (by omega) (by omega) (by omega) z4
    have l0 := (List.getElem?_eq_some_iff.1 z5).1
    have p6 := put_whole (b := b) (vs := [iv 3, .slice A1 n1' c1, .slice A2 n2' c2, .slice A3 n3' c3, iv st, .slice A4 n4' c4, iv rel, .slice A5 n5' d5]) z5 (by omega) rfl (by simp)
    have c6 := cells_hr (n := 8) (set_get (s := .live ⟨[iv 3, .slice A1 n1' c1, .slice A2 n2' c2, .slice A3 n3' c3, iv st, .slice A4 n4' c4, iv rel, .slice A5 n5' d5], true, true, 53, 8⟩) l0) rfl
    simp (disch := omega) [t4, t3, t2, hj1, hj2, c5, p6, c6]
    obtain ⟨Mf, hMf⟩ : ∃ Mf, Mf = M5.set M.length (.live ⟨[iv 3, .slice A1 n1' c1, .slice A2 n2' c2, .slice A3 n3' c3, iv st, .slice A4 n4' c4, iv rel, .slice A5 n5' d5], true, true, 53, 8⟩) := ⟨_, rfl⟩
    have lf : Mf.length = M5.length := by rw [hMf]; simp
    have ag : Agree (M.length + 1) q M4 Mf := fun i s a b hs => by
      rw [hMf, List.getElem?_set_ne (by omega)]
      exact lo5.2 i s (by omega) (by omega) (by omega) hs
    have hAf : Acc intR 2 (q + 1) Mf (.slice A5 n5' d5) l := by rw [hMf]; exact hA.set_ne (by omega)
    have hSf : Src g B Mf k5 := by rw [hMf]; exact h5.same (Same.set (by omega))
    have hGf : Grow g M Mf := by rw [hMf]; exact (lo5.to_grow g4 (by omega) (by omega)).set (Nat.le_refl _)
    rw [← hMf]
    clear hMf
    refine ⟨⟨p, ⟨st, el', rel⟩, l⟩, _, k5, rfl, ⟨_, _, _, rfl, patchP.wide (patchP.agree hpat ag) (by omega) (by omega), envP.wide (envP.agree henv ag) (by omega) (by omega), (hAf.slv (by omega)).wide (by omega) (Nat.le_refl _)⟩, rfl, by simp, ?_, by omega, hSf, hGf⟩
    unfold instB envB areSB
    simp only [Bool.and_eq_true, decide_eq_true_eq, List.all_eq_true]
    exact ⟨hpB, hpi, hpo, ⟨⟨⟨hseg, inB_iff.2 hst⟩, inB_iff.2 hrel⟩, by show el'.length ≤ 8; omega⟩, by show l.length = 12; omega, fun x hx => inB_iff.2 (hs x hx)⟩
  · have hj1 : (j : Int) < 12 := by omega
    have hj2 : j < 12 := by omega
    simp (disch := omega) [t4, hj1, hj2]
    refine awDraw_C [3, 4, 5, 7] (fun i v => match i with
      | 0 => v = .pointer (some ⟨q, 7, none⟩)
      | 1 => v = u
      | 2 => v = .pointer (some ⟨g, 0, none⟩)
      | 6 => v = .pointer (some ⟨q, 7, none⟩)
      | _ => True) (fun vs M' => match vs with
      | [] => M' = M5
      | [x] => ∃ (y : Int) (k' : Nat), x = iv y ∧ smB y ∧ k' ≤ k5 + 6 ∧ Src g B M' k' ∧ Grow g M5 M'
      | [_, s] => ∃ (y : Int) (k' : Nat) (M6 : Mem), s = .slice (some ⟨M6.length, 0, none⟩) 1 1 ∧ smB y ∧ k' ≤ k5 + 6 ∧ Src g B M6 k' ∧ Grow g M5 M6 ∧ M' = M6 ++ [.live ⟨[iv y], true, true, 2, 1⟩]
      | [_, _, w] => ∃ (y : Int) (k' : Nat), smB y ∧ k' ≤ k5 + 6 ∧ Src g B M' k' ∧ Lo g q (q + 1) M4 M' ∧ M'[q]? = some (.live ⟨[iv 3, .slice A1 n1' c1, .slice A2 n2' c2, .slice A3 n3' c3, iv st, .slice A4 n4' c4, iv rel, u], true, true, 53, 8⟩) ∧ Acc intR 2 (q + 1) M' w (l ++ [y])
      | [_, _, _, _] => ∃ (y : Int) (w : Value) (k' : Nat), smB y ∧ k' ≤ k5 + 6 ∧ Src g B M' k' ∧ Lo g q (q + 1) M4 M' ∧ M'[q]? = some (.live ⟨[iv 3, .slice A1 n1' c1, .slice A2 n2' c2, .slice A3 n3' c3, iv st, .slice A4 n4' c4, iv rel, w], true, true, 53, 8⟩) ∧ Acc intR 2 (q + 1) M' w (l ++ [y])
      | _ => False) (by kernel_rfl) (by decide +kernel) (by decide +kernel) (by decide +kernel) rfl ?_ ?_ ?_
    · intro i o T' M4' vs K hi ho hΨ hlate hp hf' hK
      have f0' : look T' 0 = some (.pointer (some ⟨g, 0, none⟩)) := by rw [hf' 0 (by decide +kernel)]; simp [t0]
      have f3' : look T' 3 = some (.pointer (some ⟨q, 0, none⟩)) := by rw [hf' 3 (by decide +kernel)]; simp [t3]
      rcases i with _ | _ | _ | _ | _ | _ | _ | _ | i
      · simp at ho; subst ho
        simp [f3']
        exact hK _ rfl
      · obtain ⟨v, d, q1, -⟩ := hp 0 16 (by decide +kernel) rfl
        rw [q1 (by decide)] at d
        have hlt := hlate 2 5 rfl (by decide +kernel)
        have hc : cellAt M4' q 7 = some u := by
          match vs, hΨ, hlt with
          | [], hΨ, _ => rw [hΨ]; exact cell_hr b5 7
          | [x], ⟨y, k', _, _, _, _, u4⟩, _ => exact cell_hr (u4.2 _ _ (by omega) b5) 7
          | [x, s], ⟨y, k', M6, _, _, _, _, u4, e⟩, _ =>
            rw [e]
            exact cell_hr ((keeps_app _).get (u4.2 _ _ (by omega) b5)) 7
        simp at ho; subst ho
        simp [d, hc]
        exact hK _ rfl
      · simp at ho; subst ho
        simp [f0']
        exact hK _ rfl
      · cases hi
      · cases hi
      · cases hi
      · simp at ho; subst ho
        simp [f3']
        exact hK _ rfl
      · cases hi
      · simp at ho
    · intro i i' o T' M4' vs K hi ho hΨ hlen hp hf' hK
      rcases i with _ | _ | _ | _ | i
      · obtain rfl : 3 = i' := by simpa using hi
        obtain rfl := List.eq_nil_of_length_eq_zero hlen
        obtain ⟨v4, d4, q4, -⟩ := hp 2 18 (by decide +kernel) rfl
        rw [q4 (by decide)] at d4
        replace hΨ : M4' = M5 := hΨ
        subst hΨ
        simp at ho; subst ho
        simp [d4]
        refine awCall_ctr (l01Draw_b h5 hb (by omega) (by omega)) ?_
        rintro r M13 ⟨y, k13, rfl, hy, hk13, h13, u13⟩
        exact hK _ _ ⟨y, k13, rfl, hy, hk13, h13, u13⟩
      · obtain rfl : 4 = i' := by simpa using hi
        obtain ⟨x, rfl⟩ : ∃ x, vs = [x] := by match vs, hlen with | [x], _ => exact ⟨x, rfl⟩
        obtain ⟨v7, d7, -, q7⟩ := hp 3 19 (by decide +kernel) rfl
        obtain rfl : x = v7 := by simpa using q7 0 rfl
        obtain ⟨y, k', rfl, hy, hk', h4', u4⟩ := hΨ
        simp at ho; subst ho
        simp [d7, fill1]
        exact hK _ _ ⟨y, k', M4', rfl, hy, hk', h4', u4, rfl⟩
      · obtain rfl : 5 = i' := by simpa using hi
        obtain ⟨x, s, rfl⟩ : ∃ x s, vs = [x, s] := by match vs, hlen with | [x, s], _ => exact ⟨x, s, rfl⟩
        obtain ⟨v1, d1, q1, -⟩ := hp 1 17 (by decide +kernel) rfl
        rw [q1 (by decide)] at d1
        obtain ⟨v8, d8, -, q8⟩ := hp 4 20 (by decide +kernel) rfl
        obtain rfl : s = v8 := by simpa using q8 1 rfl
        obtain ⟨y, k', M6, rfl, hy, hk', h4', u4, rfl⟩ := hΨ
        have n4' := u4.1
        simp at ho; subst ho
        simp [d1, d8]
        refine (((u4.acc hA (by omega)).keeps (keeps_app _)).append (a := y) (e := 2) (by_ := 8) (by omega) (by simp; omega) (by omega) (by simp) (by kernel_rfl) (by simp [srcOf, intR]) (by rfl) (by omega) (by unfold maxLen; omega) ?_)
        intro v' M7 a1 a2
        exact hK _ _ ⟨y, k', hy, hk', (h4'.app _).same (a2.low (by omega)), ((lo5.grow u4).grow (Grow.app g M6 _)).same a2, a2.2 _ _ (by omega) ((keeps_app _).get (u4.2 _ _ (by omega) b5)), a1⟩
      · obtain rfl : 7 = i' := by simpa using hi
        obtain ⟨x, s, w, rfl⟩ : ∃ x s w, vs = [x, s, w] := by match vs, hlen with | [x, s, w], _ => exact ⟨x, s, w, rfl⟩
        obtain ⟨v9, d9, -, q9⟩ := hp 5 21 (by decide +kernel) rfl
        obtain rfl : w = v9 := by simpa using q9 2 rfl
        obtain ⟨v10, d10, q10, -⟩ := hp 6 22 (by decide +kernel) rfl
        rw [q10 (by decide)] at d10
        obtain ⟨y, k', hy, hk', h4', lo4, b4', a1⟩ := hΨ
        have ow : oneV w = true := by obtain ⟨_, _, _, e, _⟩ := a1; rw [e]; rfl
        have p8 : putCells b M4' q 7 [w] = some (M4'.set q (.live ⟨[iv 3, .slice A1 n1' c1, .slice A2 n2' c2, .slice A3 n3' c3, iv st, .slice A4 n4' c4, iv rel, w], true, true, 53, 8⟩)) := put_row b4' (by omega) (by simp) ow
        have lq4 := (List.getElem?_eq_some_iff.1 b4').1
        obtain ⟨A9, m9, c9, rfl, _⟩ := id a1
        simp at ho; subst ho
        simp [d9, d10, p8]
        exact hK _ _ ⟨y, _, k', hy, hk', h4'.same (Same.set (by omega)), lo4.set, set_get lq4, a1.set_ne (by omega)⟩
      · simp at hi
    · intro T' M4' vs hlen hΨ hp hf'
      have f0' : look T' 0 = some (.pointer (some ⟨g, 0, none⟩)) := by rw [hf' 0 (by decide +kernel)]; simp [t0]
      have f2' : look T' 2 = some (.pointer (some ⟨M.length, 0, none⟩)) := by rw [hf' 2 (by decide +kernel)]; simp [t2]
      have f3' : look T' 3 = some (.pointer (some ⟨q, 0, none⟩)) := by rw [hf' 3 (by decide +kernel)]; simp [t3]
      have f4' : look T' 4 = some (iv j) := by rw [hf' 4 (by decide +kernel)]; simp [t4]
      obtain ⟨x, s, w', e8, rfl⟩ : ∃ x s w e8, vs = [x, s, w, e8] := by match vs, hlen with | [x, s, w, e8], _ => exact ⟨x, s, w, e8, rfl⟩
      obtain ⟨y, w, k', hy, hk', h4', lo4, b4', a1⟩ := hΨ
      simp (disch := omega) [f4', wrap_in]
      refine lpI m (by omega) ⟨l ++ [y], w, k', j + 1, by omega, by simp [hl], fun x hx => ?_, lo4, b4', a1, by omega, h4', by simp, by simp [f3'], by simp [f2'], by simp [f0']⟩
      rcases List.mem_append.1 hx with hx | hx
      · exact hs x hx
      · simp at hx; subst hx; exact hy
theorem Keeps.set_new {M M' : Mem} {i : Nat} {s : Slot} (h : Keeps M M') (hi : M.length ≤ i) : Keeps M (M'.set i s) := keeps_set h hi
/-- An instrument out of a code. -/
theorem E8Instrument_b {M : Mem} {A : Option Addr} {n c : Nat} {cs : List Int} (h : Sl codeR M A n cs) (hn : n ≤ 1048576) (hcs : ∀ x, x ∈ cs → 0 ≤ x ∧ x ≤ 255) :
    Ctr Try.prog M.length 18 [.slice A n c] M fun r M' => ∃ (x : Inst) (us : List Value), r = .agg us.toArray ∧ instP.rd M.length M'.length M' x us ∧ us.length = 8 ∧ us.all oneV = true ∧ instB x = true ∧ Keeps M M' := by
  first | (refine ctr_fn Try.func18 rfl Try.ntmps18 Try.results18 rfl rfl (by simp) ?_) | (refine ctr_fnC Try.func18 rfl Try.ntmps18 Try.results18 rfl (by simp) ?_)
  simp
  obtain ⟨M0, hM0⟩ : ∃ M0 : Mem, M0 = M ++ [Slot.live ⟨[iv 0, .slice none 0 0, .slice none 0 0, .slice none 0 0, iv 0, .slice none 0 0, iv 0, .slice none 0 0], true, true, 53, 8⟩] := ⟨_, rfl⟩
  rw [← hM0]
  have h0 : Sl codeR M0 A n cs := by rw [hM0]; exact h.app _
  have l0 : M0.length = M.length + 1 := by rw [hM0]; simp
  have k0 : Keeps M M0 := by rw [hM0]; exact keeps_app _
  have b0 : M0[M.length]? = some (.live ⟨[iv 0, .slice none 0 0, .slice none 0 0, .slice none 0 0, iv 0, .slice none 0 0, iv 0, .slice none 0 0], true, true, 53, 8⟩) := by rw [hM0]; exact getElem?_snoc_eq
  clear hM0
  refine awCall_det' (l00From_a h0 hn hcs) (by omega) ?_
  try simp
  refine awCall_ctr (l22Draw_b (b := M.length) (src_new h0 hn hcs) (by omega) (by simp) (by omega)) ?_
  rintro r M1 ⟨x, us, k', rfl, hr, h8, h1, hx, -, -, g1⟩
  have n1 := g1.1
  simp at n1
  have b1 := g1.2 _ _ (by omega) ((keeps_app _).get b0)
  have p1 := put_whole (b := M.length) (vs := us) b1 (Nat.le_refl _) h8 h1
  have c1 := cells_hr (n := 8) (set_get (s := .live ⟨us, true, true, 53, 8⟩) (List.getElem?_eq_some_iff.1 b1).1) (by simp [h8])
  have kk : Keeps M M1 := by
    unfold Keeps
    exact fun i s hs => by
      have := (List.getElem?_eq_some_iff.1 hs).1
      exact g1.2 i s (by omega) ((keeps_app _).get (k0.get hs))
  simp [h8, p1, c1]
  refine ⟨x, instP.wide (instP.agree hr fun i s a b hs => ?_) (by simp; omega) (Nat.le_refl _), by simpa using h1, hx, kk.set_new (Nat.le_refl _)⟩
  simp at a
  rw [List.getElem?_set_ne (by omega)]
  exact hs
end Go.Proofs.Ytimijeeihicohaa

namespace Go.Proofs.Ytimijeeihicohaa
open Go.RowKit
set_option linter.unusedVariables false
set_option linter.unusedSimpArgs false
set_option maxRecDepth 100000
attribute [local simp] List.getElem?_cons_zero
attribute [local irreducible] awCond awCall awLoop awDraw ow retQ retC resQ Keeps
structure Gate where
  (o s e k u : Int)
deriving Inhabited, DecidableEq
def Gate.row (c : Gate) : List Value := [iv c.o, iv c.s, iv c.e, iv c.k, iv c.u]
def gateR : RecV Gate 5 := ⟨Gate.row, fun _ => rfl⟩
abbrev Gate.v (c : Gate) : Value := .agg #[iv c.o, iv c.s, iv c.e, iv c.k, iv c.u]
theorem gate_cells {M : Mem} {id off : Nat} {g : Gate} (h : Cl M id off g.row) : cellAt M id off = some (iv g.o) ∧ cellAt M id (off + 1) = some (iv g.s) ∧ cellAt M id (off + 2) = some (iv g.e) ∧ cellAt M id (off + 3) = some (iv g.k) ∧ cellAt M id (off + 4) = some (iv g.u) :=
  ⟨h 0 _ rfl, h 1 _ rfl, h 2 _ rfl, h 3 _ rfl, h 4 _ rfl⟩
theorem gate_load {M : Mem} {id off : Nat} {g : Gate} (h : Cl M id off g.row) : cellsAt M id off 5 = some [iv g.o, iv g.s, iv g.e, iv g.k, iv g.u] := cellsAt_of h rfl (by omega)
@[simp] theorem gate_fill (x0 x1 x2 x3 x4 : Int) : Instr.fill (fun i => some (i * 5, 5)) (zrow [iv 0, iv 0, iv 0, iv 0, iv 0] 1).toArray [(0, .agg #[iv x0, iv x1, iv x2, iv x3, iv x4])] = some #[iv x0, iv x1, iv x2, iv x3, iv x4] := fill_agg (by omega) rfl rfl
end Go.Proofs.Ytimijeeihicohaa

namespace Go.Proofs.Ytimijeeihicohaa
open Go.RowKit
set_option linter.unusedVariables false
set_option linter.unusedSimpArgs false
set_option maxRecDepth 100000
attribute [local simp] List.getElem?_cons_zero
attribute [local irreducible] awCond awCall awLoop awDraw ow retQ retC resQ Keeps
def gateB (g : Gate) : Bool := inB g.o 0 3 && decide (0 ≤ g.s) && decide (g.s < g.e) && decide (g.e ≤ 4000) && inB g.k 0 127 && inB g.u 1 127
theorem l21Gate_a {M : Mem} {id off : Nat} {g : Gate} (h : Cl M id off g.row) : Det Try.prog M.length 72 [.pointer (some ⟨id, off, none⟩)] M (.bool (gateB g)) M := by
  obtain ⟨h0, h1, h2, h3, h4⟩ := gate_cells h
  first | (refine det_fn Try.func72 rfl Try.ntmps72 Try.results72 rfl rfl rfl (by simp) ?_) | (refine det_fnC Try.func72 rfl Try.ntmps72 Try.results72 rfl rfl (by simp) ?_)
  simp
  refine awDraw_E 21 [[],[0],[1,0],[2,1,0],[3,2,1,0],[4,3,2,1,0],[5,4,3,2,1,0],[6,5,4,3,2,1,0],[7,6,5,4,3,2,1,0],[8,7,6,5,4,3,2,1,0],[9,8,7,6,5,4,3,2,1,0],[5,4,3,2,1,0,10,9,8,7,6],[11,5,4,3,2,1,0,10,9,8,7,6],[12,11,5,4,3,2,1,0,10,9,8,7,6],[13,12,11,5,4,3,2,1,0,10,9,8,7,6],[14,13,12,11,5,4,3,2,1,0,10,9,8,7,6],[15,14,13,12,11,5,4,3,2,1,0,10,9,8,7,6],[12,11,5,4,3,2,1,0,10,9,8,7,6],[17,12,11,5,4,3,2,1,0,10,9,8,7,6],[18,17,12,11,5,4,3,2,1,0,10,9,8,7,6],[19,18,17,12,11,5,4,3,2,1,0,10,9,8,7,6],[16,15,14,13,12,11,5,4,3,2,1,0,10,9,8,7,6,20,19,18,17],[12,11,5,4,3,2,1,0,10,9,8,7,6,21,16,15,14,13,20,19,18,17],[22,12,11,5,4,3,2,1,0,10,9,8,7,6,21,16,15,14,13,20,19,18,17],[23,22,12,11,5,4,3,2,1,0,10,9,8,7,6,21,16,15,14,13,20,19,18,17],[24,23,22,12,11,5,4,3,2,1,0,10,9,8,7,6,21,16,15,14,13,20,19,18,17],[25,24,23,22,12,11,5,4,3,2,1,0,10,9,8,7,6,21,16,15,14,13,20,19,18,17],[26,25,24,23,22,12,11,5,4,3,2,1,0,10,9,8,7,6,21,16,15,14,13,20,19,18,17],[27,26,25,24,23,22,12,11,5,4,3,2,1,0,10,9,8,7,6,21,16,15,14,13,20,19,18,17],[23,22,12,11,5,4,3,2,1,0,10,9,8,7,6,21,16,15,14,13,20,19,18,17,28,27,26,25,24],[29,23,22,12,11,5,4,3,2,1,0,10,9,8,7,6,21,16,15,14,13,20,19,18,17,28,27,26,25,24],[30,29,23,22,12,11,5,4,3,2,1,0,10,9,8,7,6,21,16,15,14,13,20,19,18,17,28,27,26,25,24],[31,30,29,23,22,12,11,5,4,3,2,1,0,10,9,8,7,6,21,16,15,14,13,20,19,18,17,28,27,26,25,24],[32,31,30,29,23,22,12,11,5,4,3,2,1,0,10,9,8,7,6,21,16,15,14,13,20,19,18,17,28,27,26,25,24],[33,32,31,30,29,23,22,12,11,5,4,3,2,1,0,10,9,8,7,6,21,16,15,14,13,20,19,18,17,28,27,26,25,24],[34,33,32,31,30,29,23,22,12,11,5,4,3,2,1,0,10,9,8,7,6,21,16,15,14,13,20,19,18,17,28,27,26,25,24],[30,29,23,22,12,11,5,4,3,2,1,0,10,9,8,7,6,21,16,15,14,13,20,19,18,17,28,27,26,25,24,35,34,33,32,31],[36,30,29,23,22,12,11,5,4,3,2,1,0,10,9,8,7,6,21,16,15,14,13,20,19,18,17,28,27,26,25,24,35,34,33,32,31],[37,36,30,29,23,22,12,11,5,4,3,2,1,0,10,9,8,7,6,21,16,15,14,13,20,19,18,17,28,27,26,25,24,35,34,33,32,31],[38,37,36,30,29,23,22,12,11,5,4,3,2,1,0,10,9,8,7,6,21,16,15,14,13,20,19,18,17,28,27,26,25,24,35,34,33,32,31],[39,38,37,36,30,29,23,22,12,11,5,4,3,2,1,0,10,9,8,7,6,21,16,15,14,13,20,19,18,17,28,27,26,25,24,35,34,33,32,31],[40,39,38,37,36,30,29,23,22,12,11,5,4,3,2,1,0,10,9,8,7,6,21,16,15,14,13,20,19,18,17,28,27,26,25,24,35,34,33,32,31],[41,40,39,38,37,36,30,29,23,22,12,11,5,4,3,2,1,0,10,9,8,7,6,21,16,15,14,13,20,19,18,17,28,27,26,25,24,35,34,33,32,31],[37,36,30,29,23,22,12,11,5,4,3,2,1,0,10,9,8,7,6,21,16,15,14,13,20,19,18,17,28,27,26,25,24,35,34,33,32,31,42,41,40,39,38],[43,37,36,30,29,23,22,12,11,5,4,3,2,1,0,10,9,8,7,6,21,16,15,14,13,20,19,18,17,28,27,26,25,24,35,34,33,32,31,42,41,40,39,38]] (by kernel_rfl) (by kernel_rfl) ?_
  simp [h0]
  refine awCall_det' (l00In_a _ _ _) (by simp) ?_
  simp
  repeat' (first | (refine guardV_split ?_ ?_ <;> intro _) | (refine awCall_det' (l00In_a _ _ _) (by simp) ?_) | (simp [*]))
  all_goals (simp_all [gateB, Keeps.refl] <;> omega)
theorem isGate_a {M : Mem} (g : Gate) : Det Try.prog M.length 105 [g.v] M (.bool (gateB g)) M := by
  first | (refine det_fn Try.func105 rfl Try.ntmps105 Try.results105 rfl rfl rfl (by simp) ?_) | (refine det_fnC Try.func105 rfl Try.ntmps105 Try.results105 rfl rfl (by simp) ?_)
  simp
  repeat' (first | (refine guardV_split ?_ ?_ <;> intro _) | (refine awCall_det' (isVoice_a _) (by simp) ?_) | (refine awCall_det' (isKey_a _) (by simp) ?_) | (refine awCall_det' (within_a _ _ _) (by simp) ?_) | (simp [*]))
  all_goals (simp_all [gateB, keeps_app] <;> omega)
def okG (l : List Gate) : Bool := decide (∀ i, i < l.length → gateB (el l i) = true ∧ (0 < i → (el l (i - 1)).s ≤ (el l i).s)) && decide (l.length ≤ 60)
theorem okG_of {l : List Gate} (h : ∀ i, i < l.length → gateB (el l i) = true ∧ (0 < i → (el l (i - 1)).s ≤ (el l i).s)) : okG l = decide (l.length ≤ 60) := by
  unfold okG; rw [decide_eq_true h, Bool.true_and]
theorem okG_not {l : List Gate} {i : Nat} (hi : i < l.length) (h : ¬ (gateB (el l i) = true ∧ (0 < i → (el l (i - 1)).s ≤ (el l i).s))) : okG l = false := by
  unfold okG; rw [decide_eq_false (fun h' => h (h' i hi)), Bool.false_and]
theorem l21Ok_a {M : Mem} {A : Option Addr} {n c : Nat} {l : List Gate} (h : Sl gateR M A n l) (hn : n ≤ 4611686018427387904) : Det Try.prog M.length 46 [.slice A n c] M (.bool (okG l)) M := by
  have hl := h.1
  first | (refine det_fn Try.func46 rfl Try.ntmps46 Try.results46 rfl rfl rfl (by simp) ?_) | (refine det_fnC Try.func46 rfl Try.ntmps46 Try.results46 rfl rfl (by simp) ?_)
  simp
  refine awLoop_T (fun m T M' => ∃ k : Nat, k + m = n ∧ M' = M ∧ look T 3 = some (iv k) ∧ look T 0 = some (.slice A n c) ∧ ∀ i, i < k → gateB (el l i) = true ∧ (0 < i → (el l (i - 1)).s ≤ (el l i).s)) n ⟨0, by omega, rfl, by simp, by simp, by omega⟩ ?_
  rintro m T M' ⟨k, hm, rfl, h3, h0, hk⟩
  by_cases hlt : k < n
  · obtain ⟨id, off, rfl, he, hc⟩ := h.at_ hlt
    obtain ⟨c0, c1, c2, c3, c4⟩ := gate_cells hc
    simp (disch := omega) [h3, h0, hlt, wrap_in]
    refine awDraw_E 20 [[],[],[0,1],[2,0,1],[3,2,0,1],[4,3,2,0,1],[5,4,3,2,0,1],[6,5,4,3,2,0,1],[7,6,5,4,3,2,0,1],[8,7,6,5,4,3,2,0,1],[8,7,6,5,4,3,2,0,1],[10,8,7,6,5,4,3,2,0,1],[9,8,7,6,5,4,3,2,0,1,11,10],[12,9,8,7,6,5,4,3,2,0,1,11,10],[13,12,9,8,7,6,5,4,3,2,0,1,11,10],[8,7,6,5,4,3,2,0,1],[8,7,6,5,4,3,2,0,1],[15,8,7,6,5,4,3,2,0,1,16],[17,15,8,7,6,5,4,3,2,0,1,16],[18,17,15,8,7,6,5,4,3,2,0,1,16],[14,13,12,9,8,7,6,5,4,3,2,0,1,11,10,19,18,17,15,16],[8,7,6,5,4,3,2,0,1,20,14,13,12,9,11,10,19,18,17,15,16],[5,4,3,2,0,1,21,8,7,6,20,14,13,12,9,11,10,19,18,17,15,16]] (by kernel_rfl) (by kernel_rfl) ?_
    simp (disch := omega) [h3, h0, hlt, wrap_in]
    refine awCall_det' (l21Gate_a hc) (by simp) ?_
    have hkl : k < l.length := by omega
    simp
    cases hg : gateB (el l k)
    · simp (disch := omega) [h3, hg]
      rw [okG_not hkl (by simp [hg])]
      simp [Keeps.refl]
    · simp (disch := omega) [h3, hg]
      rcases k with _ | j
      · simp (disch := omega) [h3, h0, wrap_in]
        refine lpI (m - 1) (by omega) ?_
        refine ⟨1, by omega, rfl, by simp, by simp [h0], ?_⟩
        intro i hi
        obtain rfl : i = 0 := by omega
        simp [hg]
      · obtain ⟨_, _, he', _, hc'⟩ := h.at_ (i := j) (by omega)
        cases he'
        obtain ⟨_, d1, _⟩ := gate_cells hc'
        simp (disch := omega) [h0, h3, wrap_in, c1, d1]
        refine ⟨by omega, by omega, ?_⟩
        refine awCond_split ?_ ?_ <;> intro hs
        · simp at hs
          simp
          rw [okG_not hkl (by simp; omega)]
          simp [Keeps.refl]
        · simp at hs
          simp (disch := omega) [h3, h0, wrap_in]
          refine lpI (m - 1) (by omega) ?_
          refine ⟨j + 1 + 1, by omega, rfl, by simp, by simp [h0], ?_⟩
          intro i hi
          by_cases hi' : i < j + 1
          · exact hk i hi'
          · obtain rfl : i = j + 1 := by omega
            simp [hg, hs]
  · obtain rfl : k = n := by omega
    simp [h3, h0]
    rw [okG_of (by rw [hl]; exact hk), hl]
    simp [Keeps.refl]
    omega
theorem areGates_a {M : Mem} {A : Option Addr} {n c : Nat} {l : List Gate} (h : Sl gateR M A n l) (hn : n ≤ 4611686018427387904) : Det Try.prog M.length 75 [.slice A n c] M (.bool (okG l)) M := by
  have hl := h.1
  first | (refine det_fn Try.func75 rfl Try.ntmps75 Try.results75 rfl rfl rfl (by simp) ?_) | (refine det_fnC Try.func75 rfl Try.ntmps75 Try.results75 rfl rfl (by simp) ?_)
  simp
  refine awLoop_T (fun m T M' => ∃ k : Nat, k + m = n ∧ Keeps M M' ∧ look T 7 = some (iv k) ∧ look T 6 = some (iv n) ∧ look T 5 = some (.slice A n c) ∧ look T 0 = some (.slice A n c) ∧ ∀ i, i < k → gateB (el l i) = true ∧ (0 < i → (el l (i - 1)).s ≤ (el l i).s)) n ⟨0, by omega, Keeps.refl _, by simp, by simp, by simp, by simp, by omega⟩ ?_
  rintro m T M' ⟨k, hm, hK, h7, h6, h5, h0, hk⟩
  by_cases hlt : k < n
  · have h' := h.keeps hK
    have hKl := hK.len
    obtain ⟨id, off, rfl, he, hc⟩ := h'.at_ hlt
    obtain ⟨c0, c1, c2, c3, c4⟩ := gate_cells hc
    have hkl : k < l.length := by omega
    simp (disch := omega) [h7, h6, h5, h0, hlt, wrap_in, gate_load hc]
    refine awDraw_E 15 [[],[0],[1,0],[2,1,0],[3,2,1,0],[4,3,2,1,0],[5,4,3,2,1,0],[6,5,4,3,2,1,0],[7,6,5,4,3,2,1,0],[6,5,4,3,2,1,0],[6,5,4,3,2,1,0],[10,6,5,4,3,2,1,0],[9,6,5,4,3,2,1,0,11,10],[12,9,6,5,4,3,2,1,0,11,10],[13,12,9,6,5,4,3,2,1,0,11,10],[8,7,6,5,4,3,2,1,0,14,13,12,9,11,10],[6,5,4,3,2,1,0,15,8,7,14,13,12,9,11,10],[3,2,1,0,16,6,5,4,15,8,7,14,13,12,9,11,10]] (by kernel_rfl) (by kernel_rfl) ?_
    simp (disch := omega) [h7, h6, h5, h0, hlt, wrap_in]
    refine awCall_det' (isGate_a (el l k)) (by simp <;> omega) ?_
    simp
    cases hg : gateB (el l k)
    · simp (disch := omega) [h0, h7, hg]
      rw [okG_not hkl (by simp [hg])]
      simp [hK.app]
    · simp (disch := omega) [h0, h7, hg]
      rcases k with _ | j
      · simp (disch := omega) [h7, h6, h5, h0, wrap_in]
        refine lpI (m - 1) (by omega) ?_
        refine ⟨1, by omega, hK.app _, by simp, by simp [h6], by simp [h5], by simp [h0], ?_⟩
        intro i hi
        obtain rfl : i = 0 := by omega
        simp [hg]
      · obtain ⟨_, _, he', _, hc'⟩ := h'.at_ (i := j) (by omega)
        cases he'
        obtain ⟨_, d1, _⟩ := gate_cells hc'
        simp (disch := omega) [h0, h7, wrap_in, cellAt_app c1, cellAt_app d1, rowEsz_keeps (keeps_app _) he]
        refine ⟨by omega, ?_⟩
        refine awCond_split ?_ ?_ <;> intro hs
        · simp at hs
          simp
          rw [okG_not hkl (by simp; omega)]
          simp [hK.app]
        · simp at hs
          simp (disch := omega) [h7, h6, h5, h0, wrap_in]
          refine lpI (m - 1) (by omega) ?_
          refine ⟨j + 1 + 1, by omega, hK.app _, by simp, by simp [h6], by simp [h5], by simp [h0], ?_⟩
          intro i hi
          by_cases hi' : i < j + 1
          · exact hk i hi'
          · obtain rfl : i = j + 1 := by omega
            simp [hg, hs]
  · obtain rfl : k = n := by omega
    simp [h7, h6, h5, h0]
    rw [okG_of (by rw [hl]; exact hk), hl]
    simp [hK]
    try omega
















end Go.Proofs.Ytimijeeihicohaa

namespace Go.Proofs.Ytimijeeihicohaa
open Go.RowKit
set_option linter.unusedVariables false
set_option linter.unusedSimpArgs false
set_option maxRecDepth 100000
attribute [local simp] List.getElem?_cons_zero
attribute [local irreducible] awCond awCall awLoop awDraw ow retQ retC resQ Keeps











































































end Go.Proofs.Ytimijeeihicohaa

namespace Go.Proofs.Ytimijeeihicohaa
open Go.RowKit
set_option linter.unusedVariables false
set_option linter.unusedSimpArgs false
set_option maxRecDepth 100000
attribute [local simp] List.getElem?_cons_zero
attribute [local irreducible] awCond awCall awLoop awDraw ow retQ retC resQ Keeps
def playB (l : List Gate) : Bool := decide (∀ i, i < l.length → ∀ k, k < i → ¬ ((el l k).o = (el l i).o ∧ (el l i).s < (el l k).e))
theorem playB_not {l : List Gate} {i k : Nat} (hi : i < l.length) (hk : k < i) (h : (el l k).o = (el l i).o ∧ (el l i).s < (el l k).e) : playB l = false := decide_eq_false fun h' => h' i hi k hk h



















































theorem arePlayable_a {M : Mem} {A : Option Addr} {n c : Nat} {l : List Gate} (h : Sl gateR M A n l) (hn : n ≤ 1099511627776) : Det Try.prog M.length 77 [.slice A n c] M (.bool (playB l && okG l)) M := by
  have hl := h.1
  first | (refine det_fn Try.func77 rfl Try.ntmps77 Try.results77 rfl rfl rfl (by simp) ?_) | (refine det_fnC Try.func77 rfl Try.ntmps77 Try.results77 rfl rfl (by simp) ?_)
  simp
  refine awLoop_T (fun m T M' => ∃ i : Nat, i + m = n ∧ Keeps M M' ∧ look T 9 = some (iv i) ∧ look T 8 = some (iv n) ∧ look T 7 = some (.slice A n c) ∧ look T 0 = some (.slice A n c) ∧ ∀ j, j < i → ∀ k, j < k → k < n → ¬ ((el l j).o = (el l k).o ∧ (el l k).s < (el l j).e)) n ⟨0, by omega, Keeps.refl _, by simp, by simp, by simp, by simp, by omega⟩ ?_
  rintro m T M' ⟨i, hm, hK, h9, h8, h7, h0, hi⟩
  by_cases hlt : i < n
  · have h' := h.keeps hK
    have hKl := hK.len
    obtain ⟨id, off, rfl, he, hc⟩ := h'.at_ hlt
    simp (disch := omega) [h9, h8, h7, h0, hlt, wrap_in, gate_load hc]
    refine ⟨by omega, rowEsz_keeps (keeps_app _) he, ?_⟩
    have hB := keeps_app (M := M') [.live ⟨[iv (el l i).o, iv (el l i).s, iv (el l i).e, iv (el l i).k, iv (el l i).u], true, true, 63, 5⟩]
    refine awLoop_T (fun m T M2 => ∃ k : Nat, k + m = n - (i + 1) ∧ Keeps M M2 ∧ Keeps (M' ++ [.live ⟨[iv (el l i).o, iv (el l i).s, iv (el l i).e, iv (el l i).k, iv (el l i).u], true, true, 63, 5⟩]) M2 ∧ look T 19 = some (iv k) ∧ look T 18 = some (iv ((n - (i + 1) : Nat) : Int)) ∧ look T 17 = some (.slice (some ⟨id, off + (i + 1) * 5, none⟩) (n - (i + 1)) (n - (i + 1))) ∧ look T 4 = some (.pointer (some ⟨M'.length, 0, none⟩)) ∧
      look T 9 = some (iv i) ∧ look T 8 = some (iv n) ∧ look T 7 = some (.slice (some ⟨id, off, none⟩) n c) ∧ look T 0 = some (.slice (some ⟨id, off, none⟩) n c) ∧ ∀ j, i < j → j ≤ i + k → ¬ ((el l i).o = (el l j).o ∧ (el l j).s < (el l i).e)) (n - (i + 1)) ⟨0, by omega, hK.trans hB, Keeps.refl _, by simp, by simp, by simp, by simp, by simp [h9], by simp [h8], by simp [h7], by simp [h0], by omega⟩ ?_
    rintro m2 T2 M2 ⟨k, hm2, hK2, hK3, g19, g18, g17, g4, g9, g8, g7, g0, hk⟩
    have hKl2 := hK2.len
    have hKl3 := hK3.len
    by_cases hki : k < n - (i + 1)
    · obtain ⟨_, _, e, he2, hc2⟩ := (h.keeps hK2).at_ (i := i + 1 + k) (by omega)
      cases e
      have c0 : cellAt M2 M'.length 0 = some (iv (el l i).o) := cellAt_keeps hK3 (by simp)
      have c2 : cellAt M2 M'.length 2 = some (iv (el l i).e) := cellAt_keeps hK3 (by simp)
      rw [Nat.add_mul, ← Nat.add_assoc] at hc2
      simp (disch := omega) [g19, g18, g17, g4, g9, g8, g7, g0, hki, wrap_in, gate_load hc2, he2, cellAt_app c0, cellAt_app c2]
      refine guardV_split ?_ ?_ <;> intro hp <;> simp at hp
      · simp (disch := omega) [g4, cellAt_app c0, cellAt_app c2, hp]
        refine awCond_split ?_ ?_ <;> intro hq <;> simp at hq
        · simp
          rw [playB_not (i := i + 1 + k) (k := i) (by omega) (by omega) ⟨hp, hq⟩]
          exact ⟨by simp, hK2.app _⟩
        · simp (disch := omega) [g19, g18, g17, g4, g9, g8, g7, g0, wrap_in]
          refine lpI (m2 - 1) (by omega) ?_
          refine ⟨k + 1, by omega, hK2.app _, hK3.app _, by simp, by simp [g18], by simp [g17], by simp [g4], by simp [g9], by simp [g8], by simp [g7], by simp [g0], fun j hj hj2 => ?_⟩
          by_cases hjk : j ≤ i + k
          · exact hk j hj hjk
          · obtain rfl : j = i + 1 + k := by omega
            omega
      · simp (disch := omega) [g19, g18, g17, g4, g9, g8, g7, g0, wrap_in, hp]
        refine lpI (m2 - 1) (by omega) ?_
        refine ⟨k + 1, by omega, hK2.app _, hK3.app _, by simp, by simp [g18], by simp [g17], by simp [g4], by simp [g9], by simp [g8], by simp [g7], by simp [g0], fun j hj hj2 => ?_⟩
        by_cases hjk : j ≤ i + k
        · exact hk j hj hjk
        · obtain rfl : j = i + 1 + k := by omega
          omega
    · obtain rfl : k = n - (i + 1) := by omega
      simp (disch := omega) [g19, g18, g17, g4, g9, g8, g7, g0, wrap_in]
      refine lpI (m - 1) (by omega) ?_
      refine ⟨i + 1, by omega, hK2, by simp, by simp [g8], by simp [g7], by simp [g0], fun j hj k hk1 hk2 => ?_⟩
      by_cases hji : j < i
      · exact hi j hji k hk1 hk2
      · obtain rfl : j = i := by omega
        exact hk k hk1 (by omega)
  · obtain rfl : i = n := by omega
    simp [h9, h8, h7, h0]
    refine awCall_det' (areGates_a (h.keeps hK) (by omega)) hK.len ?_
    have : playB l = true := decide_eq_true fun i hi' k hk => hi k (by omega) i hk (by omega)
    simp [this, hK]




















end Go.Proofs.Ytimijeeihicohaa

namespace Go.Proofs.Ytimijeeihicohaa
open Go.RowKit
set_option linter.unusedVariables false
set_option linter.unusedSimpArgs false
set_option maxRecDepth 100000
attribute [local simp] List.getElem?_cons_zero
attribute [local irreducible] awCond awCall awLoop awDraw ow retQ retC resQ Keeps
def voiceL (l : List Gate) (v : Int) : List Gate := l.filter fun g => decide (g.o = v)
theorem l21Voice_a {M : Mem} {A : Option Addr} {n c : Nat} {l : List Gate} (v : Int) (h : Sl gateR M A n l) (hn : n ≤ 1048576) : Ctr Try.prog M.length 58 [.slice A n c, iv v] M fun r M' => Fresh gateR M r M' (voiceL l v) := by
  have hl := h.1
  first | (refine ctr_fn Try.func58 rfl Try.ntmps58 Try.results58 rfl rfl (by simp) ?_) | (refine ctr_fnC Try.func58 rfl Try.ntmps58 Try.results58 rfl (by simp) ?_)
  simp
  refine awLoop_T (fun m T M' => ∃ (k : Nat) (u : Value), k + m = n ∧ Keeps M M' ∧ Acc gateR 63 M.length M' u (voiceL (l.take k) v) ∧ look T 6 = some (iv k) ∧ look T 5 = some u ∧ look T 0 = some (.slice A n c) ∧ look T 1 = some (iv v)) n ⟨0, .slice (some ⟨M.length, 0, none⟩) 0 0, by omega, keeps_app _, ⟨some ⟨M.length, 0, none⟩, 0, 0, rfl, by simp [voiceL], .inr ⟨M.length, true, rfl, Nat.le_refl _, by simp [voiceL, cellsL]⟩⟩, by simp, by simp, by simp, by simp⟩ ?_
  rintro m T M' ⟨k, u, hm, hK, hA, h6, h5, h0, h1⟩
  have hKl := hK.len
  by_cases hlt : k < n
  · have h' := h.keeps hK
    obtain ⟨id, off, rfl, he, hc⟩ := h'.at_ hlt
    obtain ⟨c0, c1, c2, c3, c4⟩ := gate_cells hc
    simp (disch := omega) [h6, h5, h0, h1, hlt, wrap_in, c0]
    by_cases hv : (el l k).o = v
    · simp (disch := omega) [h6, h5, h0, h1, hlt, wrap_in, gate_load hc, hv]
      refine Acc.append (R := gateR) (e := 63) (by_ := 40) (a := el l k) (hA.keeps (keeps_app _)) (Nat.le_refl _) (by simp; omega) (by omega) (by simp) (by kernel_rfl) (by simp [srcOf, gateR, Gate.row, hv]) (by rfl) ?_ ?_ ?_
      · have : (voiceL (l.take k) v).length ≤ (l.take k).length := List.length_filter_le _ _
        rw [List.length_take] at this
        omega
      · have : (voiceL (l.take k) v).length ≤ (l.take k).length := List.length_filter_le _ _
        rw [List.length_take] at this
        unfold maxLen
        omega
      · intro v' M2 hA2 hS
        refine lpI (m - 1) (by omega) ?_
        exact ⟨k + 1, v', by omega, hS.keeps (hK.app _) (Nat.le_refl _), by rw [take_el (by omega)]; simpa [voiceL, hv] using hA2, by simp, by simp, by simp [h0], by simp [h1]⟩
    · simp (disch := omega) [h6, h5, h0, h1, wrap_in, hv]
      refine lpI (m - 1) (by omega) ?_
      exact ⟨k + 1, u, by omega, hK, by rw [take_el (by omega)]; simpa [voiceL, hv] using hA, by simp, by simp [h5], by simp [h0], by simp [h1]⟩
  · obtain rfl : k = n := by omega
    rw [List.take_of_length_le (by omega)] at hA
    have hf := hA.fresh (by have : (voiceL l v).length ≤ l.length := List.length_filter_le _ _; omega) hK
    simp [h6, h5, h0, h1]
    exact hf
theorem voiceGates_a {M : Mem} {A : Option Addr} {n c : Nat} {l : List Gate} (v : Int) (h : Sl gateR M A n l) (hn : n ≤ 1048576) : Ctr Try.prog M.length 88 [.slice A n c, iv v] M fun r M' => Fresh gateR M r M' (voiceL l v) := by
  have hl := h.1
  first | (refine ctr_fn Try.func88 rfl Try.ntmps88 Try.results88 rfl rfl (by simp) ?_) | (refine ctr_fnC Try.func88 rfl Try.ntmps88 Try.results88 rfl (by simp) ?_)
  simp
  refine awLoop_T (fun m T M' => ∃ (k : Nat) (u : Value), k + m = n ∧ Keeps M M' ∧ Acc gateR 63 M.length M' u (voiceL (l.take k) v) ∧ look T 11 = some (iv k) ∧ look T 10 = some (iv n) ∧ look T 9 = some (.slice A n c) ∧ look T 5 = some u ∧ look T 1 = some (iv v)) n ⟨0, .slice (some ⟨M.length, 0, none⟩) 0 0, by omega, keeps_app _, ⟨some ⟨M.length, 0, none⟩, 0, 0, rfl, by simp [voiceL], .inr ⟨M.length, true, rfl, Nat.le_refl _, by simp [voiceL, cellsL]⟩⟩, by simp, by simp, by simp, by simp, by simp⟩ ?_
  rintro m T M' ⟨k, u, hm, hK, hA, h11, h10, h9, h5, h1⟩
  have hKl := hK.len
  by_cases hlt : k < n
  · have h' := h.keeps hK
    obtain ⟨id, off, rfl, he, hc⟩ := h'.at_ hlt
    simp (disch := omega) [h11, h10, h9, h5, h1, hlt, wrap_in, gate_load hc]
    by_cases hv : (el l k).o = v
    · simp (disch := omega) [h11, h10, h9, h5, h1, wrap_in, hv]
      refine Acc.append (R := gateR) (e := 63) (by_ := 40) (a := el l k) (hA.keeps (keeps_app _)) (Nat.le_refl _) (by simp; omega) (by omega) (by simp) (by kernel_rfl) (by simp [srcOf, gateR, Gate.row, hv]) (by rfl) ?_ ?_ ?_
      · have : (voiceL (l.take k) v).length ≤ (l.take k).length := List.length_filter_le _ _
        rw [List.length_take] at this
        omega
      · have : (voiceL (l.take k) v).length ≤ (l.take k).length := List.length_filter_le _ _
        rw [List.length_take] at this
        unfold maxLen
        omega
      · intro v' M2 hA2 hS
        try simp (disch := omega) [h11, wrap_in]
        refine lpI (m - 1) (by omega) ?_
        exact ⟨k + 1, v', by omega, hS.keeps (hK.app _) (Nat.le_refl _), by rw [take_el (by omega)]; simpa [voiceL, hv] using hA2, by simp, by simp [h10], by simp [h9], by simp, by simp [h1]⟩
    · simp (disch := omega) [h11, h10, h9, h5, h1, wrap_in, hv]
      refine lpI (m - 1) (by omega) ?_
      exact ⟨k + 1, u, by omega, hK.app _, by rw [take_el (by omega)]; simpa [voiceL, hv] using hA.keeps (keeps_app _), by simp, by simp [h10], by simp [h9], by simp [h5], by simp [h1]⟩
  · obtain rfl : k = n := by omega
    rw [List.take_of_length_le (by omega)] at hA
    have hf := hA.fresh (by have : (voiceL l v).length ≤ l.length := List.length_filter_le _ _; omega) hK
    simp [h11, h10, h9, h5]
    exact hf
end Go.Proofs.Ytimijeeihicohaa

namespace Go.Proofs.Ytimijeeihicohaa
open Go.RowKit
set_option linter.unusedVariables false
set_option linter.unusedSimpArgs false
set_option maxRecDepth 100000
attribute [local simp] List.getElem?_cons_zero
attribute [local irreducible] awCond awCall awLoop awDraw ow retQ retC resQ Keeps
theorem okG_el {l : List Gate} (h : okG l = true) {a : Gate} (ha : a ∈ l) : 0 ≤ a.s ∧ a.s < a.e ∧ a.e ≤ 4000 ∧ 0 ≤ a.o ∧ a.o ≤ 3 := by
  obtain ⟨i, hi, rfl⟩ := List.getElem_of_mem ha
  unfold okG at h
  simp only [Bool.and_eq_true, decide_eq_true_eq] at h
  have := (h.1 i hi).1
  rw [el_eq hi]
  simp [gateB, inB] at this
  omega
end Go.Proofs.Ytimijeeihicohaa

namespace Go.Proofs.Ytimijeeihicohaa
open Go.RowKit
set_option linter.unusedVariables false
set_option linter.unusedSimpArgs false
set_option maxRecDepth 100000
attribute [local simp] List.getElem?_cons_zero
attribute [local irreducible] awCond awCall awLoop awDraw ow retQ retC resQ Keeps
theorem gate_one (l : List Gate) : (cellsL gateR l).all (fun u => u.oneCell') = true := by
  induction l with
  | nil => rfl
  | cons a l ih => rw [cellsL_cons, List.all_append, ih]; rfl

















end Go.Proofs.Ytimijeeihicohaa

namespace Go.Proofs.Ytimijeeihicohaa
open Go.RowKit
set_option linter.unusedVariables false
set_option linter.unusedSimpArgs false
set_option maxRecDepth 100000
attribute [local simp] List.getElem?_cons_zero
attribute [local irreducible] awCond awCall awLoop awDraw ow retQ retC resQ Keeps
/-- The index of the last gate of a voice, -1 if there is none. -/
def lastI (v : Int) : List Gate → Int
  | [] => -1
  | g :: l => if 0 ≤ lastI v l then lastI v l + 1 else if g.o = v then 0 else -1
theorem el_zero (g : Gate) (l : List Gate) : el (g :: l) 0 = g := rfl
theorem el_succ (g : Gate) (l : List Gate) (i : Nat) : el (g :: l) (i + 1) = el l i := rfl
theorem lastI_spec (v : Int) : ∀ l : List Gate, (lastI v l = -1 ∧ ∀ i, i < l.length → (el l i).o ≠ v) ∨ (∃ i : Nat, lastI v l = i ∧ i < l.length ∧ (el l i).o = v ∧ ∀ j, i < j → j < l.length → (el l j).o ≠ v)
  | [] => .inl ⟨rfl, fun i hi => by simp at hi⟩
  | g :: l => by
    rcases lastI_spec v l with ⟨h1, h2⟩ | ⟨i, h1, h2, h3, h4⟩
    · have e : lastI v (g :: l) = if g.o = v then 0 else -1 := by rw [lastI, h1]; rfl
      by_cases hg : g.o = v
      · refine .inr ⟨0, by rw [e, if_pos hg]; rfl, by simp, hg, fun j hj hl => ?_⟩
        obtain ⟨j, rfl⟩ : ∃ j', j = j' + 1 := ⟨j - 1, by omega⟩
        rw [el_succ]
        exact h2 j (by simpa using hl)
      · refine .inl ⟨by rw [e, if_neg hg], fun j hl => ?_⟩
        rcases j with _ | j
        · exact hg
        · rw [el_succ]; exact h2 j (by simpa using hl)
    · refine .inr ⟨i + 1, by rw [lastI, h1, if_pos (by omega)]; rfl, by simpa using h2, by rw [el_succ]; exact h3, fun j hj hl => ?_⟩
      obtain ⟨j, rfl⟩ : ∃ j', j = j' + 1 := ⟨j - 1, by omega⟩
      rw [el_succ]
      exact h4 j (by omega) (by simpa using hl)
theorem lastI_none {v : Int} {l : List Gate} (h : ∀ i, i < l.length → (el l i).o ≠ v) : lastI v l = -1 := by
  rcases lastI_spec v l with ⟨h1, _⟩ | ⟨i, _, h2, h3, _⟩
  · exact h1
  · exact absurd h3 (h i h2)
theorem lastI_some {v : Int} {l : List Gate} {i : Nat} (hi : i < l.length) (h : (el l i).o = v) (hj : ∀ j, i < j → j < l.length → (el l j).o ≠ v) : lastI v l = i := by
  rcases lastI_spec v l with ⟨_, h2⟩ | ⟨k, h1, h2, h3, h4⟩
  · exact absurd h (h2 i hi)
  · rcases Nat.lt_trichotomy k i with hlt | rfl | hgt
    · exact absurd h (h4 i hlt hi)
    · exact h1
    · exact absurd h3 (hj k hgt h2)
/-- The free voice with the least number (-1), and the voice whose last gate began first, of v voices. -/
def scanS (out : List Gate) (s : Int) : Nat → Int × Int
  | 0 => (-1, 0)
  | v + 1 =>
    let f := if (scanS out s v).1 < 0 ∧ (lastI v out < 0 ∨ (el out (lastI v out).toNat).e ≤ s) then (v : Int) else (scanS out s v).1
    (f, if 0 ≤ lastI v out ∧ f < 0 ∧ (el out (lastI v out).toNat).s < (el out (lastI (scanS out s v).2 out).toNat).s then (v : Int) else (scanS out s v).2)
theorem scanS_bd (out : List Gate) (s : Int) : ∀ v, (-1 ≤ (scanS out s v).1 ∧ (scanS out s v).1 < v) ∧ 0 ≤ (scanS out s v).2 ∧ ((scanS out s v).2 < v ∨ (scanS out s v).2 = 0) ∧ ((scanS out s v).1 < 0 → ∀ u : Nat, u < v → 0 ≤ lastI u out)
  | 0 => by simp [scanS]
  | v + 1 => by
    obtain ⟨h1, h2, h3, h4⟩ := scanS_bd out s v
    simp only [scanS]
    refine ⟨by split <;> omega, by split <;> omega, by split <;> omega, fun h u hu => ?_⟩
    split at h
    · omega
    · rename_i hc
      rcases Nat.lt_or_ge u v with h' | h'
      · exact h4 h u h'
      · obtain rfl : u = v := by omega
        by_cases hl : 0 ≤ lastI u out
        · exact hl
        · exact absurd ⟨h, .inl (by omega)⟩ hc
/-- One gate more is given to a voice. -/
def stepS (voices : Nat) (st : List Gate × Int) (g : Gate) : List Gate × Int :=
  if (scanS st.1 g.s voices).1 < 0 then
    ((if (el st.1 (lastI (scanS st.1 g.s voices).2 st.1).toNat).s = g.s then st.1.eraseIdx (lastI (scanS st.1 g.s voices).2 st.1).toNat
      else st.1.set (lastI (scanS st.1 g.s voices).2 st.1).toNat { el st.1 (lastI (scanS st.1 g.s voices).2 st.1).toNat with e := g.s }) ++ [{ g with o := (scanS st.1 g.s voices).2 }], st.2 + 1)
  else (st.1 ++ [{ g with o := (scanS st.1 g.s voices).1 }], st.2)
def allocP (voices : Nat) (l : List Gate) : List Gate × Int := l.foldl (stepS voices) ([], 0)
theorem allocP_snoc (voices : Nat) (l : List Gate) (g : Gate) : allocP voices (l ++ [g]) = stepS voices (allocP voices l) g := by simp [allocP]
theorem stepS_len (voices : Nat) (st : List Gate × Int) (g : Gate) : (stepS voices st g).1.length ≤ st.1.length + 1 ∧ st.2 ≤ (stepS voices st g).2 ∧ (stepS voices st g).2 ≤ st.2 + 1 := by
  unfold stepS
  split
  · refine ⟨?_, by simp only; omega, by simp only; omega⟩
    simp only [List.length_append, List.length_cons, List.length_nil]
    split
    · have := List.length_eraseIdx_le st.1 (lastI (scanS st.1 g.s voices).2 st.1).toNat
      omega
    · simp
  · simp
    omega
theorem allocP_len (voices : Nat) : ∀ (l : List Gate) (st : List Gate × Int), (l.foldl (stepS voices) st).1.length ≤ st.1.length + l.length ∧ st.2 ≤ (l.foldl (stepS voices) st).2 ∧ (l.foldl (stepS voices) st).2 ≤ st.2 + l.length
  | [], st => by simp
  | g :: l, st => by
    have h1 := stepS_len voices st g
    have h2 := allocP_len voices l (stepS voices st g)
    simp only [List.foldl_cons, List.length_cons]
    omega
theorem l21Last_a {M : Mem} {A : Option Addr} {n c : Nat} {l : List Gate} (v : Int) (h : Sl gateR M A n l) (hn : n ≤ 1048576) : Det Try.prog M.length 73 [.slice A n c, iv v] M (iv (lastI v l)) M := by
  have hl := h.1
  first | (refine det_fn Try.func73 rfl Try.ntmps73 Try.results73 rfl rfl rfl (by simp) ?_) | (refine det_fnC Try.func73 rfl Try.ntmps73 Try.results73 rfl rfl (by simp) ?_)
  simp (disch := omega) [wrap_in]
  refine awLoop_T (fun m T M' => M = M' ∧ m ≤ n ∧ (∀ j, m ≤ j → j < n → (el l j).o ≠ v) ∧ look T 5 = some (iv (m - 1)) ∧ look T 0 = some (.slice A n c) ∧ look T 1 = some (iv v)) n ⟨rfl, by omega, fun j h1 h2 => by omega, by simp, by simp, by simp⟩ ?_
  rintro m T M' ⟨rfl, hm, hj, h5, h0, h1⟩
  rcases m with _ | m
  · simp [h5, h0, h1]
    rw [lastI_none (by intro i hi; exact hj i (by omega) (by omega))]
    simp [Keeps.refl]
  · obtain ⟨id, off, rfl, he, hc⟩ := h.at_ (i := m) (by omega)
    obtain ⟨c0, c1, c2, c3, c4⟩ := gate_cells hc
    have e1 : ((m + 1 : Nat) : Int) - 1 = m := by omega
    rw [e1] at h5
    simp (disch := omega) [h5, h0, h1, he, c0, wrap_in]
    refine ⟨by omega, ?_⟩
    by_cases hv : (el l m).o = v
    · simp (disch := omega) [hv, h5]
      rw [lastI_some (by omega) hv (by intro j h1 h2; exact hj j (by omega) (by omega))]
      simp [Keeps.refl]
    · simp (disch := omega) [hv, h5, wrap_in]
      refine lpI m (by omega) ?_
      exact ⟨rfl, by omega, fun j h1 h2 => by
        by_cases e : j = m
        · subst e; exact hv
        · exact hj j (by omega) h2, by simp, by simp [h0], by simp [h1]⟩
theorem cells_set_e {l : List Gate} {j : Nat} {x : Int} (h : j < l.length) : (cellsL gateR l).set (j * 5 + 2) (iv x) = cellsL gateR (l.set j { el l j with e := x }) := by
  have e1 : l = l.take j ++ (el l j :: l.drop (j + 1)) := by
    conv => lhs; rw [← List.take_append_drop j l, drop_el h]
  have hl : (l.take j).length = j := by simp; omega
  have e2 : l.set j { el l j with e := x } = l.take j ++ ({ el l j with e := x } :: l.drop (j + 1)) := by
    conv => lhs; rw [e1]
    rw [List.set_append_right _ _ (by omega), hl, Nat.sub_self]
    simp [hl, el_append_right]
    rw [show el (el l j :: List.drop (j + 1) l) 0 = el l j from rfl]
    exact ⟨rfl, rfl, rfl, rfl⟩
  rw [e2]
  conv => lhs; rw [e1]
  have e3 : (cellsL gateR (l.take j)).length = j * 5 := by rw [cellsL_len, hl]
  rw [cellsL_append, cellsL_append, cellsL_cons, cellsL_cons, List.set_append_right _ _ (by omega), e3, show j * 5 + 2 - j * 5 = 2 by omega]
  rfl
theorem el_set_self {l : List Gate} {j : Nat} {g : Gate} (h : j < l.length) : el (l.set j g) j = g := by simp [el, h]
theorem append_newG {P : Program} {α : Type} {k : Nat} {R : RecV α k} {e t tx : TypeId} {b by_ id : Nat} {S : St} {x : Value} {ls : List α} {K : Value → Mem → Prop} (hr : S.M[id]? = some (.live ⟨[], true, true, e, k⟩)) (hq : qSlice P t = some (e, k, by_))
    (hz : (P.info? e).any (fun i => i.zero.any fun z => z.cells.size == k) = true) (hs : srcOf P S.M k tx x = some (ls.length, cellsL R ls)) (h1 : (cellsL R ls).all (fun u => u.oneCell') = true) (hn : ls.length * by_ ≤ 140737488355328) (hm : ls.length ≤ maxLen)
    (hK0 : ls = [] → K (.slice (some ⟨id, 0, none⟩) 0 0) S.M) (hK1 : ls ≠ [] → K (.slice (some ⟨S.M.length, 0, none⟩) ls.length ls.length) (S.M ++ [.live ⟨cellsL R ls, true, false, e, k⟩])) : appendK P b S K t tx (.slice (some ⟨id, 0, none⟩) 0 0) x := by
  unfold appendK
  rw [hq]
  simp only [ow_some]
  rw [hs]
  simp only [ow_some]
  refine ⟨hz, h1, ?_⟩
  simp only [hr]
  refine ⟨⟨trivial, by simp, trivial, trivial⟩, by simpa using hn, by simpa using hm, fun h => ?_, fun h => ?_⟩
  · exact hK0 (List.eq_nil_of_length_eq_zero h)
  · rw [if_pos trivial]
    have := hK1 (fun e => h (by simp [e]))
    simpa using this
theorem Sl.take {α : Type} {k : Nat} {R : RecV α k} {M : Mem} {id off n m : Nat} {l : List α} (h : Sl R M (some ⟨id, off, none⟩) n l) (hm : m ≤ n) : Sl R M (some ⟨id, off, none⟩) m (l.take m) := by
  refine ⟨by rw [List.length_take, h.1]; omega, fun hp => ?_⟩
  obtain ⟨_, _, e, he, hc⟩ := h.2 (by omega)
  cases e
  refine ⟨id, off, rfl, he, fun j x hx => hc j x ?_⟩
  rw [cellsL_take] at hx
  rw [List.getElem?_take] at hx
  split at hx
  · exact hx
  · cases hx
theorem Sl.drop {α : Type} {k : Nat} {R : RecV α k} {M : Mem} {id off n m : Nat} {l : List α} (h : Sl R M (some ⟨id, off, none⟩) n l) (hm : m ≤ n) : Sl R M (some ⟨id, off + m * k, none⟩) (n - m) (l.drop m) := by
  refine ⟨by rw [List.length_drop, h.1], fun hp => ?_⟩
  obtain ⟨_, _, e, he, hc⟩ := h.2 (by omega)
  cases e
  refine ⟨id, off + m * k, rfl, he, fun j x hx => ?_⟩
  rw [cellsL_drop, List.getElem?_drop] at hx
  rw [Nat.add_assoc]
  exact hc _ x hx
end Go.Proofs.Ytimijeeihicohaa
