/- Parts of the proof, together: Gates: the reference gives voices. Gates: what an allocation leaves is good, in order, and no voice plays two at a time. An argument that is a slice of bytes. Gates that are drawn. Gates: what voices have after an allocation, in plain words. Floors of quotients, in both packages. Levels of envelopes, in both packages. Clip: records in memory, and the laws' helpers on them. No conditions. -/
import Derived.Test.YtimijeeihicohaaZzL13
import Derived.Test.YtimijeeihicohaaZzL9
import Derived.Test.YtimijeeihicohaaZzL8
import Derived.Test.YtimijeeihicohaaZzL7
import Derived.Test.YtimijeeihicohaaZzL10
import Derived.Laws.StructEq
namespace Go.Proofs.Ytimijeeihicohaa
open Go.RowKit
set_option linter.unusedVariables false
set_option linter.unusedSimpArgs false
set_option maxRecDepth 100000
attribute [local simp] List.getElem?_cons_zero
attribute [local irreducible] awCond awCall awLoop awDraw ow retQ retC resQ Keeps
set_option maxHeartbeats 4000000 in
theorem l21Allocate_a {M : Mem} {A : Option Addr} {n c : Nat} {l : List Gate} (V : Nat) (h : Sl gateR M A n l) (hok : okG l = true) (hn : n ≤ 60) (hV : 1 ≤ V ∧ V ≤ 4) : Ctr Try.prog M.length 48 [.slice A n c, iv V] M fun r M' => ∃ v0, r = .tuple #[v0, iv (allocP V l).2] ∧ Fresh gateR M v0 M' (allocP V l).1 := by
  have hl := h.1
  first | (refine ctr_fn Try.func48 rfl Try.ntmps48 Try.results48 rfl rfl (by simp) ?_) | (refine ctr_fnC Try.func48 rfl Try.ntmps48 Try.results48 rfl (by simp) ?_)
  simp
  refine awLoop_T (fun m T M' => ∃ (i : Nat) (u : Value), i + m = n ∧ Keeps M M' ∧ Acc gateR 63 M.length M' u (allocP V (l.take i)).1 ∧ look T 8 = some (iv i) ∧ look T 6 = some u ∧ look T 7 = some (iv (allocP V (l.take i)).2) ∧ look T 0 = some (.slice A n c) ∧ look T 1 = some (iv V)) n ⟨0, .slice (some ⟨M.length, 0, none⟩) 0 0, by omega, keeps_app _, ⟨some ⟨M.length, 0, none⟩, 0, 0, rfl, by simp [allocP], .inr ⟨M.length, true, rfl, Nat.le_refl _, by simp [allocP, cellsL]⟩⟩, by simp, by simp, by simp [allocP], by simp, by simp⟩ ?_
  rintro m T M' ⟨i, u, hm, hK, hA, h8, h6, h7, h0, h1⟩
  have hKl := hK.len
  have hal := allocP_len V (l.take i) ([], 0)
  have hal2 : (allocP V (l.take i)).1.length ≤ i ∧ 0 ≤ (allocP V (l.take i)).2 ∧ (allocP V (l.take i)).2 ≤ i := by
    have e : (l.take i).length ≤ i := by simp; omega
    unfold allocP
    simp only [List.length_nil] at hal
    omega
  by_cases hlt : i < n
  · obtain ⟨id, off, rfl, he, hc⟩ := h.at_ hlt
    have hst : allocP V (l.take (i + 1)) = stepS V (allocP V (l.take i)) (el l i) := by rw [take_el (by omega), allocP_snoc]
    rcases hP : allocP V (l.take i) with ⟨out, sh⟩
    rw [hP] at hst hA h7 hal2
    simp only at hA h7 hal2
    obtain ⟨A', n', c', rfl, hln, hsl, hone⟩ := hA.sl
    have hb := okG_el hok (el_mem (l := l) (i := i) (by omega))
    simp (disch := omega) [h8, h0, hlt, wrap_in, rowEsz_keeps hK he, gate_load (hc.keeps hK)]
    refine awLoop_T (fun m2 T M2 => ∃ v : Nat, v + m2 = V ∧ M2 = M' ++ [.live ⟨[iv (el l i).o, iv (el l i).s, iv (el l i).e, iv (el l i).k, iv (el l i).u], true, true, 63, 5⟩] ∧ look T 12 = some (iv v) ∧ look T 10 = some (iv (scanS out (el l i).s v).1) ∧ look T 11 = some (iv (scanS out (el l i).s v).2) ∧ look T 9 = some (.pointer (some ⟨M'.length, 0, none⟩)) ∧ look T 8 = some (iv i) ∧ look T 6 = some (.slice A' n' c') ∧ look T 7 = some (iv sh) ∧ look T 0 = some (.slice (some ⟨id, off, none⟩) n c) ∧ look T 1 = some (iv V)) V ⟨0, by omega, rfl, by simp, by simp [scanS], by simp [scanS], by simp, by simp [h8], by simp [h6], by simp [h7], by simp [h0], by simp [h1]⟩ ?_
    rintro m2 T2 M2 ⟨v, hm2, rfl, g12, g10, g11, g9, g8, g6, g7, g0, g1⟩
    have hslb : Sl gateR (M' ++ [.live ⟨[iv (el l i).o, iv (el l i).s, iv (el l i).e, iv (el l i).k, iv (el l i).u], true, true, 63, 5⟩]) A' n' out := hsl.app _
    obtain ⟨s1, s2, s3, s4⟩ := scanS_bd out (el l i).s v
    by_cases hlv : v < V
    · have hlv' : (v : Int) < V := by omega
      simp (disch := omega) [g12, g6, g1, hlv', wrap_in]
      refine awCall_det' (l21Last_a (v : Int) hslb (by omega)) (by simp; omega) ?_
      refine awDraw_E 13 [[],[0],[1,0],[2,1,0],[3,2,1,0],[4,3,2,1,0],[5,4,3,2,1,0],[5,4,3,2,1,0],[6,5,4,3,2,1,0,7],[8,6,5,4,3,2,1,0,7],[9,8,6,5,4,3,2,1,0,7],[5,4,3,2,1,0],[11,5,4,3,2,1,0],[10,9,8,6,5,4,3,2,1,0,7,12,11],[5,4,3,2,1,0,13,10,9,8,6,7,12,11],[2,1,0,14,5,4,3,13,10,9,8,6,7,12,11]] (by kernel_rfl) (by kernel_rfl) ?_
      have hsc : scanS out (el l i).s (v + 1) = (if (scanS out (el l i).s v).1 < 0 ∧ (lastI v out < 0 ∨ (el out (lastI v out).toNat).e ≤ (el l i).s) then (v : Int) else (scanS out (el l i).s v).1, if 0 ≤ lastI v out ∧ (if (scanS out (el l i).s v).1 < 0 ∧ (lastI v out < 0 ∨ (el out (lastI v out).toNat).e ≤ (el l i).s) then (v : Int) else (scanS out (el l i).s v).1) < 0 ∧ (el out (lastI v out).toNat).s < (el out (lastI (scanS out (el l i).s v).2 out).toNat).s then (v : Int) else (scanS out (el l i).s v).2) := rfl
      rcases hR : scanS out (el l i).s v with ⟨f0, o0⟩
      rw [hR] at g10 g11 s1 s2 s3 s4 hsc
      simp only at g10 g11 s1 s2 s3 s4 hsc
      rcases lastI_spec (v : Int) out with ⟨hk, hnone⟩ | ⟨j, hk, hjl, hjo, hjm⟩
      · rw [hk] at hsc
        have hng : ¬ (0 : Int) ≤ -1 := by omega
        by_cases hf : f0 < 0
        · have hS : scanS out (el l i).s (v + 1) = ((v : Int), o0) := by rw [hsc]; simp [hf]
          simp (disch := omega) [hk, hf, g12, g10, g11, g9, g8, g6, wrap_in]
          refine awDraw_E 19 [[],[0],[1,0],[2,1,0],[3,2,1,0],[2,1,0,4,3],[5,2,1,0,4,3],[6,5,2,1,0,4,3],[6,5,2,1,0,4,3],[7,6,5,2,1,0,4,3,8],[9,7,6,5,2,1,0,4,3,8],[10,9,7,6,5,2,1,0,4,3,8],[6,5,2,1,0,4,3],[6,5,2,1,0,4,3],[6,5,2,1,0,4,3],[13,6,5,2,1,0,4,3,14],[12,6,5,2,1,0,4,3,15,13,14],[16,12,6,5,2,1,0,4,3,15,13,14],[17,16,12,6,5,2,1,0,4,3,15,13,14],[11,10,9,7,6,5,2,1,0,4,3,8,18,17,16,12,15,13,14],[6,5,2,1,0,4,3,19,11,10,9,7,8,18,17,16,12,15,13,14]] (by kernel_rfl) (by kernel_rfl) ?_
          simp (disch := omega) [hk, g12, g10, g11, g9, g8, g6, wrap_in]
          refine lpI (m2 - 1) (by omega) ?_
          exact ⟨v + 1, by omega, rfl, by simp, by simp [hS, g10], by simp [hS, g11], by simp [g9], by simp [g8], by simp [g6], by simp [g7], by simp [g0], by simp [g1]⟩
        · have hS : scanS out (el l i).s (v + 1) = (f0, o0) := by rw [hsc]; simp [hf]
          simp (disch := omega) [hk, hf, g12, g10, g11, g9, g8, g6, wrap_in]
          refine awDraw_E 19 [[],[0],[1,0],[2,1,0],[3,2,1,0],[2,1,0,4,3],[5,2,1,0,4,3],[6,5,2,1,0,4,3],[6,5,2,1,0,4,3],[7,6,5,2,1,0,4,3,8],[9,7,6,5,2,1,0,4,3,8],[10,9,7,6,5,2,1,0,4,3,8],[6,5,2,1,0,4,3],[6,5,2,1,0,4,3],[6,5,2,1,0,4,3],[13,6,5,2,1,0,4,3,14],[12,6,5,2,1,0,4,3,15,13,14],[16,12,6,5,2,1,0,4,3,15,13,14],[17,16,12,6,5,2,1,0,4,3,15,13,14],[11,10,9,7,6,5,2,1,0,4,3,8,18,17,16,12,15,13,14],[6,5,2,1,0,4,3,19,11,10,9,7,8,18,17,16,12,15,13,14]] (by kernel_rfl) (by kernel_rfl) ?_
          simp (disch := omega) [hk, g12, g10, g11, g9, g8, g6, wrap_in]
          refine lpI (m2 - 1) (by omega) ?_
          exact ⟨v + 1, by omega, rfl, by simp, by simp [hS, g10], by simp [hS, g11], by simp [g9], by simp [g8], by simp [g6], by simp [g7], by simp [g0], by simp [g1]⟩
      · obtain ⟨oid, ooff, rfl, hoe, hoc⟩ := hslb.at_ (i := j) (by omega)
        obtain ⟨d0, d1, d2, d3, d4⟩ := gate_cells hoc
        rw [hk] at hsc
        have hkn : (j : Int).toNat = j := by omega
        rw [hkn] at hsc
        have hjn : ¬ ((j : Int) < 0) := by omega
        have hjp : (0 : Int) ≤ j := by omega
        by_cases hf : f0 < 0
        · by_cases he2 : (el out j).e ≤ (el l i).s
          · have hvn : ¬ ((v : Int) < 0) := by omega
            have hS : scanS out (el l i).s (v + 1) = ((v : Int), o0) := by rw [hsc]; simp [hf, he2, hvn]
            simp (disch := omega) [hk, hf, hjn, hoe, d2, he2, g12, g10, g11, g9, g8, g6, wrap_in]
            refine ⟨by omega, ?_⟩
            refine awDraw_E 19 [[],[0],[1,0],[2,1,0],[3,2,1,0],[2,1,0,4,3],[5,2,1,0,4,3],[6,5,2,1,0,4,3],[6,5,2,1,0,4,3],[7,6,5,2,1,0,4,3,8],[9,7,6,5,2,1,0,4,3,8],[10,9,7,6,5,2,1,0,4,3,8],[6,5,2,1,0,4,3],[6,5,2,1,0,4,3],[6,5,2,1,0,4,3],[13,6,5,2,1,0,4,3,14],[12,6,5,2,1,0,4,3,15,13,14],[16,12,6,5,2,1,0,4,3,15,13,14],[17,16,12,6,5,2,1,0,4,3,15,13,14],[11,10,9,7,6,5,2,1,0,4,3,8,18,17,16,12,15,13,14],[6,5,2,1,0,4,3,19,11,10,9,7,8,18,17,16,12,15,13,14]] (by kernel_rfl) (by kernel_rfl) ?_
            simp (disch := omega) [hk, hjp, hvn, g12, g10, g11, g9, g8, g6, wrap_in]
            refine lpI (m2 - 1) (by omega) ?_
            exact ⟨v + 1, by omega, rfl, by simp, by simp [hS, g10], by simp [hS, g11], by simp [g9], by simp [g8], by simp [g6], by simp [g7], by simp [g0], by simp [g1]⟩
          · obtain ⟨j2, hk2, hj2⟩ : ∃ j2 : Nat, lastI o0 out = j2 ∧ j2 < out.length := by
              rcases lastI_spec o0 out with ⟨h3, h4⟩ | ⟨j2, h3, h4, -⟩
              · exfalso
                rcases s3 with s3 | s3
                · have := s4 hf o0.toNat (by omega)
                  rw [show ((o0.toNat : Nat) : Int) = o0 by omega] at this
                  omega
                · subst s3
                  rcases Nat.eq_zero_or_pos v with hv0 | hv0
                  · subst hv0
                    have e0 : ((0 : Nat) : Int) = 0 := rfl
                    rw [e0] at hk
                    rw [hk] at h3
                    omega
                  · have := s4 hf 0 hv0
                    have e0 : ((0 : Nat) : Int) = 0 := rfl
                    rw [e0, h3] at this
                    omega
              · exact ⟨j2, h3, h4⟩
            obtain ⟨_, _, e', hoe2, hoc2⟩ := hslb.at_ (i := j2) (by omega)
            cases e'
            obtain ⟨f0', f1, f2, f3, f4⟩ := gate_cells hoc2
            rw [hk2, show (j2 : Int).toNat = j2 by omega] at hsc
            simp (disch := omega) [hk, hf, hjn, hoe, d2, he2, g12, g10, g11, g9, g8, g6, wrap_in]
            refine ⟨by omega, ?_⟩
            refine awDraw_E 19 [[],[0],[1,0],[2,1,0],[3,2,1,0],[2,1,0,4,3],[5,2,1,0,4,3],[6,5,2,1,0,4,3],[6,5,2,1,0,4,3],[7,6,5,2,1,0,4,3,8],[9,7,6,5,2,1,0,4,3,8],[10,9,7,6,5,2,1,0,4,3,8],[6,5,2,1,0,4,3],[6,5,2,1,0,4,3],[6,5,2,1,0,4,3],[13,6,5,2,1,0,4,3,14],[12,6,5,2,1,0,4,3,15,13,14],[16,12,6,5,2,1,0,4,3,15,13,14],[17,16,12,6,5,2,1,0,4,3,15,13,14],[11,10,9,7,6,5,2,1,0,4,3,8,18,17,16,12,15,13,14],[6,5,2,1,0,4,3,19,11,10,9,7,8,18,17,16,12,15,13,14]] (by kernel_rfl) (by kernel_rfl) ?_
            simp (disch := omega) [hk, hjp, hf, hoe, d1, g12, g10, g11, g9, g8, g6, wrap_in]
            refine ⟨by omega, ?_⟩
            refine awCall_det' (l21Last_a o0 hslb (by omega)) (by simp <;> omega) ?_
            by_cases hlt2 : (el out j).s < (el out j2).s
            · have hS : scanS out (el l i).s (v + 1) = (f0, (v : Int)) := by rw [hsc]; simp [hf, he2, hlt2, hjn, show ¬ (0 : Int) ≤ f0 by omega]
              simp (disch := omega) [hk2, hoe, f1, hlt2, g12, g10, g11, g9, g8, g6, wrap_in]
              refine ⟨by omega, ?_⟩
              refine lpI (m2 - 1) (by omega) ?_
              exact ⟨v + 1, by omega, rfl, by simp, by simp [hS, g10], by simp [hS, g11], by simp [g9], by simp [g8], by simp [g6], by simp [g7], by simp [g0], by simp [g1]⟩
            · have hS : scanS out (el l i).s (v + 1) = (f0, o0) := by rw [hsc]; simp [hf, he2, hlt2, hjn, show ¬ (0 : Int) ≤ f0 by omega]
              simp (disch := omega) [hk2, hoe, f1, hlt2, g12, g10, g11, g9, g8, g6, wrap_in]
              refine ⟨by omega, ?_⟩
              refine lpI (m2 - 1) (by omega) ?_
              exact ⟨v + 1, by omega, rfl, by simp, by simp [hS, g10], by simp [hS, g11], by simp [g9], by simp [g8], by simp [g6], by simp [g7], by simp [g0], by simp [g1]⟩
        · have hS : scanS out (el l i).s (v + 1) = (f0, o0) := by rw [hsc]; simp [hf]
          simp (disch := omega) [hk, hf, g12, g10, g11, g9, g8, g6, wrap_in]
          refine awDraw_E 19 [[],[0],[1,0],[2,1,0],[3,2,1,0],[2,1,0,4,3],[5,2,1,0,4,3],[6,5,2,1,0,4,3],[6,5,2,1,0,4,3],[7,6,5,2,1,0,4,3,8],[9,7,6,5,2,1,0,4,3,8],[10,9,7,6,5,2,1,0,4,3,8],[6,5,2,1,0,4,3],[6,5,2,1,0,4,3],[6,5,2,1,0,4,3],[13,6,5,2,1,0,4,3,14],[12,6,5,2,1,0,4,3,15,13,14],[16,12,6,5,2,1,0,4,3,15,13,14],[17,16,12,6,5,2,1,0,4,3,15,13,14],[11,10,9,7,6,5,2,1,0,4,3,8,18,17,16,12,15,13,14],[6,5,2,1,0,4,3,19,11,10,9,7,8,18,17,16,12,15,13,14]] (by kernel_rfl) (by kernel_rfl) ?_
          simp (disch := omega) [hk, hjp, hf, g12, g10, g11, g9, g8, g6, wrap_in]
          refine lpI (m2 - 1) (by omega) ?_
          exact ⟨v + 1, by omega, rfl, by simp, by simp [hS, g10], by simp [hS, g11], by simp [g9], by simp [g8], by simp [g6], by simp [g7], by simp [g0], by simp [g1]⟩
    · obtain rfl : v = V := by omega
      have hvv : ¬ (v : Int) < v := by omega
      rcases hR : scanS out (el l i).s v with ⟨f0, o0⟩
      rw [hR] at g10 g11 s1 s2 s3 s4
      simp only at g10 g11 s1 s2 s3 s4
      simp (disch := omega) [g12, g1, g10, g9]
      by_cases hf : f0 < 0
      · obtain ⟨j, hk, hjl⟩ : ∃ j : Nat, lastI o0 out = j ∧ j < out.length := by
          rcases lastI_spec o0 out with ⟨h3, h4⟩ | ⟨j2, h3, h4, -⟩
          · exfalso
            have := s4 hf o0.toNat (by omega)
            rw [show ((o0.toNat : Nat) : Int) = o0 by omega] at this
            omega
          · exact ⟨j2, h3, h4⟩
        simp (disch := omega) [hf, g7, g6, g11, wrap_in]
        refine awCall_det' (l21Last_a o0 (hsl.app _) (by omega)) (by simp; omega) ?_
        have hAx := hA
        obtain ⟨A2, n2, c2, e2, hl2, hA2⟩ := hAx
        injection e2 with e3 e4 e5
        subst e3; subst e4; subst e5
        rcases hA2 with ⟨-, hz0, -⟩ | ⟨oid, tt, rfl, hoid, hor⟩
        · omega
        have hol := (List.getElem?_eq_some_iff.1 hor).1
        obtain ⟨N, hN⟩ : ∃ N : Mem, N = M' ++ [.live ⟨[iv f0, iv (el l i).s, iv (el l i).e, iv (el l i).k, iv (el l i).u], true, true, 63, 5⟩] := ⟨_, rfl⟩
        rw [← hN]
        have hlN : N.length = M'.length + 1 := by rw [hN]; simp
        have hb0 : N[M'.length]? = some (.live ⟨[iv f0, iv (el l i).s, iv (el l i).e, iv (el l i).k, iv (el l i).u], true, true, 63, 5⟩) := by rw [hN]; simp
        have hor' : N[oid]? = some (.live ⟨cellsL gateR out, true, tt, 63, 5⟩) := by rw [hN, List.getElem?_append_left hol]; exact hor
        have hKN : Keeps M N := by rw [hN]; exact hK.app _
        clear hN
        have q1 : cellAt N M'.length 1 = some (iv (el l i).s) := by simp [cellAt, hb0]
        have q2 : rowEsz N oid = some 5 := by simp [rowEsz, hor']
        obtain ⟨N2, hN2⟩ : ∃ N2 : Mem, N2 = N.set oid (.live ⟨cellsL gateR (out.set j { el out j with e := (el l i).s }), true, tt, 63, 5⟩) := ⟨_, rfl⟩
        have hput : putCells M.length N oid (j * 5 + 2) [iv (el l i).s] = some N2 := by
          have := put_set (b := M.length) (M := N) (id := oid) (p := j * 5 + 2) (v := iv (el l i).s) (cs := cellsL gateR out) (t := tt) (e := 63) (z := 5) (by omega) hoid (by rw [cellsL_len]; omega) rfl
          rw [set_self hor', cells_set_e hjl] at this
          rw [this, hN2]
        have hr2 : N2[oid]? = some (.live ⟨cellsL gateR (out.set j { el out j with e := (el l i).s }), true, tt, 63, 5⟩) := by rw [hN2, List.getElem?_set_self (by omega)]
        have hb2 : N2[M'.length]? = some (.live ⟨[iv f0, iv (el l i).s, iv (el l i).e, iv (el l i).k, iv (el l i).u], true, true, 63, 5⟩) := by rw [hN2, List.getElem?_set_ne (by omega)]; exact hb0
        have hK2 : Keeps M N2 := by rw [hN2]; exact keeps_set hKN hoid
        have hl2' : N2.length = N.length := by rw [hN2]; simp
        clear hN2
        have hlo : (out.set j { el out j with e := (el l i).s }).length = n' := by simp; omega
        have hacc2 : Acc gateR 63 M.length N2 (.slice (some ⟨oid, 0, none⟩) n' c') (out.set j { el out j with e := (el l i).s }) := ⟨_, _, _, rfl, hlo, .inr ⟨oid, tt, rfl, hoid, hr2⟩⟩
        obtain ⟨_, _, _, ez, _, hsl2, _⟩ := hacc2.sl
        injection ez with ez1 ez2 ez3
        subst ez1; subst ez2; subst ez3
        obtain ⟨_, _, ey, hy1, hy2⟩ := hsl2.at_ (i := j) (by omega)
        cases ey
        rw [el_set_self hjl] at hy2
        obtain ⟨w0, w1, w2, w3, w4⟩ := gate_cells hy2
        simp only [Nat.zero_add] at w0 w1 w2 w3 w4
        have z1 : cellAt N2 M'.length 1 = some (iv (el l i).s) := by simp [cellAt, hb2]
        have z2 : rowEsz N2 oid = some 5 := by simp [rowEsz, hr2]
        simp (disch := omega) [g9, hk, q1, q2, hput]
        refine ⟨by omega, ?_⟩
        refine awDraw_E 7 [[],[],[0,1],[2,0,1],[3,2,0,1],[],[5],[4,3,2,0,1,6,5]] (by kernel_rfl) (by kernel_rfl) ?_
        simp (disch := omega) [g6, g9, z1, z2, w1]
        refine ⟨by omega, ?_⟩
        by_cases hs : (el out j).s = (el l i).s
        · have hstep : allocP v (l.take (i + 1)) = (out.eraseIdx j ++ [{ el l i with o := o0 }], sh + 1) := by rw [hst]; simp [stepS, hR, hf, hk, hs]
          simp (disch := omega) [hs]
          refine awDraw_D 9 [[],[],[],[1,2],[0,3,1,2],[],[],[6],[5,7,6],[4,0,3,1,2,8,5,7,6],[9,4,0,3,1,2,8,5,7,6]] (by kernel_rfl) (by decide +kernel) ?_
          have etn : ((j : Int) + 1).toNat = j + 1 := by omega
          have hol2 := (List.getElem?_eq_some_iff.1 hr2).1
          simp (disch := omega) [g6, z2, wrap_in, etn]
          refine ⟨by omega, by simp [rowEsz, List.getElem?_append_left hol2, hr2], ?_⟩
          obtain ⟨out1, ho1⟩ : ∃ out1, out1 = out.set j { el out j with e := (el l i).s } := ⟨_, rfl⟩
          have hel : out1.take j ++ out1.drop (j + 1) = out.eraseIdx j := by rw [← List.eraseIdx_eq_take_drop_succ, ho1, List.eraseIdx_set_eq]
          rw [← ho1] at hsl2 hlo
          have hlt1 : (out1.take j).length = j := by rw [List.length_take]; omega
          have hld1 : (out1.drop (j + 1)).length = n' - (j + 1) := by rw [List.length_drop]; omega
          have hle1 : (out.eraseIdx j).length ≤ 60 := by have := List.length_eraseIdx_le out j; omega
          refine append_newG (R := gateR) (e := 63) (by_ := 40) (ls := out1.take j) (by simp) (by simp) (by kernel_rfl) (((hsl2.take (m := j) (by omega)).app _).src (by omega) ⟨_, Try.underlying55⟩) (gate_one _) (by omega) (by unfold maxLen; omega) (fun h0 => ?_) (fun h0 => ?_)
          · skip
            refine ⟨[], by simp, ⟨by omega, by omega⟩, by simp [rowEsz, List.getElem?_append_left hol2, hr2], ?_⟩
            refine Acc.extend (R := gateR) (e := 63) (B := N2.length) (by_ := 40) (l := out1.take j) (ls := out1.drop (j + 1)) (by rw [h0]; exact ⟨_, 0, 0, rfl, rfl, .inr ⟨N2.length, true, rfl, Nat.le_refl _, by simp [cellsL]⟩⟩) (by omega) (by simp) (by simp) (by kernel_rfl) ?_ (gate_one _) (by omega) (by unfold maxLen; omega) ?_
            · have hd2 := (hsl2.drop (m := j + 1) (by omega)).app (.live ⟨[], true, true, 63, 5⟩ :: [])
              rw [Nat.zero_add] at hd2
              exact hd2.src (by omega) ⟨_, Try.underlying55⟩
            · intro v4 M4 hA4 hS4
              rw [hel] at hA4
              have hb4 := hS4.2 M'.length _ (by omega) (by rw [List.getElem?_append_left (by omega)]; exact hb2)
              have hK4 := hS4.keeps (hK2.app _) (by omega)
              have hl4 := hS4.1
              simp only [List.length_append] at hl4
              try simp (disch := omega)
              have pl := (List.getElem?_eq_some_iff.1 hb4).1
              obtain ⟨Q3, hQ3⟩ : ∃ Q3 : Mem, Q3 = M4.set M'.length (.live ⟨[iv o0, iv (el l i).s, iv (el l i).e, iv (el l i).k, iv (el l i).u], true, true, 63, 5⟩) := ⟨_, rfl⟩
              have hput3 : putCells M.length M4 M'.length 0 [iv o0] = some Q3 := by
                have := put_set (b := M.length) (M := M4) (id := M'.length) (p := 0) (v := iv o0) (cs := [iv f0, iv (el l i).s, iv (el l i).e, iv (el l i).k, iv (el l i).u]) (t := true) (e := 63) (z := 5) pl (by omega) (by simp) rfl
                rw [set_self hb4] at this
                rw [this, hQ3]
                rfl
              have hq5 : cellsAt Q3 M'.length 0 5 = some [iv o0, iv (el l i).s, iv (el l i).e, iv (el l i).k, iv (el l i).u] := by rw [hQ3]; simp [cellsAt, pl]
              have hQK : Keeps M Q3 := by rw [hQ3]; exact keeps_set hK4 hKl
              have hQl : Q3.length = M4.length := by rw [hQ3]; simp
              have hQA : Acc gateR 63 M.length Q3 v4 (out.eraseIdx j) := by rw [hQ3]; exact ((hA4.set_ne (by omega)).low (by omega))
              clear hQ3
              simp (disch := omega) [g11, g9, g6, hput3, hq5, wrap_in]
              refine Acc.append (R := gateR) (e := 63) (by_ := 40) (a := { el l i with o := o0 }) (hQA.keeps (keeps_app _)) (Nat.le_refl _) (by simp; omega) (by omega) (by simp) (by kernel_rfl) (by simp [srcOf, gateR, Gate.row]) (by rfl) (by first | omega | (simp; omega)) (by unfold maxLen; first | omega | (simp; omega)) ?_
              intro v' M3 hA3 hS3
              try simp (disch := omega) [g8, wrap_in]
              refine lpI (m - 1) (by omega) ?_
              exact ⟨i + 1, v', by omega, hS3.keeps (hQK.app _) (Nat.le_refl _), by rw [hstep]; exact hA3, by simp, by simp, by rw [hstep]; simp, by simp [g0], by simp [g1]⟩
          · rw [hlt1]
            refine ⟨[.live ⟨cellsL gateR (out1.take j), true, false, 63, 5⟩], by simp, ⟨by omega, by omega⟩, by simp [rowEsz, List.getElem?_append_left hol2, hr2], ?_⟩
            refine Acc.extend (R := gateR) (e := 63) (B := N2.length) (by_ := 40) (l := out1.take j) (ls := out1.drop (j + 1)) ⟨_, j, j, rfl, hlt1, .inr ⟨N2.length + 1, false, by simp, by omega, by simp⟩⟩ (by omega) (by simp) (by simp) (by kernel_rfl) ?_ (gate_one _) (by omega) (by unfold maxLen; omega) ?_
            · have hd2 := (hsl2.drop (m := j + 1) (by omega)).app (.live ⟨[], true, true, 63, 5⟩ :: [.live ⟨cellsL gateR (out1.take j), true, false, 63, 5⟩])
              rw [Nat.zero_add] at hd2
              exact hd2.src (by omega) ⟨_, Try.underlying55⟩
            · intro v4 M4 hA4 hS4
              rw [hel] at hA4
              have hb4 := hS4.2 M'.length _ (by omega) (by rw [List.getElem?_append_left (by omega)]; exact hb2)
              have hK4 := hS4.keeps (hK2.app _) (by omega)
              have hl4 := hS4.1
              simp only [List.length_append] at hl4
              try simp (disch := omega)
              have pl := (List.getElem?_eq_some_iff.1 hb4).1
              obtain ⟨Q3, hQ3⟩ : ∃ Q3 : Mem, Q3 = M4.set M'.length (.live ⟨[iv o0, iv (el l i).s, iv (el l i).e, iv (el l i).k, iv (el l i).u], true, true, 63, 5⟩) := ⟨_, rfl⟩
              have hput3 : putCells M.length M4 M'.length 0 [iv o0] = some Q3 := by
                have := put_set (b := M.length) (M := M4) (id := M'.length) (p := 0) (v := iv o0) (cs := [iv f0, iv (el l i).s, iv (el l i).e, iv (el l i).k, iv (el l i).u]) (t := true) (e := 63) (z := 5) pl (by omega) (by simp) rfl
                rw [set_self hb4] at this
                rw [this, hQ3]
                rfl
              have hq5 : cellsAt Q3 M'.length 0 5 = some [iv o0, iv (el l i).s, iv (el l i).e, iv (el l i).k, iv (el l i).u] := by rw [hQ3]; simp [cellsAt, pl]
              have hQK : Keeps M Q3 := by rw [hQ3]; exact keeps_set hK4 hKl
              have hQl : Q3.length = M4.length := by rw [hQ3]; simp
              have hQA : Acc gateR 63 M.length Q3 v4 (out.eraseIdx j) := by rw [hQ3]; exact ((hA4.set_ne (by omega)).low (by omega))
              clear hQ3
              simp (disch := omega) [g11, g9, g6, hput3, hq5, wrap_in]
              refine Acc.append (R := gateR) (e := 63) (by_ := 40) (a := { el l i with o := o0 }) (hQA.keeps (keeps_app _)) (Nat.le_refl _) (by simp; omega) (by omega) (by simp) (by kernel_rfl) (by simp [srcOf, gateR, Gate.row]) (by rfl) (by first | omega | (simp; omega)) (by unfold maxLen; first | omega | (simp; omega)) ?_
              intro v' M3 hA3 hS3
              try simp (disch := omega) [g8, wrap_in]
              refine lpI (m - 1) (by omega) ?_
              exact ⟨i + 1, v', by omega, hS3.keeps (hQK.app _) (Nat.le_refl _), by rw [hstep]; exact hA3, by simp, by simp, by rw [hstep]; simp, by simp [g0], by simp [g1]⟩
        · have hstep : allocP v (l.take (i + 1)) = (out.set j { el out j with e := (el l i).s } ++ [{ el l i with o := o0 }], sh + 1) := by rw [hst]; simp [stepS, hR, hf, hk, hs]
          simp (disch := omega) [hs]
          have pl := (List.getElem?_eq_some_iff.1 hb2).1
          obtain ⟨Q3, hQ3⟩ : ∃ Q3 : Mem, Q3 = N2.set M'.length (.live ⟨[iv o0, iv (el l i).s, iv (el l i).e, iv (el l i).k, iv (el l i).u], true, true, 63, 5⟩) := ⟨_, rfl⟩
          have hput3 : putCells M.length N2 M'.length 0 [iv o0] = some Q3 := by
            have := put_set (b := M.length) (M := N2) (id := M'.length) (p := 0) (v := iv o0) (cs := [iv f0, iv (el l i).s, iv (el l i).e, iv (el l i).k, iv (el l i).u]) (t := true) (e := 63) (z := 5) pl (by omega) (by simp) rfl
            rw [set_self hb2] at this
            rw [this, hQ3]
            rfl
          have hq5 : cellsAt Q3 M'.length 0 5 = some [iv o0, iv (el l i).s, iv (el l i).e, iv (el l i).k, iv (el l i).u] := by rw [hQ3]; simp [cellsAt, pl]
          have hQK : Keeps M Q3 := by rw [hQ3]; exact keeps_set hK2 hKl
          have hQl : Q3.length = N2.length := by rw [hQ3]; simp
          have hQA : Acc gateR 63 M.length Q3 (.slice (some ⟨oid, 0, none⟩) n' c') (out.set j { el out j with e := (el l i).s }) := by rw [hQ3]; exact (⟨_, _, _, rfl, hlo, .inr ⟨oid, tt, rfl, hoid, by rw [List.getElem?_set_ne (by omega)]; exact hr2⟩⟩)
          clear hQ3
          simp (disch := omega) [g11, g9, g6, hput3, hq5, wrap_in]
          refine Acc.append (R := gateR) (e := 63) (by_ := 40) (a := { el l i with o := o0 }) (hQA.keeps (keeps_app _)) (Nat.le_refl _) (by simp; omega) (by omega) (by simp) (by kernel_rfl) (by simp [srcOf, gateR, Gate.row]) (by rfl) (by simp; omega) (by simp [maxLen]; omega) ?_
          intro v' M3 hA3 hS3
          try simp (disch := omega) [g8, wrap_in]
          refine lpI (m - 1) (by omega) ?_
          exact ⟨i + 1, v', by omega, hS3.keeps (hQK.app _) (Nat.le_refl _), by rw [hstep]; exact hA3, by simp, by simp, by rw [hstep]; simp, by simp [g0], by simp [g1]⟩
      · have hstep : allocP v (l.take (i + 1)) = (out ++ [{ el l i with o := f0 }], sh) := by rw [hst]; simp [stepS, hR, hf]
        simp (disch := omega) [hf, g6, g9]
        refine Acc.append (R := gateR) (e := 63) (by_ := 40) (a := { el l i with o := f0 }) (hA.keeps (keeps_app _)) (Nat.le_refl _) (by simp; omega) (by omega) (by simp) (by kernel_rfl) (by simp [srcOf, gateR, Gate.row]) (by rfl) (by first | omega | (simp; omega)) (by unfold maxLen; first | omega | (simp; omega)) ?_
        intro v' M3 hA3 hS3
        try simp (disch := omega) [g8, wrap_in]
        refine lpI (m - 1) (by omega) ?_
        exact ⟨i + 1, v', by omega, hS3.keeps (hK.app _) (Nat.le_refl _), by rw [hstep]; exact hA3, by simp, by simp, by rw [hstep]; simp [g7], by simp [g0], by simp [g1]⟩
  · obtain rfl : i = n := by omega
    rw [List.take_of_length_le (by omega)] at hA h7 hal2
    have hf := hA.fresh (by omega) hK
    simp [h8, h6, h7, h0]
    exact hf
def alV (l : List Gate) (V : Int) : List Gate × Int × Int := if okG l = false then ([], 0, 1) else if inB V 1 4 = false then ([], 0, 2) else ((allocP V.toNat l).1, (allocP V.toNat l).2, 0)
theorem okG_len60 {l : List Gate} (h : okG l = true) : l.length ≤ 60 := by
  unfold okG at h
  simp only [Bool.and_eq_true, decide_eq_true_eq] at h
  exact h.2
theorem AllocateVoices_s {M : Mem} {A : Option Addr} {n c : Nat} {l : List Gate} (V : Int) (h : Sl gateR M A n l) (hn : n ≤ 1048576) : Ctr Try.prog M.length 19 [.slice A n c, iv V] M fun r M' => ∃ v0, r = .tuple #[v0, iv (alV l V).2.1, iv (alV l V).2.2] ∧ OwL gateR M.length M'.length M' v0 (alV l V).1 ∧ Keeps M M' := by
  have hl := h.1
  first | (refine ctr_fn Try.func19 rfl Try.ntmps19 Try.results19 rfl rfl (by simp) ?_) | (refine ctr_fnC Try.func19 rfl Try.ntmps19 Try.results19 rfl (by simp) ?_)
  simp
  refine awCall_det' (l21Ok_a h (by omega)) (by simp) ?_
  by_cases hok : okG l = true
  · have h60 := okG_len60 hok
    simp [hok]
    refine awCall_det' (l00In_a _ _ _) (by simp) ?_
    by_cases hv : inB V 1 4 = true
    · have hb := inB_iff.1 hv
      obtain ⟨q, rfl⟩ := Int.eq_ofNat_of_zero_le (show 0 ≤ V by omega)
      simp [hv]
      refine awCall_ctr (l21Allocate_a q h hok (by omega) (by omega)) ?_
      rintro r M' ⟨v0, rfl, hf⟩
      simp
      exact ⟨v0, ⟨rfl, by simp [alV, hok, hv], by simp [alV, hok, hv]⟩, by simpa [alV, hok, hv] using hf.ow.1, hf.ow.2⟩
    · simp at hv
      simp [hv]
      exact ⟨_, ⟨rfl, by simp [alV, hok, hv], by simp [alV, hok, hv]⟩, by simpa [alV, hok, hv] using OwL.nil, Keeps.refl _⟩
  · simp at hok
    simp [hok]
    exact ⟨_, ⟨rfl, by simp [alV, hok], by simp [alV, hok]⟩, by simpa [alV, hok] using OwL.nil, Keeps.refl _⟩
end Go.Proofs.Ytimijeeihicohaa

namespace Go.Proofs.Ytimijeeihicohaa
open Go.RowKit
set_option linter.unusedVariables false
set_option linter.unusedSimpArgs false
/-- Gates in order that begin at x or before, each good, no two of a voice at a time. -/
structure GoodG (out : List Gate) (x : Int) : Prop where
  gate : ∀ i, i < out.length → gateB (el out i) = true
  le : ∀ i, i < out.length → (el out i).s ≤ x
  sort : ∀ i j, i < j → j < out.length → (el out i).s ≤ (el out j).s
  play : ∀ i j, i < j → j < out.length → (el out i).o = (el out j).o → (el out i).e ≤ (el out j).s
theorem gateB_iff {g : Gate} : gateB g = true ↔ (0 ≤ g.o ∧ g.o ≤ 3) ∧ 0 ≤ g.s ∧ g.s < g.e ∧ g.e ≤ 4000 ∧ (0 ≤ g.k ∧ g.k ≤ 127) ∧ (1 ≤ g.u ∧ g.u ≤ 127) := by
  simp only [gateB, Bool.and_eq_true, decide_eq_true_eq, inB_iff]
  constructor <;> (intro h; simp only [and_assoc] at h ⊢; exact h)
theorem GoodG.later {out : List Gate} {x y : Int} (h : GoodG out x) (hxy : x ≤ y) : GoodG out y := ⟨h.gate, fun i hi => by have := h.le i hi; omega, h.sort, h.play⟩
theorem GoodG.snoc {out : List Gate} {g : Gate} (h : GoodG out g.s) (hg : gateB g = true) (hp : ∀ i, i < out.length → (el out i).o = g.o → (el out i).e ≤ g.s) : GoodG (out ++ [g]) g.s := by
  have e1 : el (out ++ [g]) out.length = g := by rw [el_append_right (Nat.le_refl _), Nat.sub_self]; rfl
  have e2 : ∀ i, i < out.length → el (out ++ [g]) i = el out i := fun i hi => el_append_left hi
  have hl : (out ++ [g]).length = out.length + 1 := by simp
  have sp : ∀ i, i < out.length + 1 → i < out.length ∨ i = out.length := fun i hi => by omega
  refine ⟨fun i hi => ?_, fun i hi => ?_, fun i j hij hj => ?_, fun i j hij hj ho => ?_⟩
  · rcases sp i (by omega) with h' | rfl
    · rw [e2 i h']; exact h.gate i h'
    · rw [e1]; exact hg
  · rcases sp i (by omega) with h' | rfl
    · rw [e2 i h']; exact h.le i h'
    · rw [e1]; omega
  · rw [e2 i (by omega)]
    rcases sp j (by omega) with h' | rfl
    · rw [e2 j h']; exact h.sort i j hij h'
    · rw [e1]; exact h.le i (by omega)
  · rw [e2 i (by omega)] at ho ⊢
    rcases sp j (by omega) with h' | rfl
    · rw [e2 j h'] at ho ⊢; exact h.play i j hij h' ho
    · rw [e1] at ho ⊢; exact hp i (by omega) ho
theorem el_set_ne {α : Type} [Inhabited α] {l : List α} {j q : Nat} {x : α} (h : j ≠ q) : el (l.set j x) q = el l q := by simp [el, List.getElem?_set_ne h]
theorem el_set_eq {α : Type} [Inhabited α] {l : List α} {j : Nat} {x : α} (h : j < l.length) : el (l.set j x) j = x := by simp [el, h]
theorem el_erase {l : List Gate} {k i : Nat} (hk : k < l.length) : el (l.eraseIdx k) i = if i < k then el l i else el l (i + 1) := by
  unfold el
  simp only [List.getD_eq_getElem?_getD, List.getElem?_eraseIdx]
  split <;> rfl
theorem GoodG.erase {out : List Gate} {x : Int} {k : Nat} (h : GoodG out x) (hk : k < out.length) : GoodG (out.eraseIdx k) x := by
  have hl : (out.eraseIdx k).length = out.length - 1 := by rw [List.length_eraseIdx, if_pos hk]
  have e : ∀ i, i < out.length - 1 → ∃ q, q < out.length ∧ el (out.eraseIdx k) i = el out q ∧ q = (if i < k then i else i + 1) := fun i hi => by
    refine ⟨if i < k then i else i + 1, by split <;> omega, ?_, rfl⟩
    rw [el_erase hk]
    split <;> rfl
  refine ⟨fun i hi => ?_, fun i hi => ?_, fun i j hij hj => ?_, fun i j hij hj ho => ?_⟩
  · obtain ⟨q, q1, q2, q3⟩ := e i (by omega); rw [q2]; exact h.gate q q1
  · obtain ⟨q, q1, q2, q3⟩ := e i (by omega); rw [q2]; exact h.le q q1
  · obtain ⟨q, q1, q2, q3⟩ := e i (by omega)
    obtain ⟨r, r1, r2, r3⟩ := e j (by omega)
    rw [q2, r2]
    exact h.sort q r (by rw [q3, r3]; split <;> split <;> omega) r1
  · obtain ⟨q, q1, q2, q3⟩ := e i (by omega)
    obtain ⟨r, r1, r2, r3⟩ := e j (by omega)
    rw [q2, r2] at ho ⊢
    exact h.play q r (by rw [q3, r3]; split <;> split <;> omega) r1 ho
theorem GoodG.cut {out : List Gate} {x : Int} {k : Nat} (h : GoodG out x) (hk : k < out.length) (h1 : (el out k).s < x) (h2 : x < (el out k).e) : GoodG (out.set k { el out k with e := x }) x := by
  have hl : (out.set k { el out k with e := x }).length = out.length := by simp
  have e : ∀ i, (el (out.set k { el out k with e := x }) i).s = (el out i).s ∧ (el (out.set k { el out k with e := x }) i).o = (el out i).o ∧ (el (out.set k { el out k with e := x }) i).e ≤ (el out i).e := fun i => by
    by_cases e : k = i
    · subst e; rw [el_set_eq hk]; exact ⟨rfl, rfl, by simp only; omega⟩
    · rw [el_set_ne e]; exact ⟨rfl, rfl, Int.le_refl _⟩
  refine ⟨fun i hi => ?_, fun i hi => ?_, fun i j hij hj => ?_, fun i j hij hj ho => ?_⟩
  · by_cases e : k = i
    · subst e
      rw [el_set_eq hk]
      have := gateB_iff.1 (h.gate k hk)
      exact gateB_iff.2 ⟨this.1, this.2.1, by simp only; omega, by simp only; omega, this.2.2.2.2⟩
    · rw [el_set_ne e]; exact h.gate i (by omega)
  · rw [(e i).1]; exact h.le i (by omega)
  · rw [(e i).1, (e j).1]; exact h.sort i j hij (by omega)
  · rw [(e i).2.1, (e j).2.1] at ho
    rw [(e j).1]
    have := h.play i j hij (by omega) ho
    have := (e i).2.2
    omega
theorem scanS_why (out : List Gate) (s : Int) : ∀ v, ((scanS out s v).1 < 0 → ∀ u : Nat, u < v → s < (el out (lastI u out).toNat).e) ∧ (0 ≤ (scanS out s v).1 → lastI (scanS out s v).1 out < 0 ∨ (el out (lastI (scanS out s v).1 out).toNat).e ≤ s)
  | 0 => by simp [scanS]
  | v + 1 => by
    obtain ⟨h1, h2⟩ := scanS_why out s v
    simp only [scanS]
    refine ⟨fun h u hu => ?_, fun h => ?_⟩
    · split at h
      · omega
      · rename_i hc
        rcases Nat.lt_or_ge u v with h' | h'
        · exact h1 h u h'
        · obtain rfl : u = v := by omega
          by_cases hl : s < (el out (lastI u out).toNat).e
          · exact hl
          · exact absurd ⟨h, .inr (by omega)⟩ hc
    · split at h
      · rename_i hc
        rw [if_pos hc]
        exact hc.2
      · rename_i hc
        rw [if_neg hc]
        exact h2 h
theorem GoodG.step {out : List Gate} {x sh : Int} {V : Nat} {g : Gate} (h : GoodG out x) (hx : x ≤ g.s) (hg : gateB g = true) (hV : 1 ≤ V ∧ V ≤ 4) : GoodG (stepS V (out, sh) g).1 g.s := by
  have h' := h.later hx
  have hgb := gateB_iff.1 hg
  obtain ⟨s1, s2, s3, s4⟩ := scanS_bd out g.s V
  have hgo : ∀ o : Int, 0 ≤ o → o ≤ 3 → gateB { g with o := o } = true := fun o a b => gateB_iff.2 ⟨⟨a, b⟩, hgb.2⟩
  -- the gates of a voice end where its last one begins, or before
  have volast : ∀ (w : Int) (k : Nat), lastI w out = k → ∀ i, i < out.length → (el out i).o = w → i = k ∨ (i < k ∧ k < out.length ∧ (el out i).e ≤ (el out k).s) := by
    intro w k hk i hi ho
    rcases lastI_spec w out with ⟨a1, a2⟩ | ⟨j, a1, a2, a3, a4⟩
    · exact absurd ho (a2 i hi)
    · obtain rfl : j = k := by rw [hk] at a1; omega
      rcases Nat.lt_trichotomy i j with h1 | h1 | h1
      · exact .inr ⟨h1, a2, h'.play i j h1 a2 (by rw [ho, a3])⟩
      · exact .inl h1
      · exact absurd ho (a4 i h1 hi)
  unfold stepS
  by_cases hf : (scanS out g.s V).1 < 0
  · rw [if_pos hf]
    simp only
    obtain ⟨k, hk, hkl, hko⟩ : ∃ k : Nat, lastI (scanS out g.s V).2 out = k ∧ k < out.length ∧ (el out k).o = (scanS out g.s V).2 := by
      rcases lastI_spec (scanS out g.s V).2 out with ⟨a1, a2⟩ | ⟨j, a1, a2, a3, a4⟩
      · have := s4 hf (scanS out g.s V).2.toNat (by omega)
        rw [show (((scanS out g.s V).2.toNat : Nat) : Int) = (scanS out g.s V).2 by omega, a1] at this
        omega
      · exact ⟨j, a1, a2, a3⟩
    rw [hk, show (k : Int).toNat = k by omega]
    have hvl := volast _ k hk
    by_cases hs : (el out k).s = g.s
    · rw [if_pos hs]
      refine (h'.erase hkl).snoc (g := { g with o := (scanS out g.s V).2 }) (hgo _ (by omega) (by omega)) fun i hi ho => ?_
      rw [el_erase hkl] at ho ⊢
      rw [List.length_eraseIdx, if_pos hkl] at hi
      split at ho
      · rename_i hik
        rw [if_pos hik]
        rcases hvl i (by omega) ho with h1 | ⟨-, -, h1⟩
        · omega
        · simp only; omega
      · rename_i hik
        rcases hvl (i + 1) (by omega) ho with h1 | ⟨h1, -, -⟩ <;> omega
    · rw [if_neg hs]
      have hle := h'.le k hkl
      -- the last gate goes on
      have hend : g.s < (el out k).e := by
        have := (scanS_why out g.s V).1 hf (scanS out g.s V).2.toNat (by omega)
        rw [show (((scanS out g.s V).2.toNat : Nat) : Int) = (scanS out g.s V).2 by omega, hk, show (k : Int).toNat = k by omega] at this
        exact this
      refine (h'.cut hkl (by omega) hend).snoc (g := { g with o := (scanS out g.s V).2 }) (hgo _ (by omega) (by omega)) fun i hi ho => ?_
      by_cases e : k = i
      · subst e; rw [el_set_eq hkl]; exact Int.le_refl _
      · rw [el_set_ne e] at ho ⊢
        rw [List.length_set] at hi
        rcases hvl i hi ho with h1 | ⟨-, -, h1⟩
        · omega
        · simp only; omega
  · rw [if_neg hf]
    simp only
    refine h'.snoc (g := { g with o := (scanS out g.s V).1 }) (hgo _ (by omega) (by omega)) fun i hi ho => ?_
    have hw := (scanS_why out g.s V).2 (by omega)
    rcases lastI_spec (scanS out g.s V).1 out with ⟨a1, a2⟩ | ⟨j, a1, a2, a3, a4⟩
    · exact absurd ho (a2 i hi)
    · rw [a1, show (j : Int).toNat = j by omega] at hw
      have hj : (el out j).e ≤ g.s := by omega
      have hjs := gateB_iff.1 (h'.gate j a2)
      rcases volast _ j a1 i hi ho with h1 | ⟨-, -, h1⟩
      · rw [h1]; exact hj
      · simp only; omega
end Go.Proofs.Ytimijeeihicohaa

namespace Go.Proofs.Ytimijeeihicohaa
open Go.ChangeShapes Go.WideShapes Go.ChangeAt Go.RowKit Go.Deep
set_option linter.unusedVariables false
set_option linter.unusedSimpArgs false
set_option maxRecDepth 100000
theorem code_cells (l : List Int) : cellsL codeR l = l.map (.int .u8) := by
  induction l with
  | nil => rfl
  | cons a l ih => rw [cellsL_cons, ih]; rfl
theorem open_code {H : Type} {enc : TypeId × Value → H} {W : World} {base : Nat} {t e : TypeId} {v : Value} {d : DataW H} {p q : List MemPlace} (ht : Try.prog.underlying t = some (.slice e)) (he : Try.prog.underlying e = some (.int .u8)) (hk : Try.prog.cellsOf e = 1)
    (hlt : ∀ x ∈ q, x.block < W.heap.size) (hv : Value.okWide Try.prog W .any base t v)
    (h : DataW.Trod enc Try.prog W 0 (fun _ => true) true t v d p) (hp : ∀ x ∈ p, x ∈ q) : ∃ (A : Option Addr) (n c : Nat) (zs : List Int), v = .slice A n c ∧ Rd W 1 A n c (cellsL codeR zs) ∧ (A = none → n = 0 ∧ c = 0) ∧ zs.length = n ∧ ∀ z ∈ zs, 0 ≤ z ∧ z ≤ 255 := by
  obtain ⟨a0, len, cap, rfl⟩ := okWide_slice ht hv
  obtain ⟨fuel, hf⟩ := h
  rcases open_slice ht hf with ⟨hcs, hx⟩ | ⟨a, len', cap', m, n, D, Pl, hcs, hb, hl, hm, hmm, hx, hi⟩
  · have hcs' : [Value.slice a0 len cap] = [.slice none 0 0] := hcs
    injection hcs' with hcs''
    injection hcs'' with h1 h2 h3
    subst h1; subst h2; subst h3
    exact ⟨_, _, _, [], rfl, ⟨by simp [cellsL], Nat.le_refl _, Nat.zero_le _, fun h => absurd h (by omega)⟩, fun _ => ⟨rfl, rfl⟩, rfl, by simp⟩
  · have hcs' : [Value.slice a0 len cap] = [.slice (some a) len' cap'] := hcs
    injection hcs' with hcs''
    injection hcs'' with h1 h2 h3
    subst h1; subst h2; subst h3
    simp only [if_pos] at hmm
    subst hmm
    rw [hk] at hx hi
    have each : ∀ i, i < len → ∃ z : Int, (0 ≤ z ∧ z ≤ 255) ∧ W.cell? (a.add i) = some (.int .u8 z) := by
      intro i hil
      obtain ⟨cs', hc, ht'⟩ := hi i (by omega)
      obtain ⟨_, hcl, hat⟩ := World.cells?_some hc
      obtain ⟨z, rfl, -, hw⟩ := DataW.trod_int he ht'
      refine ⟨z, ?_, ?_⟩
      · have e : (2 : Int) ^ IntKind.u8.bits = 256 := by decide
        have e2 : IntKind.u8.signed = false := rfl
        simp [Lit.wf, IntKind.min, IntKind.max, e2] at hw
        simp [IntKind.bits] at hw
        omega
      · have := hat 0 (by omega)
        rw [Nat.mul_one, add_add', Nat.add_zero] at this
        simpa using this
    have all : ∀ n', n' ≤ len → ∃ zs : List Int, zs.length = n' ∧ (∀ z ∈ zs, 0 ≤ z ∧ z ≤ 255) ∧ ∀ j x, zs[j]? = some x → W.cell? (a.add j) = some (.int .u8 x) := by
      intro n'
      induction n' with
      | zero => exact fun _ => ⟨[], rfl, by simp, fun j x h => by simp at h⟩
      | succ n' ih =>
        intro hn'
        obtain ⟨zs, hz1, hz2, hz3⟩ := ih (by omega)
        obtain ⟨y, hy1, hy2⟩ := each n' (by omega)
        refine ⟨zs ++ [y], by simp [hz1], fun z hz => ?_, fun j x hx => ?_⟩
        · rcases List.mem_append.1 hz with h | h
          · exact hz2 z h
          · simp at h; subst h; exact hy1
        · by_cases hj : j < n'
          · rw [List.getElem?_append_left (by omega)] at hx
            exact hz3 j x hx
          · rw [List.getElem?_append_right (by omega)] at hx
            have hj2 : j = n' := by
              have := (List.getElem?_eq_some_iff.1 hx).1
              simp at this
              omega
            subst hj2
            rw [hz1, Nat.sub_self] at hx
            simp at hx
            subst hx
            exact hy2
    obtain ⟨zs, hz1, hz2, hz3⟩ := all len (Nat.le_refl _)
    refine ⟨_, _, _, zs, rfl, ⟨by rw [cellsL_len, hz1], hl, hm, fun hn => ⟨a, rfl, ?_, fun j u hu => ?_⟩⟩, (fun h => nomatch h), hz1, hz2⟩
    · injection hx with _ hp'
      have hmem : ∃ x ∈ p, x.block = a.block := by
        refine ⟨.cell a.block (a.off + 0), ?_, rfl⟩
        rw [hp']
        refine List.mem_append_left _ ?_
        unfold MemPlace.row
        exact List.mem_map.2 ⟨0, by rw [List.mem_range]; omega, rfl⟩
      obtain ⟨x, hx1, hx2⟩ := hmem
      rw [← hx2]
      exact hlt x (hp x hx1)
    · rw [code_cells, List.getElem?_map] at hu
      obtain ⟨x, hx', rfl⟩ := Option.map_eq_some_iff.1 hu
      exact hz3 j x hx'
theorem Arg.code {H : Type} {enc : TypeId × Value → H} {W : World} {base : Nat} {t e : TypeId} {v : Value} {d : DataW H} {p q : List MemPlace} (ht : Try.prog.underlying t = some (.slice e)) (he : Try.prog.underlying e = some (.int .u8)) (hk : Try.prog.cellsOf e = 1)
    (hlt : ∀ x ∈ q, x.block < W.heap.size) (hv : Value.okWide Try.prog W .any base t v)
    (h : DataW.Trod enc Try.prog W 0 (fun _ => true) true t v d p) (hp : ∀ x ∈ p, x ∈ q) :
    Arg W v fun M v' => ∃ B n c cs, v' = .slice B n c ∧ n ≤ maxLen ∧ Sl codeR M B n cs ∧ ∀ x ∈ cs, 0 ≤ x ∧ x ≤ 255 := by
  obtain ⟨A, n, c, zs, rfl, h1, h2, h3, h4⟩ := open_code ht he hk hlt hv h hp
  intro M μ hr
  obtain ⟨L, μ', v, a1, a2, ⟨B, a3, a4, a5⟩, a6⟩ := Arg.slice h1 h3 (fun v hv => by rw [code_cells] at hv; obtain ⟨x, -, rfl⟩ := List.mem_map.1 hv; rfl) h2 M μ hr
  exact ⟨L, μ', v, a1, a2, ⟨B, n, c, zs, a3, a4, a5, h4⟩, a6⟩
attribute [local simp] List.getElem?_cons_zero
attribute [local irreducible] awCond awCall awLoop awDraw ow retQ retC resQ Keeps
theorem v8Long_a {M : Mem} {A B : Option Addr} {n c m d : Nat} : Det Try.prog M.length 17 [.slice A n c, .slice B m d] M (.bool (decide (1048576 < n) || decide (1048576 < m))) M := by
  first | (refine det_fn Try.func17 rfl Try.ntmps17 Try.results17 rfl rfl rfl (by simp) ?_) | (refine det_fnC Try.func17 rfl Try.ntmps17 Try.results17 rfl rfl (by simp) ?_)
  simp
  by_cases h1 : 1048576 < n
  · have h1' : (1048576 : Int) < n := by omega
    simp [h1, h1', Keeps.refl]
  · have h1' : ¬ (1048576 : Int) < n := by omega
    simp [h1, h1', Keeps.refl]
    omega
theorem v8At_a {M : Mem} {A : Option Addr} {n c : Nat} {cs : List Int} (k : Nat) (m : Int) (h : Sl codeR M A n cs) (hcs : ∀ x, x ∈ cs → 0 ≤ x ∧ x ≤ 255) (hk : k ≤ 1048576) (hm : m ≤ 1099511627776) (hn : n ≤ 1048576) :
    Ctr Try.prog M.length 21 [.slice A n c, iv k, iv m] M fun r M' => M' = M ∧ ∃ x : Int, r = iv x ∧ 0 ≤ x ∧ (x < m ∨ (m ≤ 1 ∧ x = 0)) := by
  have hl := h.1
  first | (refine ctr_fn Try.func21 rfl Try.ntmps21 Try.results21 rfl rfl (by simp) ?_) | (refine ctr_fnC Try.func21 rfl Try.ntmps21 Try.results21 rfl (by simp) ?_)
  simp
  by_cases h1 : m ≤ 1
  · simp [h1]
  · by_cases h2 : k < n
    · have h2' : ¬ n ≤ k := by omega
      have h2'' : ¬ (n : Int) ≤ k := by omega
      obtain ⟨id, off, rfl, he, hc⟩ := h.at_ h2
      have c0 : cellAt M id (off + k * 1) = some (.int .u8 (el cs k)) := hc 0 _ rfl
      simp only [Nat.mul_one] at c0
      have b0 := hcs _ (el_mem (l := cs) (i := k) (by omega))
      have hm0 : ¬ m = 0 := by omega
      have hmod : ∀ y : Int, 0 ≤ y → y.tmod m = y % m ∧ 0 ≤ y % m ∧ y % m < m := fun y hy => ⟨Int.tmod_eq_emod_of_nonneg hy, Int.emod_nonneg _ (by omega), Int.emod_lt_of_pos _ (by omega)⟩
      by_cases h3 : k + 1 < n
      · obtain ⟨_, _, e, _, hc2⟩ := h.at_ h3
        cases e
        have c1 : cellAt M id (off + (k + 1) * 1) = some (.int .u8 (el cs (k + 1))) := hc2 0 _ rfl
        simp only [Nat.mul_one] at c1
        have b1 := hcs _ (el_mem (l := cs) (i := k + 1) (by omega))
        have h3' : (k : Int) + 1 < n := by omega
        have e1 : ((k : Int) + 1).toNat = k + 1 := by omega
        obtain ⟨q1, q2, q3⟩ := hmod (256 * el cs k + el cs (k + 1)) (by omega)
        simp (disch := omega) [h1, h2', h2'', h2, he, c0, c1, h3', e1, wrap_in, hm0, q1]
        exact ⟨by omega, q2, q3⟩
      · have h3' : ¬ (k : Int) + 1 < n := by omega
        obtain ⟨q1, q2, q3⟩ := hmod (el cs k) (by omega)
        simp (disch := omega) [h1, h2', h2'', h2, he, c0, h3', wrap_in, hm0, q1]
        exact ⟨q2, q3⟩
    · have h2' : n ≤ k := by omega
      have h2'' : (n : Int) ≤ k := by omega
      simp [h1, h2', h2'']
      omega
end Go.Proofs.Ytimijeeihicohaa

namespace Go.Proofs.Ytimijeeihicohaa
open Go.RowKit
set_option linter.unusedVariables false
set_option linter.unusedSimpArgs false
set_option maxRecDepth 100000
attribute [local simp] List.getElem?_cons_zero
attribute [local irreducible] awCond awCall awLoop awDraw ow retQ retC resQ Keeps
/-- Drawn gates: in order, each of them good. -/
def DrG (l : List Gate) (x : Int) : Prop := (∀ i, i < l.length → gateB (el l i) = true ∧ (el l i).s ≤ x) ∧ (∀ i, 0 < i → i < l.length → (el l (i - 1)).s ≤ (el l i).s)
theorem DrG.later {l : List Gate} {x y : Int} (h : DrG l x) (hxy : x ≤ y) : DrG l y := ⟨fun i hi => ⟨(h.1 i hi).1, Int.le_trans (h.1 i hi).2 hxy⟩, h.2⟩
theorem DrG.snoc {l : List Gate} {g : Gate} (h : DrG l g.s) (hg : gateB g = true) : DrG (l ++ [g]) g.s := by
  have e1 : el (l ++ [g]) l.length = g := by rw [el_append_right (Nat.le_refl _), Nat.sub_self]; rfl
  have e2 : ∀ i, i < l.length → el (l ++ [g]) i = el l i := fun i hi => el_append_left hi
  have hl : (l ++ [g]).length = l.length + 1 := by simp
  have sp : ∀ i, i < l.length + 1 → i < l.length ∨ i = l.length := fun i hi => by omega
  refine ⟨fun i hi => ?_, fun i hi hj => ?_⟩
  · rcases sp i (by omega) with h' | rfl
    · rw [e2 i h']; exact h.1 i h'
    · rw [e1]; exact ⟨hg, Int.le_refl _⟩
  · rw [e2 (i - 1) (by omega)]
    rcases sp i (by omega) with h' | rfl
    · rw [e2 i h']; exact h.2 i hi h'
    · rw [e1]; exact (h.1 _ (by omega)).2
theorem gate_build (a b c d : Int) : Instr.fill (fun x => [(0, 1), (1, 1), (2, 1), (3, 1), (4, 1)][x]?) #[.int .i64 0, .int .i64 0, .int .i64 0, .int .i64 0, .int .i64 0] [(0, .int .i64 a), (1, .int .i64 b), (3, .int .i64 c), (4, .int .i64 d)] = some #[.int .i64 a, .int .i64 b, .int .i64 0, .int .i64 c, .int .i64 d] := by rfl
theorem l21Draw_a {M : Mem} {b g k B : Nat} (h : Src g B M k) (hb : b ≤ g) (hB : B ≤ M.length) (hk : k ≤ 1048576) :
    Ctr Try.prog b 49 [.pointer (some ⟨g, 0, none⟩), iv 14, iv 8] M fun r M' => ∃ l : List Gate, Acc gateR 63 M.length M' r l ∧ l.length ≤ 14 ∧ DrG l 4000 ∧ Same g M M' := by
  first | (refine ctr_fn Try.func49 rfl Try.ntmps49 Try.results49 rfl rfl (by simp) ?_) | (refine ctr_fnC Try.func49 rfl Try.ntmps49 Try.results49 rfl (by simp) ?_)
  simp
  have h1 := h.app [.live ⟨[], true, true, 63, 5⟩]
  refine awCall_ctr (h1.pick 4 hb (by omega) (by omega)) ?_
  rintro r M1 ⟨at0, k1, rfl, a0, a1, hk1, h2, u1⟩
  rw [show IntKind.i64.wrap 15 = 15 by decide]
  refine awCall_ctr (h2.pick 15 hb (by omega) (by omega)) ?_
  rintro r M2 ⟨cnt, k2, rfl, c0, c1, hk2, h3, u2⟩
  obtain ⟨cn, rfl⟩ := Int.eq_ofNat_of_zero_le c0
  have hg : g < B := by obtain ⟨_, _, _, _, _, h, _⟩ := h; exact h
  have hacc : Acc gateR 63 M.length M2 (.slice (some ⟨M.length, 0, none⟩) 0 0) [] := u2.acc (u1.acc ⟨_, _, _, rfl, rfl, .inr ⟨M.length, true, rfl, Nat.le_refl _, by rw [getElem?_snoc_eq]; rfl⟩⟩ (by omega)) (by omega)
  have hs2 : Same g M M2 := (Same.trans ⟨by simp, fun i s _ hs => by rw [List.getElem?_append_left (List.getElem?_eq_some_iff.1 hs).1]; exact hs⟩ (u1.same (Nat.le_refl _))).trans (u2.same (Nat.le_refl _))
  refine awLoop_T (fun m T M' => ∃ (l : List Gate) (v : Value) (x : Int) (k' : Nat), Acc gateR 63 M.length M' v l ∧ l.length + m = cn ∧ DrG l x ∧ 0 ≤ x ∧ x ≤ 4 + 7 * (l.length : Int) ∧ Src g B M' k' ∧ k' ≤ k + 4 + 14 * l.length ∧ Same g M M' ∧ look T 9 = some (iv m) ∧ look T 8 = some (iv x) ∧ look T 7 = some v ∧ look T 0 = some (.pointer (some ⟨g, 0, none⟩)) ∧ look T 2 = some (iv 8)) cn ⟨[], _, at0, k2, hacc, by simp, ⟨fun i hi => by simp at hi, fun i _ hi => by simp at hi⟩, a0, by simp; omega, h3, by simp; omega, hs2, by simp, by simp, by simp, by simp, by simp⟩ ?_
  rintro m T M3 ⟨l, v, x, k', hA, hl, hD, x0, x1, hS, hk', hsm, h9, h8, h7, h0, h2'⟩
  simp [h9]
  rcases m with _ | m
  · simp [h7]
    exact ⟨l, hA, by omega, hD.later (by omega), hsm⟩
  · have e : (0 : Int) < (m : Int) + 1 := by omega
    simp [h9, h8, h7, h0, h2']
    refine awCall_ctr (hS.pick 4 hb (by omega) (by omega)) ?_
    rintro r M4 ⟨vo, k4, rfl, v0, v1, hk4, hS4, u4⟩
    refine awCall_ctr (hS4.pick 24 hb (by omega) (by omega)) ?_
    rintro r M5 ⟨ke, k5, rfl, ke0, ke1, hk5, hS5, u5⟩
    simp (disch := omega) [h9, h8, h7, h0, h2', wrap_in]
    refine awCall_ctr (hS5.pick 127 hb (by omega) (by omega)) ?_
    rintro r M6 ⟨ve, k6, rfl, ve0, ve1, hk6, hS6, u6⟩
    have hBl : B ≤ M6.length := by
      have := hsm.1
      have := u4.1
      have := u5.1
      have := u6.1
      omega
    have hput0 := put_box (b := b) (M := M6) (t := true) (e := 63) (z := 5) (cs := [.int .i64 0, .int .i64 0, .int .i64 0, .int .i64 0, .int .i64 0]) (vs := [iv vo, iv x, iv 0, iv (48 + ke), iv (1 + ve)]) (by omega) rfl rfl
    simp (disch := omega) [h9, h8, h7, h0, h2', wrap_in, gate_build, hput0]
    refine awCall_ctr ((hS6.app _).pick 24 hb (by omega) (by omega)) ?_
    rintro r M7 ⟨le, k7, rfl, le0, le1, hk7, hS7, u7⟩
    have hb7 := u7.2 M6.length _ (by omega) getElem?_snoc_eq
    have hput := put_row (b := b) (p := 2) (v := iv (x + 1 + le)) hb7 (by omega) (by simp) rfl
    simp (disch := omega) [h9, h8, h7, h0, h2', wrap_in, hput]
    have hl7 : M6.length < M7.length := (List.getElem?_eq_some_iff.1 hb7).1
    obtain ⟨M8, hM8⟩ : ∃ M8 : Mem, M8 = M7.set M6.length (.live ⟨[iv vo, iv x, iv (x + 1 + le), iv (48 + ke), iv (1 + ve)], true, true, 63, 5⟩) := ⟨_, rfl⟩
    have c8 : cellsAt M8 M6.length 0 5 = some [iv vo, iv x, iv (x + 1 + le), iv (48 + ke), iv (1 + ve)] := by
      rw [hM8]; simp [cellsAt, hl7]
    have l8 : M8.length = M6.length + 1 := by rw [hM8, List.length_set, u7.1]; simp
    have s8 : Same M6.length M7 M8 := ⟨by rw [l8]; have := u7.1; simp at this; omega, fun i s hi hs => by rw [hM8, List.getElem?_set_ne (by omega)]; exact hs⟩
    have hS8 : Src g B M8 k7 := hS7.same (s8.low (by omega))
    have hA8 : Acc gateR 63 M.length M8 v l := by
      rw [hM8]
      exact (u6.acc (u5.acc (u4.acc hA (by omega)) (by omega)) (by omega)).box (by omega) u7
    have hs8 : Same g M M8 := ((((hsm.trans (u4.same (Nat.le_refl _))).trans (u5.same (Nat.le_refl _))).trans (u6.same (Nat.le_refl _))).trans (Same.app _ _ _)).trans ((u7.same (Nat.le_refl _)).trans (s8.low (by omega)))
    rw [← hM8]
    clear hput hM8
    simp (disch := omega) [h9, h8, h7, h0, h2', wrap_in, c8]
    refine Acc.append (R := gateR) (e := 63) (by_ := 40) (a := ⟨vo, x, x + 1 + le, 48 + ke, 1 + ve⟩) (hA8.keeps (keeps_app _)) (by omega) (by have := hs8.1; simp; omega) (by omega) (by simp) (by kernel_rfl) (by simp [srcOf, gateR, Gate.row]) (by rfl) (by omega) (by unfold maxLen; omega) ?_
    intro v' M9 hA9 s9
    have hS9 : Src g B M9 k7 := (hS8.app _).same (s9.low hB)
    have hs9 : Same g M M9 := (hs8.trans (Same.app _ _ _)).trans (s9.low (by omega))
    refine awCall_ctr (hS9.pick 8 hb (by omega) (by omega)) ?_
    rintro r M10 ⟨dx, k10, rfl, dx0, dx1, hk10, hS10, u10⟩
    simp (disch := omega) [h9, h8, h7, h0, h2', wrap_in]
    refine lpI m (by omega) ?_
    refine ⟨l ++ [⟨vo, x, x + 1 + le, 48 + ke, 1 + ve⟩], v', x + dx, k10, u10.acc hA9 (by omega), by simp; omega, ((hD.later (Int.le_refl _)).snoc (g := ⟨vo, x, x + 1 + le, 48 + ke, 1 + ve⟩) (gateB_iff.2 ⟨by simp only; omega, by simp only; omega⟩)).later (by simp only; omega), by omega, by simp; omega, hS10, by simp; omega, hs9.trans (u10.same (Nat.le_refl _)), by simp, by simp, by simp, by simp [h0], by simp [h2']⟩
theorem E8Gates_a {M : Mem} {A : Option Addr} {n c : Nat} {cs : List Int} (h : Sl codeR M A n cs) (hn : n ≤ 1048576) (hcs : ∀ x, x ∈ cs → 0 ≤ x ∧ x ≤ 255) :
    Ctr Try.prog M.length 20 [.slice A n c] M fun r M' => ∃ l : List Gate, OwL gateR M.length M'.length M' r l ∧ Keeps M M' ∧ l.length ≤ 14 ∧ DrG l 4000 := by
  first | (refine ctr_fn Try.func20 rfl Try.ntmps20 Try.results20 rfl rfl (by simp) ?_) | (refine ctr_fnC Try.func20 rfl Try.ntmps20 Try.results20 rfl (by simp) ?_)
  simp
  refine awCall_det' (l00From_a h hn hcs) (by simp) ?_
  refine awCall_ctr (l21Draw_a (src_new h hn hcs) (Nat.le_refl _) (by simp) (by omega)) ?_
  rintro r M1 ⟨l, hA, hl, hD, hs⟩
  have hk : Keeps M M1 := by
    unfold Keeps
    exact fun i s hi => hs.2 i s (List.getElem?_eq_some_iff.1 hi).1 (by rw [List.getElem?_append_left (List.getElem?_eq_some_iff.1 hi).1]; exact hi)
  exact ⟨l, ((hA.low (by simp)).fresh (by omega) hk).ow.1, hk, hl, hD⟩
end Go.Proofs.Ytimijeeihicohaa

namespace Go.Proofs.Ytimijeeihicohaa
open Go.RowKit
set_option linter.unusedVariables false
set_option linter.unusedSimpArgs false
theorem GoodG.ok {out : List Gate} {x : Int} (h : GoodG out x) (hl : out.length ≤ 60) : okG out = true := by
  rw [okG_of fun i hi => ⟨h.gate i hi, fun h0 => h.sort (i - 1) i (by omega) hi⟩]
  exact decide_eq_true hl
theorem GoodG.playB {out : List Gate} {x : Int} (h : GoodG out x) : playB out = true :=
  decide_eq_true fun i hi k hk hc => by have := h.play k i hk hi hc.1; omega
theorem GoodG.nil (x : Int) : GoodG [] x := ⟨fun i hi => by simp at hi, fun i hi => by simp at hi, fun i j _ hj => by simp at hj, fun i j _ hj => by simp at hj⟩
theorem GoodG.alloc {V : Nat} (hV : 1 ≤ V ∧ V ≤ 4) : ∀ (l : List Gate) (out : List Gate) (sh x : Int), GoodG out x → (∀ i, i < l.length → gateB (el l i) = true ∧ x ≤ (el l i).s) → (∀ i, 0 < i → i < l.length → (el l (i - 1)).s ≤ (el l i).s) →
    ∃ y, GoodG (l.foldl (stepS V) (out, sh)).1 y
  | [], out, sh, x, h, _, _ => ⟨x, h⟩
  | g :: l, out, sh, x, h, h1, h2 => by
    have hg := h1 0 (by simp)
    have hs := h.step (sh := sh) (V := V) hg.2 hg.1 hV
    rw [el_zero] at hs
    have up : ∀ i, i < l.length → g.s ≤ (el l i).s := by
      intro i
      induction i with
      | zero => intro hi; have := h2 1 (by omega) (by simpa using hi); rw [el_succ, show (1 - 1 : Nat) = 0 from rfl, el_zero] at this; exact this
      | succ i ih =>
        intro hi
        have := h2 (i + 2) (by omega) (by simp only [List.length_cons]; omega)
        rw [el_succ, show (i + 2 - 1 : Nat) = i + 1 from rfl, el_succ] at this
        exact Int.le_trans (ih (by omega)) this
    rw [List.foldl_cons]
    obtain ⟨o, s⟩ : ∃ o s, stepS V (out, sh) g = (o, s) := ⟨_, _, rfl⟩
    obtain ⟨s, e⟩ := s
    rw [e] at hs ⊢
    refine GoodG.alloc hV l o s g.s hs (fun i hi => ⟨by have := (h1 (i + 1) (by simpa using hi)).1; rwa [el_succ] at this, up i hi⟩) fun i h0 hi => ?_
    have := h2 (i + 1) (by omega) (by simpa using hi)
    rw [el_succ, show i + 1 - 1 = (i - 1) + 1 by omega, el_succ] at this
    exact this
theorem DrG.ok {l : List Gate} {x : Int} (h : DrG l x) (hl : l.length ≤ 14) : okG l = true := by
  rw [okG_of fun i hi => ⟨(h.1 i hi).1, fun h0 => h.2 i h0 hi⟩]
  exact decide_eq_true (by omega)
theorem DrG.alloc {l : List Gate} {x : Int} {V : Nat} (h : DrG l x) (hV : 1 ≤ V ∧ V ≤ 4) : ∃ y, GoodG (allocP V l).1 y :=
  GoodG.alloc hV l [] 0 0 (.nil 0) (fun i hi => ⟨(h.1 i hi).1, (gateB_iff.1 (h.1 i hi).1).2.1⟩) h.2
end Go.Proofs.Ytimijeeihicohaa

namespace Go.Proofs.Ytimijeeihicohaa
open Go.RowKit
set_option linter.unusedVariables false
set_option linter.unusedSimpArgs false
set_option maxRecDepth 100000
attribute [local simp] List.getElem?_cons_zero
attribute [local irreducible] awCond awCall awLoop awDraw ow retQ retC resQ Keeps
theorem floor_tdiv (a b : Int) (hb : 0 < b) : (if a.tmod b < 0 then a.tdiv b - 1 else a.tdiv b) = a / b := by
  have h3 := Int.mul_tdiv_add_tmod a b
  have h4 := Int.tmod_lt_of_pos a hb
  have h5 := Int.lt_tmod_of_pos a hb
  split
  · rename_i h
    have e : a = (a.tmod b + b) + b * (a.tdiv b - 1) := by rw [Int.mul_sub, Int.mul_one]; omega
    conv => rhs; rw [e]
    rw [Int.add_mul_ediv_left _ _ (by omega), Int.ediv_eq_zero_of_lt (by omega) (by omega)]
    omega
  · rename_i h
    have e : a = a.tmod b + b * a.tdiv b := by omega
    conv => rhs; rw [e]
    rw [Int.add_mul_ediv_left _ _ (by omega), Int.ediv_eq_zero_of_lt (by omega) (by omega)]
    omega
theorem tdiv_in {a b : Int} (ha : -1000000000 ≤ a) (ha2 : a ≤ 1000000000) (hb : 0 < b) : -1000000000 ≤ a.tdiv b ∧ a.tdiv b ≤ 1000000000 := by
  have h : (a.tdiv b).natAbs ≤ a.natAbs := by rw [Int.natAbs_tdiv]; exact Nat.div_le_self _ _
  omega
theorem floorDiv_i {M : Mem} (a b : Int) (ha : -1000000000 ≤ a) (ha2 : a ≤ 1000000000) (hb : 0 < b) : Det Try.prog M.length 120 [iv a, iv b] M (iv (a / b)) M := by
  have h := tdiv_in ha ha2 hb
  have hb0 : ¬ b = 0 := by omega
  first | (refine det_fn Try.func120 rfl Try.ntmps120 Try.results120 rfl rfl rfl (by simp) ?_) | (refine det_fnC Try.func120 rfl Try.ntmps120 Try.results120 rfl rfl (by simp) ?_)
  simp (disch := omega) [hb0, wrap_in]
  rw [← floor_tdiv a b hb]
  by_cases h2 : a.tmod b < 0
  · simp (disch := omega) [h2, wrap_in, Keeps.refl]
  · simp (disch := omega) [h2, wrap_in, Keeps.refl]
end Go.Proofs.Ytimijeeihicohaa

namespace Go.Proofs.Ytimijeeihicohaa
open Go.RowKit
set_option linter.unusedVariables false
set_option linter.unusedSimpArgs false
set_option maxRecDepth 100000
attribute [local simp] List.getElem?_cons_zero
attribute [local irreducible] awCond awCall awLoop awDraw ow retQ retC resQ Keeps
def lineV (f t L a : Int) : Int := if L ≤ a then t else f + (t - f) * a / L
def heldV (st : Int) : List Segment → Int → Int
  | [], _ => st
  | s :: l, a => if a < s.ln then lineV st s.tg s.ln a else heldV s.tg l (a - s.ln)
theorem heldV_cons {st : Int} {s : Segment} {l : List Segment} {a : Int} : heldV st (s :: l) a = if a < s.ln then lineV st s.tg s.ln a else heldV s.tg l (a - s.ln) := rfl
def levelV (e : Envl) (gate a : Int) : Int := if a < gate then heldV e.st e.segs a else lineV (heldV e.st e.segs gate) 0 e.rel (a - gate)
theorem line_mul {f t a : Int} (h1 : 0 ≤ f) (h2 : f ≤ 65536) (h3 : 0 ≤ t) (h4 : t ≤ 65536) (h5 : 0 ≤ a) (h6 : a ≤ 4000) : -262144000 ≤ (t - f) * a ∧ (t - f) * a ≤ 262144000 := by
  have h : ((t - f) * a).natAbs ≤ 65536 * 4000 := by
    rw [Int.natAbs_mul]
    exact Nat.mul_le_mul (by omega) (by omega)
  omega
theorem lineV_bd {f t L a : Int} (h1 : 0 ≤ f) (h2 : f ≤ 65536) (h3 : 0 ≤ t) (h4 : t ≤ 65536) (h5 : 0 ≤ a) (h7 : 0 ≤ L) : 0 ≤ lineV f t L a ∧ lineV f t L a ≤ 65536 := by
  unfold lineV
  split
  · exact ⟨h3, h4⟩
  · rename_i h
    have hL : 0 < L := by omega
    have haL : a ≤ L := by omega
    rcases Int.le_total f t with hft | hft
    · have m1 : 0 ≤ (t - f) * a := Int.mul_nonneg (by omega) h5
      have m2 : (t - f) * a ≤ (t - f) * L := Int.mul_le_mul_of_nonneg_left haL (by omega)
      have q1 : 0 ≤ (t - f) * a / L := Int.ediv_nonneg m1 (by omega)
      have q2 : (t - f) * a / L ≤ t - f := Int.ediv_le_of_le_mul hL m2
      omega
    · have m1 : (f - t) * a ≤ (f - t) * L := Int.mul_le_mul_of_nonneg_left haL (by omega)
      have m2 : 0 ≤ (f - t) * a := Int.mul_nonneg (by omega) h5
      have e1 : (t - f) * a = -((f - t) * a) := by rw [← Int.neg_mul]; congr 1; omega
      have e2 : (t - f) * L = -((f - t) * L) := by rw [← Int.neg_mul]; congr 1; omega
      have q1 : t - f ≤ (t - f) * a / L := Int.le_ediv_of_mul_le hL (by omega)
      have q2 : (t - f) * a / L ≤ 0 := by
        have := Int.ediv_le_of_le_mul (a := (t - f) * a) (b := 0) hL (by omega)
        exact this
      omega
theorem lineAt_i {M : Mem} (f t L a : Int) (h1 : 0 ≤ f) (h2 : f ≤ 65536) (h3 : 0 ≤ t) (h4 : t ≤ 65536) (h5 : 0 ≤ a) (h6 : a ≤ L) (h7 : L ≤ 4000) : Det Try.prog M.length 107 [iv f, iv t, iv L, iv a] M (iv (lineV f t L a)) M := by
  have hb := line_mul h1 h2 h3 h4 h5 (show a ≤ 4000 by omega)
  first | (refine det_fn Try.func107 rfl Try.ntmps107 Try.results107 rfl rfl rfl (by simp) ?_) | (refine det_fnC Try.func107 rfl Try.ntmps107 Try.results107 rfl rfl (by simp) ?_)
  simp
  by_cases h : a = L
  · have : L ≤ a := by omega
    simp [h, lineV, Keeps.refl]
  · have hl : ¬ L ≤ a := by omega
    have hv := lineV_bd (L := L) h1 h2 h3 h4 h5 (by omega)
    unfold lineV at hv
    rw [if_neg hl] at hv
    simp (disch := omega) [h, wrap_in]
    refine awCall_det' (floorDiv_i _ _ (by omega) (by omega) (by omega)) (by simp) ?_
    simp (disch := omega) [wrap_in, lineV, hl, Keeps.refl]
theorem envB_bd {e : Envl} (h : envB e = true) : (0 ≤ e.st ∧ e.st ≤ 65536) ∧ (0 ≤ e.rel ∧ e.rel ≤ 4000) ∧ e.segs.length ≤ 8 ∧ ∀ i, i < e.segs.length → (0 ≤ (el e.segs i).tg ∧ (el e.segs i).tg ≤ 65536) ∧ 0 ≤ (el e.segs i).ln ∧ (el e.segs i).ln ≤ 4000 := by
  unfold envB at h
  simp only [Bool.and_eq_true, decide_eq_true_eq] at h
  obtain ⟨⟨⟨h1, h2⟩, h3⟩, h4⟩ := h
  refine ⟨inB_iff.1 h2, inB_iff.1 h3, h4, fun i hi => ?_⟩
  have := List.all_eq_true.1 h1 _ (el_mem hi)
  unfold segB at this
  rw [Bool.and_eq_true] at this
  exact ⟨inB_iff.1 this.1, inB_iff.1 this.2⟩
theorem heldV_bd : ∀ (l : List Segment) (st a : Int), 0 ≤ st → st ≤ 65536 → 0 ≤ a → (∀ s, s ∈ l → segB s = true) → 0 ≤ heldV st l a ∧ heldV st l a ≤ 65536
  | [], st, a, h1, h2, _, _ => ⟨h1, h2⟩
  | s :: l, st, a, h1, h2, h3, h => by
    have hs := h s (by simp)
    unfold segB at hs
    rw [Bool.and_eq_true] at hs
    have b1 := inB_iff.1 hs.1
    have b2 := inB_iff.1 hs.2
    unfold heldV
    split
    · exact lineV_bd h1 h2 b1.1 b1.2 h3 b2.1
    · exact heldV_bd l _ _ b1.1 b1.2 (by omega) fun x hx => h x (by simp [hx])
theorem held_i {M : Mem} {lo hi : Nat} {us : List Value} {e : Envl} (a : Int) (h : envP.rd lo hi M e us) (hb : envB e = true) (h1 : 0 ≤ a) (h2 : a ≤ 4000) : Det Try.prog M.length 106 [.agg us.toArray, iv a] M (iv (heldV e.st e.segs a)) M := by
  obtain ⟨u, rfl, A, n, c, rfl, q1, q2, q3⟩ := h
  have hl := q3.1
  obtain ⟨b1, b2, b3, b4⟩ := envB_bd hb
  first | (refine det_fn Try.func106 rfl Try.ntmps106 Try.results106 rfl rfl rfl (by simp) ?_) | (refine det_fnC Try.func106 rfl Try.ntmps106 Try.results106 rfl rfl (by simp) ?_)
  simp
  refine awLoop_T (fun m T M' => ∃ (k : Nat) (lv at_ : Int), k + m = n ∧ Keeps M M' ∧ heldV e.st e.segs a = heldV lv (e.segs.drop k) at_ ∧ (0 ≤ lv ∧ lv ≤ 65536) ∧ (0 ≤ at_ ∧ at_ ≤ 4000) ∧ look T 13 = some (iv k) ∧ look T 12 = some (iv n) ∧ look T 11 = some (.slice A n c) ∧ look T 5 = some (iv lv) ∧ look T 1 = some (iv at_)) n ⟨0, e.st, a, by omega, keeps_app _, by simp, b1, ⟨h1, h2⟩, by simp, by simp, by simp, by simp, by simp⟩ ?_
  rintro m T M' ⟨k, lv, at_, hm, hK, hh, hlv, hat, t13, t12, t11, t5, t1⟩
  have hKl := hK.len
  by_cases hlt : k < n
  · obtain ⟨id, off, rfl, he, hc⟩ := (q3.sl.keeps hK).at_ hlt
    have w := b4 k (by omega)
    rw [drop_el (by omega), heldV_cons] at hh
    have hcl := segment_load hc
    simp (disch := omega) [t13, t12, t11, hlt, wrap_in, he, hcl]
    generalize el e.segs k = g at *
    by_cases hl2 : at_ < g.ln
    · rw [if_pos hl2] at hh
      simp (disch := omega) [t1, t5, hl2, wrap_in]
      refine awCall_det' (lineAt_i lv g.tg g.ln at_ (by omega) (by omega) (by omega) (by omega) (by omega) (by omega) (by omega)) (by simp <;> omega) ?_
      simp [hh, hK.app]
    · rw [if_neg hl2] at hh
      simp (disch := omega) [t1, t5, t13, hl2, wrap_in]
      refine lpI (m - 1) (by omega) ⟨k + 1, g.tg, at_ - g.ln, by omega, hK.app _, hh, w.1, by omega, by simp, by simp [t12], by simp [t11], by simp, by simp⟩
  · obtain rfl : k = n := by omega
    rw [List.drop_of_length_le (by omega)] at hh
    simp [t13, t12, t11, t5, hK]
    exact hh.symm
theorem levelV_bd {e : Envl} (hb : envB e = true) {gate a : Int} (h1 : 0 ≤ gate) (h2 : 0 ≤ a) : 0 ≤ levelV e gate a ∧ levelV e gate a ≤ 65536 := by
  obtain ⟨b1, b2, b3, b4⟩ := envB_bd hb
  have hs : ∀ s, s ∈ e.segs → segB s = true := by
    unfold envB at hb
    simp only [Bool.and_eq_true] at hb
    exact List.all_eq_true.1 hb.1.1.1
  unfold levelV
  split
  · exact heldV_bd _ _ _ b1.1 b1.2 h2 hs
  · have := heldV_bd e.segs e.st gate b1.1 b1.2 h1 hs
    exact lineV_bd this.1 this.2 (by omega) (by omega) (by omega) b2.1
theorem levelAt_i {M : Mem} {lo hi : Nat} {us : List Value} {e : Envl} (gate a : Int) (h : envP.rd lo hi M e us) (hb : envB e = true) (h1 : 0 ≤ gate) (h2 : gate ≤ 4000) (h3 : 0 ≤ a) (h4 : a ≤ 4000) : Det Try.prog M.length 79 [.agg us.toArray, iv gate, iv a] M (iv (levelV e gate a)) M := by
  have h' := h
  obtain ⟨u, rfl, hu⟩ := h'
  obtain ⟨b1, b2, b3, b4⟩ := envB_bd hb
  have hs : ∀ s, s ∈ e.segs → segB s = true := by
    have hb' := hb
    unfold envB at hb'
    simp only [Bool.and_eq_true] at hb'
    exact List.all_eq_true.1 hb'.1.1.1
  have hg := heldV_bd e.segs e.st gate b1.1 b1.2 h1 hs
  unfold levelV
  first | (refine det_fn Try.func79 rfl Try.ntmps79 Try.results79 rfl rfl rfl (by simp) ?_) | (refine det_fnC Try.func79 rfl Try.ntmps79 Try.results79 rfl rfl (by simp) ?_)
  simp
  by_cases c1 : a < gate
  · simp [c1]
    refine awCall_det' (held_i a (envP.app h _) hb h3 h4) (by simp) ?_
    simp [keeps_app]
  · simp (disch := omega) [c1, wrap_in]
    refine awCond_split ?_ ?_ <;> intro hr <;> simp at hr
    · simp [c1, keeps_app]
      unfold lineV
      rw [if_pos (by omega)]
    · simp (disch := omega) [c1, wrap_in]
      refine awDraw_E 8 [[],[],[0,1],[],[3],[],[],[5,6],[2,0,1,4,3,7,5,6],[8,2,0,1,4,3,7,5,6]] (by kernel_rfl) (by kernel_rfl) ?_
      simp (disch := omega) [c1, wrap_in]
      refine awCall_det' (d := true) (held_i gate (envP.app h _) hb h1 h2) (by simp) ?_
      simp (disch := omega) [c1, wrap_in]
      refine awCall_det' (lineAt_i _ 0 e.rel (a - gate) hg.1 hg.2 (by omega) (by omega) (by omega) (by omega) (by omega)) (by simp) ?_
      simp [keeps_app]
end Go.Proofs.Ytimijeeihicohaa

namespace Go.Proofs.Ytimijeeihicohaa
open Go.RowKit
set_option linter.unusedVariables false
set_option linter.unusedSimpArgs false
set_option maxRecDepth 100000
attribute [local simp] List.getElem?_cons_zero
attribute [local irreducible] awCond awCall awLoop awDraw ow retQ retC resQ Keeps
structure Clip where
  (src fr len at_ gain : Int)
deriving Inhabited, DecidableEq
def Clip.row (c : Clip) : List Value := [iv c.src, iv c.fr, iv c.len, iv c.at_, iv c.gain]
abbrev Clip.v (c : Clip) : Value := .agg #[iv c.src, iv c.fr, iv c.len, iv c.at_, iv c.gain]
@[simp] theorem clip_fill (x0 x1 x2 x3 x4 : Int) : Instr.fill (fun i => some (i * 5, 5)) (zrow [iv 0, iv 0, iv 0, iv 0, iv 0] 1).toArray [(0, .agg #[iv x0, iv x1, iv x2, iv x3, iv x4])] = some #[iv x0, iv x1, iv x2, iv x3, iv x4] := fill_agg (by omega) rfl rfl
end Go.Proofs.Ytimijeeihicohaa
