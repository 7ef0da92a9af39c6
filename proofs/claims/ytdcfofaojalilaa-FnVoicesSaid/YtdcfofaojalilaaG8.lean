/- Gates: the reference gives voices. No conditions. -/
import Derived.Test.YtdcfofaojalilaaG7
namespace Go.Proofs.Ytdcfofaojalilaa
open Go.RowKit
set_option linter.unusedVariables false
set_option linter.unusedSimpArgs false
set_option maxRecDepth 100000
attribute [local simp] List.getElem?_cons_zero
attribute [local irreducible] awCond awCall awLoop awDraw ow retQ retC resQ Keeps
set_option maxHeartbeats 4000000 in
theorem l21Allocate_a {M : Mem} {A : Option Addr} {n c : Nat} {l : List Gate} (V : Nat) (h : Sl gateR M A n l) (hok : okG l = true) (hn : n ≤ 60) (hV : 1 ≤ V ∧ V ≤ 4) : Ctr Try.prog M.length 53 [.slice A n c, iv V] M fun r M' => ∃ v0, r = .tuple #[v0, iv (allocP V l).2] ∧ Fresh gateR M v0 M' (allocP V l).1 := by
  have hl := h.1
  first | (refine ctr_fn Try.func53 rfl Try.ntmps53 Try.results53 rfl rfl (by simp) ?_) | (refine ctr_fnC Try.func53 rfl Try.ntmps53 Try.results53 rfl (by simp) ?_)
  simp
  refine awLoop_T (fun m T M' => ∃ (i : Nat) (u : Value), i + m = n ∧ Keeps M M' ∧ Acc gateR 45 M.length M' u (allocP V (l.take i)).1 ∧ look T 8 = some (iv i) ∧ look T 6 = some u ∧ look T 7 = some (iv (allocP V (l.take i)).2) ∧ look T 0 = some (.slice A n c) ∧ look T 1 = some (iv V)) n ⟨0, .slice (some ⟨M.length, 0, none⟩) 0 0, by omega, keeps_app _, ⟨some ⟨M.length, 0, none⟩, 0, 0, rfl, by simp [allocP], .inr ⟨M.length, true, rfl, Nat.le_refl _, by simp [allocP, cellsL]⟩⟩, by simp, by simp, by simp [allocP], by simp, by simp⟩ ?_
  rintro m T M' ⟨i, u, hm, hK, hA, h8, h6, h7, h0, h1⟩
  have hKl := hK.len
  have hal := allocP_len V (l.take i) ([], 0)
  have hal2 : (allocP V (l.take i)).1.length ≤ i ∧ 0 ≤ (allocP V (l.take i)).2 ∧ (allocP V (l.take i)).2 ≤ i := by
    have e : (l.take i).length ≤ i := by simp; omega
    unfold allocP
    simp only [List.length_nil] at hal
    omega
  by_cases hlt : i < n
  · obtain ⟨id, off, rfl, he, hc⟩ := h.at_ hlt
    have hst : allocP V (l.take (i + 1)) = stepS V (allocP V (l.take i)) (el l i) := by rw [take_el (by omega), allocP_snoc]
    rcases hP : allocP V (l.take i) with ⟨out, sh⟩
    rw [hP] at hst hA h7 hal2
    simp only at hA h7 hal2
    obtain ⟨A', n', c', rfl, hln, hsl, hone⟩ := hA.sl
    have hb := okG_el hok (el_mem (l := l) (i := i) (by omega))
    simp (disch := omega) [h8, h0, hlt, wrap_in, rowEsz_keeps hK he, gate_load (hc.keeps hK)]
    refine awLoop_T (fun m2 T M2 => ∃ v : Nat, v + m2 = V ∧ M2 = M' ++ [.live ⟨[iv (el l i).o, iv (el l i).s, iv (el l i).e, iv (el l i).k, iv (el l i).u], true, true, 45, 5⟩] ∧ look T 12 = some (iv v) ∧ look T 10 = some (iv (scanS out (el l i).s v).1) ∧ look T 11 = some (iv (scanS out (el l i).s v).2) ∧ look T 9 = some (.pointer (some ⟨M'.length, 0, none⟩)) ∧ look T 8 = some (iv i) ∧ look T 6 = some (.slice A' n' c') ∧ look T 7 = some (iv sh) ∧ look T 0 = some (.slice (some ⟨id, off, none⟩) n c) ∧ look T 1 = some (iv V)) V ⟨0, by omega, rfl, by simp, by simp [scanS], by simp [scanS], by simp, by simp [h8], by simp [h6], by simp [h7], by simp [h0], by simp [h1]⟩ ?_
    rintro m2 T2 M2 ⟨v, hm2, rfl, g12, g10, g11, g9, g8, g6, g7, g0, g1⟩
    have hslb : Sl gateR (M' ++ [.live ⟨[iv (el l i).o, iv (el l i).s, iv (el l i).e, iv (el l i).k, iv (el l i).u], true, true, 45, 5⟩]) A' n' out := hsl.app _
    obtain ⟨s1, s2, s3, s4⟩ := scanS_bd out (el l i).s v
    by_cases hlv : v < V
    · have hlv' : (v : Int) < V := by omega
      simp (disch := omega) [g12, g6, g1, hlv', wrap_in]
      refine awCall_det' (l21Last_a (v : Int) hslb (by omega)) (by simp; omega) ?_
      refine awDraw_E 13 [[],[0],[1,0],[2,1,0],[3,2,1,0],[4,3,2,1,0],[5,4,3,2,1,0],[5,4,3,2,1,0],[6,5,4,3,2,1,0,7],[8,6,5,4,3,2,1,0,7],[9,8,6,5,4,3,2,1,0,7],[5,4,3,2,1,0],[11,5,4,3,2,1,0],[10,9,8,6,5,4,3,2,1,0,7,12,11],[5,4,3,2,1,0,13,10,9,8,6,7,12,11],[2,1,0,14,5,4,3,13,10,9,8,6,7,12,11]] (by kernel_rfl) (by kernel_rfl) ?_
      have hsc : scanS out (el l i).s (v + 1) = (if (scanS out (el l i).s v).1 < 0 ∧ (lastI v out < 0 ∨ (el out (lastI v out).toNat).e ≤ (el l i).s) then (v : Int) else (scanS out (el l i).s v).1, if 0 ≤ lastI v out ∧ (if (scanS out (el l i).s v).1 < 0 ∧ (lastI v out < 0 ∨ (el out (lastI v out).toNat).e ≤ (el l i).s) then (v : Int) else (scanS out (el l i).s v).1) < 0 ∧ (el out (lastI v out).toNat).s < (el out (lastI (scanS out (el l i).s v).2 out).toNat).s then (v : Int) else (scanS out (el l i).s v).2) := rfl
      rcases hR : scanS out (el l i).s v with ⟨f0, o0⟩
      rw [hR] at g10 g11 s1 s2 s3 s4 hsc
      simp only at g10 g11 s1 s2 s3 s4 hsc
      rcases lastI_spec (v : Int) out with ⟨hk, hnone⟩ | ⟨j, hk, hjl, hjo, hjm⟩
      · rw [hk] at hsc
        have hng : ¬ (0 : Int) ≤ -1 := by omega
        by_cases hf : f0 < 0
        · have hS : scanS out (el l i).s (v + 1) = ((v : Int), o0) := by rw [hsc]; simp [hf]
          simp (disch := omega) [hk, hf, g12, g10, g11, g9, g8, g6, wrap_in]
          refine awDraw_E 19 [[],[0],[1,0],[2,1,0],[3,2,1,0],[2,1,0,4,3],[5,2,1,0,4,3],[6,5,2,1,0,4,3],[6,5,2,1,0,4,3],[7,6,5,2,1,0,4,3,8],[9,7,6,5,2,1,0,4,3,8],[10,9,7,6,5,2,1,0,4,3,8],[6,5,2,1,0,4,3],[6,5,2,1,0,4,3],[6,5,2,1,0,4,3],[13,6,5,2,1,0,4,3,14],[12,6,5,2,1,0,4,3,15,13,14],[16,12,6,5,2,1,0,4,3,15,13,14],[17,16,12,6,5,2,1,0,4,3,15,13,14],[11,10,9,7,6,5,2,1,0,4,3,8,18,17,16,12,15,13,14],[6,5,2,1,0,4,3,19,11,10,9,7,8,18,17,16,12,15,13,14]] (by kernel_rfl) (by kernel_rfl) ?_
          simp (disch := omega) [hk, g12, g10, g11, g9, g8, g6, wrap_in]
          refine lpI (m2 - 1) (by omega) ?_
          exact ⟨v + 1, by omega, rfl, by simp, by simp [hS, g10], by simp [hS, g11], by simp [g9], by simp [g8], by simp [g6], by simp [g7], by simp [g0], by simp [g1]⟩
        · have hS : scanS out (el l i).s (v + 1) = (f0, o0) := by rw [hsc]; simp [hf]
          simp (disch := omega) [hk, hf, g12, g10, g11, g9, g8, g6, wrap_in]
          refine awDraw_E 19 [[],[0],[1,0],[2,1,0],[3,2,1,0],[2,1,0,4,3],[5,2,1,0,4,3],[6,5,2,1,0,4,3],[6,5,2,1,0,4,3],[7,6,5,2,1,0,4,3,8],[9,7,6,5,2,1,0,4,3,8],[10,9,7,6,5,2,1,0,4,3,8],[6,5,2,1,0,4,3],[6,5,2,1,0,4,3],[6,5,2,1,0,4,3],[13,6,5,2,1,0,4,3,14],[12,6,5,2,1,0,4,3,15,13,14],[16,12,6,5,2,1,0,4,3,15,13,14],[17,16,12,6,5,2,1,0,4,3,15,13,14],[11,10,9,7,6,5,2,1,0,4,3,8,18,17,16,12,15,13,14],[6,5,2,1,0,4,3,19,11,10,9,7,8,18,17,16,12,15,13,14]] (by kernel_rfl) (by kernel_rfl) ?_
          simp (disch := omega) [hk, g12, g10, g11, g9, g8, g6, wrap_in]
          refine lpI (m2 - 1) (by omega) ?_
          exact ⟨v + 1, by omega, rfl, by simp, by simp [hS, g10], by simp [hS, g11], by simp [g9], by simp [g8], by simp [g6], by simp [g7], by simp [g0], by simp [g1]⟩
      · obtain ⟨oid, ooff, rfl, hoe, hoc⟩ := hslb.at_ (i := j) (by omega)
        obtain ⟨d0, d1, d2, d3, d4⟩ := gate_cells hoc
        rw [hk] at hsc
        have hkn : (j : Int).toNat = j := by omega
        rw [hkn] at hsc
        have hjn : ¬ ((j : Int) < 0) := by omega
        have hjp : (0 : Int) ≤ j := by omega
        by_cases hf : f0 < 0
        · by_cases he2 : (el out j).e ≤ (el l i).s
          · have hvn : ¬ ((v : Int) < 0) := by omega
            have hS : scanS out (el l i).s (v + 1) = ((v : Int), o0) := by rw [hsc]; simp [hf, he2, hvn]
            simp (disch := omega) [hk, hf, hjn, hoe, d2, he2, g12, g10, g11, g9, g8, g6, wrap_in]
            refine ⟨by omega, ?_⟩
            refine awDraw_E 19 [[],[0],[1,0],[2,1,0],[3,2,1,0],[2,1,0,4,3],[5,2,1,0,4,3],[6,5,2,1,0,4,3],[6,5,2,1,0,4,3],[7,6,5,2,1,0,4,3,8],[9,7,6,5,2,1,0,4,3,8],[10,9,7,6,5,2,1,0,4,3,8],[6,5,2,1,0,4,3],[6,5,2,1,0,4,3],[6,5,2,1,0,4,3],[13,6,5,2,1,0,4,3,14],[12,6,5,2,1,0,4,3,15,13,14],[16,12,6,5,2,1,0,4,3,15,13,14],[17,16,12,6,5,2,1,0,4,3,15,13,14],[11,10,9,7,6,5,2,1,0,4,3,8,18,17,16,12,15,13,14],[6,5,2,1,0,4,3,19,11,10,9,7,8,18,17,16,12,15,13,14]] (by kernel_rfl) (by kernel_rfl) ?_
            simp (disch := omega) [hk, hjp, hvn, g12, g10, g11, g9, g8, g6, wrap_in]
            refine lpI (m2 - 1) (by omega) ?_
            exact ⟨v + 1, by omega, rfl, by simp, by simp [hS, g10], by simp [hS, g11], by simp [g9], by simp [g8], by simp [g6], by simp [g7], by simp [g0], by simp [g1]⟩
          · obtain ⟨j2, hk2, hj2⟩ : ∃ j2 : Nat, lastI o0 out = j2 ∧ j2 < out.length := by
              rcases lastI_spec o0 out with ⟨h3, h4⟩ | ⟨j2, h3, h4, -⟩
              · exfalso
                rcases s3 with s3 | s3
                · have := s4 hf o0.toNat (by omega)
                  rw [show ((o0.toNat : Nat) : Int) = o0 by omega] at this
                  omega
                · subst s3
                  rcases Nat.eq_zero_or_pos v with hv0 | hv0
                  · subst hv0
                    have e0 : ((0 : Nat) : Int) = 0 := rfl
                    rw [e0] at hk
                    rw [hk] at h3
                    omega
                  · have := s4 hf 0 hv0
                    have e0 : ((0 : Nat) : Int) = 0 := rfl
                    rw [e0, h3] at this
                    omega
              · exact ⟨j2, h3, h4⟩
            obtain ⟨_, _, e', hoe2, hoc2⟩ := hslb.at_ (i := j2) (by omega)
            cases e'
            obtain ⟨f0', f1, f2, f3, f4⟩ := gate_cells hoc2
            rw [hk2, show (j2 : Int).toNat = j2 by omega] at hsc
            simp (disch := omega) [hk, hf, hjn, hoe, d2, he2, g12, g10, g11, g9, g8, g6, wrap_in]
            refine ⟨by omega, ?_⟩
            refine awDraw_E 19 [[],[0],[1,0],[2,1,0],[3,2,1,0],[2,1,0,4,3],[5,2,1,0,4,3],[6,5,2,1,0,4,3],[6,5,2,1,0,4,3],[7,6,5,2,1,0,4,3,8],[9,7,6,5,2,1,0,4,3,8],[10,9,7,6,5,2,1,0,4,3,8],[6,5,2,1,0,4,3],[6,5,2,1,0,4,3],[6,5,2,1,0,4,3],[13,6,5,2,1,0,4,3,14],[12,6,5,2,1,0,4,3,15,13,14],[16,12,6,5,2,1,0,4,3,15,13,14],[17,16,12,6,5,2,1,0,4,3,15,13,14],[11,10,9,7,6,5,2,1,0,4,3,8,18,17,16,12,15,13,14],[6,5,2,1,0,4,3,19,11,10,9,7,8,18,17,16,12,15,13,14]] (by kernel_rfl) (by kernel_rfl) ?_
            simp (disch := omega) [hk, hjp, hf, hoe, d1, g12, g10, g11, g9, g8, g6, wrap_in]
            refine ⟨by omega, ?_⟩
            refine awCall_det' (l21Last_a o0 hslb (by omega)) (by simp <;> omega) ?_
            by_cases hlt2 : (el out j).s < (el out j2).s
            · have hS : scanS out (el l i).s (v + 1) = (f0, (v : Int)) := by rw [hsc]; simp [hf, he2, hlt2, hjn, show ¬ (0 : Int) ≤ f0 by omega]
              simp (disch := omega) [hk2, hoe, f1, hlt2, g12, g10, g11, g9, g8, g6, wrap_in]
              refine ⟨by omega, ?_⟩
              refine lpI (m2 - 1) (by omega) ?_
              exact ⟨v + 1, by omega, rfl, by simp, by simp [hS, g10], by simp [hS, g11], by simp [g9], by simp [g8], by simp [g6], by simp [g7], by simp [g0], by simp [g1]⟩
            · have hS : scanS out (el l i).s (v + 1) = (f0, o0) := by rw [hsc]; simp [hf, he2, hlt2, hjn, show ¬ (0 : Int) ≤ f0 by omega]
              simp (disch := omega) [hk2, hoe, f1, hlt2, g12, g10, g11, g9, g8, g6, wrap_in]
              refine ⟨by omega, ?_⟩
              refine lpI (m2 - 1) (by omega) ?_
              exact ⟨v + 1, by omega, rfl, by simp, by simp [hS, g10], by simp [hS, g11], by simp [g9], by simp [g8], by simp [g6], by simp [g7], by simp [g0], by simp [g1]⟩
        · have hS : scanS out (el l i).s (v + 1) = (f0, o0) := by rw [hsc]; simp [hf]
          simp (disch := omega) [hk, hf, g12, g10, g11, g9, g8, g6, wrap_in]
          refine awDraw_E 19 [[],[0],[1,0],[2,1,0],[3,2,1,0],[2,1,0,4,3],[5,2,1,0,4,3],[6,5,2,1,0,4,3],[6,5,2,1,0,4,3],[7,6,5,2,1,0,4,3,8],[9,7,6,5,2,1,0,4,3,8],[10,9,7,6,5,2,1,0,4,3,8],[6,5,2,1,0,4,3],[6,5,2,1,0,4,3],[6,5,2,1,0,4,3],[13,6,5,2,1,0,4,3,14],[12,6,5,2,1,0,4,3,15,13,14],[16,12,6,5,2,1,0,4,3,15,13,14],[17,16,12,6,5,2,1,0,4,3,15,13,14],[11,10,9,7,6,5,2,1,0,4,3,8,18,17,16,12,15,13,14],[6,5,2,1,0,4,3,19,11,10,9,7,8,18,17,16,12,15,13,14]] (by kernel_rfl) (by kernel_rfl) ?_
          simp (disch := omega) [hk, hjp, hf, g12, g10, g11, g9, g8, g6, wrap_in]
          refine lpI (m2 - 1) (by omega) ?_
          exact ⟨v + 1, by omega, rfl, by simp, by simp [hS, g10], by simp [hS, g11], by simp [g9], by simp [g8], by simp [g6], by simp [g7], by simp [g0], by simp [g1]⟩
    · obtain rfl : v = V := by omega
      have hvv : ¬ (v : Int) < v := by omega
      rcases hR : scanS out (el l i).s v with ⟨f0, o0⟩
      rw [hR] at g10 g11 s1 s2 s3 s4
      simp only at g10 g11 s1 s2 s3 s4
      simp (disch := omega) [g12, g1, g10, g9]
      by_cases hf : f0 < 0
      · obtain ⟨j, hk, hjl⟩ : ∃ j : Nat, lastI o0 out = j ∧ j < out.length := by
          rcases lastI_spec o0 out with ⟨h3, h4⟩ | ⟨j2, h3, h4, -⟩
          · exfalso
            have := s4 hf o0.toNat (by omega)
            rw [show ((o0.toNat : Nat) : Int) = o0 by omega] at this
            omega
          · exact ⟨j2, h3, h4⟩
        simp (disch := omega) [hf, g7, g6, g11, wrap_in]
        refine awCall_det' (l21Last_a o0 (hsl.app _) (by omega)) (by simp; omega) ?_
        have hAx := hA
        obtain ⟨A2, n2, c2, e2, hl2, hA2⟩ := hAx
        injection e2 with e3 e4 e5
        subst e3; subst e4; subst e5
        rcases hA2 with ⟨-, hz0, -⟩ | ⟨oid, tt, rfl, hoid, hor⟩
        · omega
        have hol := (List.getElem?_eq_some_iff.1 hor).1
        obtain ⟨N, hN⟩ : ∃ N : Mem, N = M' ++ [.live ⟨[iv f0, iv (el l i).s, iv (el l i).e, iv (el l i).k, iv (el l i).u], true, true, 45, 5⟩] := ⟨_, rfl⟩
        rw [← hN]
        have hlN : N.length = M'.length + 1 := by rw [hN]; simp
        have hb0 : N[M'.length]? = some (.live ⟨[iv f0, iv (el l i).s, iv (el l i).e, iv (el l i).k, iv (el l i).u], true, true, 45, 5⟩) := by rw [hN]; simp
        have hor' : N[oid]? = some (.live ⟨cellsL gateR out, true, tt, 45, 5⟩) := by rw [hN, List.getElem?_append_left hol]; exact hor
        have hKN : Keeps M N := by rw [hN]; exact hK.app _
        clear hN
        have q1 : cellAt N M'.length 1 = some (iv (el l i).s) := by simp [cellAt, hb0]
        have q2 : rowEsz N oid = some 5 := by simp [rowEsz, hor']
        obtain ⟨N2, hN2⟩ : ∃ N2 : Mem, N2 = N.set oid (.live ⟨cellsL gateR (out.set j { el out j with e := (el l i).s }), true, tt, 45, 5⟩) := ⟨_, rfl⟩
        have hput : putCells M.length N oid (j * 5 + 2) [iv (el l i).s] = some N2 := by
          have := put_set (b := M.length) (M := N) (id := oid) (p := j * 5 + 2) (v := iv (el l i).s) (cs := cellsL gateR out) (t := tt) (e := 45) (z := 5) (by omega) hoid (by rw [cellsL_len]; omega) rfl
          rw [set_self hor', cells_set_e hjl] at this
          rw [this, hN2]
        have hr2 : N2[oid]? = some (.live ⟨cellsL gateR (out.set j { el out j with e := (el l i).s }), true, tt, 45, 5⟩) := by rw [hN2, List.getElem?_set_self (by omega)]
        have hb2 : N2[M'.length]? = some (.live ⟨[iv f0, iv (el l i).s, iv (el l i).e, iv (el l i).k, iv (el l i).u], true, true, 45, 5⟩) := by rw [hN2, List.getElem?_set_ne (by omega)]; exact hb0
        have hK2 : Keeps M N2 := by rw [hN2]; exact keeps_set hKN hoid
        have hl2' : N2.length = N.length := by rw [hN2]; simp
        clear hN2
        have hlo : (out.set j { el out j with e := (el l i).s }).length = n' := by simp; omega
        have hacc2 : Acc gateR 45 M.length N2 (.slice (some ⟨oid, 0, none⟩) n' c') (out.set j { el out j with e := (el l i).s }) := ⟨_, _, _, rfl, hlo, .inr ⟨oid, tt, rfl, hoid, hr2⟩⟩
        obtain ⟨_, _, _, ez, _, hsl2, _⟩ := hacc2.sl
        injection ez with ez1 ez2 ez3
        subst ez1; subst ez2; subst ez3
        obtain ⟨_, _, ey, hy1, hy2⟩ := hsl2.at_ (i := j) (by omega)
        cases ey
        rw [el_set_self hjl] at hy2
        obtain ⟨w0, w1, w2, w3, w4⟩ := gate_cells hy2
        simp only [Nat.zero_add] at w0 w1 w2 w3 w4
        have z1 : cellAt N2 M'.length 1 = some (iv (el l i).s) := by simp [cellAt, hb2]
        have z2 : rowEsz N2 oid = some 5 := by simp [rowEsz, hr2]
        simp (disch := omega) [g9, hk, q1, q2, hput]
        refine ⟨by omega, ?_⟩
        refine awDraw_E 7 [[],[],[0,1],[2,0,1],[3,2,0,1],[],[5],[4,3,2,0,1,6,5]] (by kernel_rfl) (by kernel_rfl) ?_
        simp (disch := omega) [g6, g9, z1, z2, w1]
        refine ⟨by omega, ?_⟩
        by_cases hs : (el out j).s = (el l i).s
        · have hstep : allocP v (l.take (i + 1)) = (out.eraseIdx j ++ [{ el l i with o := o0 }], sh + 1) := by rw [hst]; simp [stepS, hR, hf, hk, hs]
          simp (disch := omega) [hs]
          refine awDraw_D 9 [[],[],[],[1,2],[0,3,1,2],[],[],[6],[5,7,6],[4,0,3,1,2,8,5,7,6],[9,4,0,3,1,2,8,5,7,6]] (by kernel_rfl) (by decide +kernel) ?_
          have etn : ((j : Int) + 1).toNat = j + 1 := by omega
          have hol2 := (List.getElem?_eq_some_iff.1 hr2).1
          simp (disch := omega) [g6, z2, wrap_in, etn]
          refine ⟨by omega, by simp [rowEsz, List.getElem?_append_left hol2, hr2], ?_⟩
          obtain ⟨out1, ho1⟩ : ∃ out1, out1 = out.set j { el out j with e := (el l i).s } := ⟨_, rfl⟩
          have hel : out1.take j ++ out1.drop (j + 1) = out.eraseIdx j := by rw [← List.eraseIdx_eq_take_drop_succ, ho1, List.eraseIdx_set_eq]
          rw [← ho1] at hsl2 hlo
          have hlt1 : (out1.take j).length = j := by rw [List.length_take]; omega
          have hld1 : (out1.drop (j + 1)).length = n' - (j + 1) := by rw [List.length_drop]; omega
          have hle1 : (out.eraseIdx j).length ≤ 60 := by have := List.length_eraseIdx_le out j; omega
          refine append_new (R := gateR) (e := 45) (by_ := 40) (ls := out1.take j) (by simp) (by simp) (by kernel_rfl) (((hsl2.take (m := j) (by omega)).app _).src (by omega) ⟨_, Try.underlying25⟩) (gate_one _) (by omega) (by unfold maxLen; omega) (fun h0 => ?_) (fun h0 => ?_)
          · skip
            refine ⟨[], by simp, ⟨by omega, by omega⟩, by simp [rowEsz, List.getElem?_append_left hol2, hr2], ?_⟩
            refine Acc.extend (R := gateR) (e := 45) (B := N2.length) (by_ := 40) (l := out1.take j) (ls := out1.drop (j + 1)) (by rw [h0]; exact ⟨_, 0, 0, rfl, rfl, .inr ⟨N2.length, true, rfl, Nat.le_refl _, by simp [cellsL]⟩⟩) (by omega) (by simp) (by simp) (by kernel_rfl) ?_ (gate_one _) (by omega) (by unfold maxLen; omega) ?_
            · have hd2 := (hsl2.drop (m := j + 1) (by omega)).app (.live ⟨[], true, true, 45, 5⟩ :: [])
              rw [Nat.zero_add] at hd2
              exact hd2.src (by omega) ⟨_, Try.underlying25⟩
            · intro v4 M4 hA4 hS4
              rw [hel] at hA4
              have hb4 := hS4.2 M'.length _ (by omega) (by rw [List.getElem?_append_left (by omega)]; exact hb2)
              have hK4 := hS4.keeps (hK2.app _) (by omega)
              have hl4 := hS4.1
              simp only [List.length_append] at hl4
              try simp (disch := omega)
              have pl := (List.getElem?_eq_some_iff.1 hb4).1
              obtain ⟨Q3, hQ3⟩ : ∃ Q3 : Mem, Q3 = M4.set M'.length (.live ⟨[iv o0, iv (el l i).s, iv (el l i).e, iv (el l i).k, iv (el l i).u], true, true, 45, 5⟩) := ⟨_, rfl⟩
              have hput3 : putCells M.length M4 M'.length 0 [iv o0] = some Q3 := by
                have := put_set (b := M.length) (M := M4) (id := M'.length) (p := 0) (v := iv o0) (cs := [iv f0, iv (el l i).s, iv (el l i).e, iv (el l i).k, iv (el l i).u]) (t := true) (e := 45) (z := 5) pl (by omega) (by simp) rfl
                rw [set_self hb4] at this
                rw [this, hQ3]
                rfl
              have hq5 : cellsAt Q3 M'.length 0 5 = some [iv o0, iv (el l i).s, iv (el l i).e, iv (el l i).k, iv (el l i).u] := by rw [hQ3]; simp [cellsAt, pl]
              have hQK : Keeps M Q3 := by rw [hQ3]; exact keeps_set hK4 hKl
              have hQl : Q3.length = M4.length := by rw [hQ3]; simp
              have hQA : Acc gateR 45 M.length Q3 v4 (out.eraseIdx j) := by rw [hQ3]; exact ((hA4.set_ne (by omega)).low (by omega))
              clear hQ3
              simp (disch := omega) [g11, g9, g6, hput3, hq5, wrap_in]
              refine Acc.append (R := gateR) (e := 45) (by_ := 40) (a := { el l i with o := o0 }) (hQA.keeps (keeps_app _)) (Nat.le_refl _) (by simp; omega) (by omega) (by simp) (by kernel_rfl) (by simp [srcOf, gateR, Gate.row]) (by rfl) (by first | omega | (simp; omega)) (by unfold maxLen; first | omega | (simp; omega)) ?_
              intro v' M3 hA3 hS3
              try simp (disch := omega) [g8, wrap_in]
              refine lpI (m - 1) (by omega) ?_
              exact ⟨i + 1, v', by omega, hS3.keeps (hQK.app _) (Nat.le_refl _), by rw [hstep]; exact hA3, by simp, by simp, by rw [hstep]; simp, by simp [g0], by simp [g1]⟩
          · rw [hlt1]
            refine ⟨[.live ⟨cellsL gateR (out1.take j), true, false, 45, 5⟩], by simp, ⟨by omega, by omega⟩, by simp [rowEsz, List.getElem?_append_left hol2, hr2], ?_⟩
            refine Acc.extend (R := gateR) (e := 45) (B := N2.length) (by_ := 40) (l := out1.take j) (ls := out1.drop (j + 1)) ⟨_, j, j, rfl, hlt1, .inr ⟨N2.length + 1, false, by simp, by omega, by simp⟩⟩ (by omega) (by simp) (by simp) (by kernel_rfl) ?_ (gate_one _) (by omega) (by unfold maxLen; omega) ?_
            · have hd2 := (hsl2.drop (m := j + 1) (by omega)).app (.live ⟨[], true, true, 45, 5⟩ :: [.live ⟨cellsL gateR (out1.take j), true, false, 45, 5⟩])
              rw [Nat.zero_add] at hd2
              exact hd2.src (by omega) ⟨_, Try.underlying25⟩
            · intro v4 M4 hA4 hS4
              rw [hel] at hA4
              have hb4 := hS4.2 M'.length _ (by omega) (by rw [List.getElem?_append_left (by omega)]; exact hb2)
              have hK4 := hS4.keeps (hK2.app _) (by omega)
              have hl4 := hS4.1
              simp only [List.length_append] at hl4
              try simp (disch := omega)
              have pl := (List.getElem?_eq_some_iff.1 hb4).1
              obtain ⟨Q3, hQ3⟩ : ∃ Q3 : Mem, Q3 = M4.set M'.length (.live ⟨[iv o0, iv (el l i).s, iv (el l i).e, iv (el l i).k, iv (el l i).u], true, true, 45, 5⟩) := ⟨_, rfl⟩
              have hput3 : putCells M.length M4 M'.length 0 [iv o0] = some Q3 := by
                have := put_set (b := M.length) (M := M4) (id := M'.length) (p := 0) (v := iv o0) (cs := [iv f0, iv (el l i).s, iv (el l i).e, iv (el l i).k, iv (el l i).u]) (t := true) (e := 45) (z := 5) pl (by omega) (by simp) rfl
                rw [set_self hb4] at this
                rw [this, hQ3]
                rfl
              have hq5 : cellsAt Q3 M'.length 0 5 = some [iv o0, iv (el l i).s, iv (el l i).e, iv (el l i).k, iv (el l i).u] := by rw [hQ3]; simp [cellsAt, pl]
              have hQK : Keeps M Q3 := by rw [hQ3]; exact keeps_set hK4 hKl
              have hQl : Q3.length = M4.length := by rw [hQ3]; simp
              have hQA : Acc gateR 45 M.length Q3 v4 (out.eraseIdx j) := by rw [hQ3]; exact ((hA4.set_ne (by omega)).low (by omega))
              clear hQ3
              simp (disch := omega) [g11, g9, g6, hput3, hq5, wrap_in]
              refine Acc.append (R := gateR) (e := 45) (by_ := 40) (a := { el l i with o := o0 }) (hQA.keeps (keeps_app _)) (Nat.le_refl _) (by simp; omega) (by omega) (by simp) (by kernel_rfl) (by simp [srcOf, gateR, Gate.row]) (by rfl) (by first | omega | (simp; omega)) (by unfold maxLen; first | omega | (simp; omega)) ?_
              intro v' M3 hA3 hS3
              try simp (disch := omega) [g8, wrap_in]
              refine lpI (m - 1) (by omega) ?_
              exact ⟨i + 1, v', by omega, hS3.keeps (hQK.app _) (Nat.le_refl _), by rw [hstep]; exact hA3, by simp, by simp, by rw [hstep]; simp, by simp [g0], by simp [g1]⟩
        · have hstep : allocP v (l.take (i + 1)) = (out.set j { el out j with e := (el l i).s } ++ [{ el l i with o := o0 }], sh + 1) := by rw [hst]; simp [stepS, hR, hf, hk, hs]
          simp (disch := omega) [hs]
          have pl := (List.getElem?_eq_some_iff.1 hb2).1
          obtain ⟨Q3, hQ3⟩ : ∃ Q3 : Mem, Q3 = N2.set M'.length (.live ⟨[iv o0, iv (el l i).s, iv (el l i).e, iv (el l i).k, iv (el l i).u], true, true, 45, 5⟩) := ⟨_, rfl⟩
          have hput3 : putCells M.length N2 M'.length 0 [iv o0] = some Q3 := by
            have := put_set (b := M.length) (M := N2) (id := M'.length) (p := 0) (v := iv o0) (cs := [iv f0, iv (el l i).s, iv (el l i).e, iv (el l i).k, iv (el l i).u]) (t := true) (e := 45) (z := 5) pl (by omega) (by simp) rfl
            rw [set_self hb2] at this
            rw [this, hQ3]
            rfl
          have hq5 : cellsAt Q3 M'.length 0 5 = some [iv o0, iv (el l i).s, iv (el l i).e, iv (el l i).k, iv (el l i).u] := by rw [hQ3]; simp [cellsAt, pl]
          have hQK : Keeps M Q3 := by rw [hQ3]; exact keeps_set hK2 hKl
          have hQl : Q3.length = N2.length := by rw [hQ3]; simp
          have hQA : Acc gateR 45 M.length Q3 (.slice (some ⟨oid, 0, none⟩) n' c') (out.set j { el out j with e := (el l i).s }) := by rw [hQ3]; exact (⟨_, _, _, rfl, hlo, .inr ⟨oid, tt, rfl, hoid, by rw [List.getElem?_set_ne (by omega)]; exact hr2⟩⟩)
          clear hQ3
          simp (disch := omega) [g11, g9, g6, hput3, hq5, wrap_in]
          refine Acc.append (R := gateR) (e := 45) (by_ := 40) (a := { el l i with o := o0 }) (hQA.keeps (keeps_app _)) (Nat.le_refl _) (by simp; omega) (by omega) (by simp) (by kernel_rfl) (by simp [srcOf, gateR, Gate.row]) (by rfl) (by simp; omega) (by simp [maxLen]; omega) ?_
          intro v' M3 hA3 hS3
          try simp (disch := omega) [g8, wrap_in]
          refine lpI (m - 1) (by omega) ?_
          exact ⟨i + 1, v', by omega, hS3.keeps (hQK.app _) (Nat.le_refl _), by rw [hstep]; exact hA3, by simp, by simp, by rw [hstep]; simp, by simp [g0], by simp [g1]⟩
      · have hstep : allocP v (l.take (i + 1)) = (out ++ [{ el l i with o := f0 }], sh) := by rw [hst]; simp [stepS, hR, hf]
        simp (disch := omega) [hf, g6, g9]
        refine Acc.append (R := gateR) (e := 45) (by_ := 40) (a := { el l i with o := f0 }) (hA.keeps (keeps_app _)) (Nat.le_refl _) (by simp; omega) (by omega) (by simp) (by kernel_rfl) (by simp [srcOf, gateR, Gate.row]) (by rfl) (by first | omega | (simp; omega)) (by unfold maxLen; first | omega | (simp; omega)) ?_
        intro v' M3 hA3 hS3
        try simp (disch := omega) [g8, wrap_in]
        refine lpI (m - 1) (by omega) ?_
        exact ⟨i + 1, v', by omega, hS3.keeps (hK.app _) (Nat.le_refl _), by rw [hstep]; exact hA3, by simp, by simp, by rw [hstep]; simp [g7], by simp [g0], by simp [g1]⟩
  · obtain rfl : i = n := by omega
    rw [List.take_of_length_le (by omega)] at hA h7 hal2
    have hf := hA.fresh (by omega) hK
    simp [h8, h6, h7, h0]
    exact hf
def alV (l : List Gate) (V : Int) : List Gate × Int × Int := if okG l = false then ([], 0, 1) else if inB V 1 4 = false then ([], 0, 2) else ((allocP V.toNat l).1, (allocP V.toNat l).2, 0)
theorem okG_len60 {l : List Gate} (h : okG l = true) : l.length ≤ 60 := by
  unfold okG at h
  simp only [Bool.and_eq_true, decide_eq_true_eq] at h
  exact h.2
theorem AllocateVoices_s {M : Mem} {A : Option Addr} {n c : Nat} {l : List Gate} (V : Int) (h : Sl gateR M A n l) (hn : n ≤ 1048576) : Ctr Try.prog M.length 31 [.slice A n c, iv V] M fun r M' => ∃ v0, r = .tuple #[v0, iv (alV l V).2.1, iv (alV l V).2.2] ∧ OwL gateR M.length M'.length M' v0 (alV l V).1 ∧ Keeps M M' := by
  have hl := h.1
  first | (refine ctr_fn Try.func31 rfl Try.ntmps31 Try.results31 rfl rfl (by simp) ?_) | (refine ctr_fnC Try.func31 rfl Try.ntmps31 Try.results31 rfl (by simp) ?_)
  simp
  refine awCall_det' (l21Ok_a h (by omega)) (by simp) ?_
  by_cases hok : okG l = true
  · have h60 := okG_len60 hok
    simp [hok]
    refine awCall_det' (l00In_a _ _ _) (by simp) ?_
    by_cases hv : inB V 1 4 = true
    · have hb := inB_iff.1 hv
      obtain ⟨q, rfl⟩ := Int.eq_ofNat_of_zero_le (show 0 ≤ V by omega)
      simp [hv]
      refine awCall_ctr (l21Allocate_a q h hok (by omega) (by omega)) ?_
      rintro r M' ⟨v0, rfl, hf⟩
      simp
      exact ⟨v0, ⟨rfl, by simp [alV, hok, hv], by simp [alV, hok, hv]⟩, by simpa [alV, hok, hv] using hf.ow.1, hf.ow.2⟩
    · simp at hv
      simp [hv]
      exact ⟨_, ⟨rfl, by simp [alV, hok, hv], by simp [alV, hok, hv]⟩, by simpa [alV, hok, hv] using OwL.nil, Keeps.refl _⟩
  · simp at hok
    simp [hok]
    exact ⟨_, ⟨rfl, by simp [alV, hok], by simp [alV, hok]⟩, by simpa [alV, hok] using OwL.nil, Keeps.refl _⟩
end Go.Proofs.Ytdcfofaojalilaa
