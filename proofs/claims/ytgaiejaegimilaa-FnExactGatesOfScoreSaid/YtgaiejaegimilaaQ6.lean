/- The division of a score, in both packages. No conditions. -/
import Derived.Test.YtgaiejaegimilaaQ5
namespace Go.Proofs.Ytgaiejaegimilaa
open Go.RowKit
set_option linter.unusedVariables false
set_option linter.unusedSimpArgs false
set_option maxRecDepth 100000
attribute [local simp] List.getElem?_cons_zero
attribute [local irreducible] awCond awCall awLoop awDraw ow retQ retC resQ Keeps
theorem addF_ok {a b : Frac} (h : (addF a b).2 = 0) : fracB (addF a b).1 = true := by
  unfold addF at h ⊢
  split at h
  · rename_i hab
    rw [if_pos hab]
    exact mkF_ok h
  · cases h
def Note.fin (n : Note) : Frac := (addF n.at_ n.len).1
theorem note_end {n : Note} (h : noteB n = true) : fracB n.at_ = true ∧ fracB n.fin = true := by
  obtain ⟨h1, -, -, h4, -⟩ := noteB_iff.1 h
  exact ⟨(beatB_iff.1 h1).1, addF_ok h4⟩
theorem end_i {M : Mem} (n : Note) : Det Try.prog M.length 51 [n.v] M n.fin.v M := by
  first | (refine det_fn Try.func51 rfl Try.ntmps51 Try.results51 rfl rfl rfl (by simp) ?_) | (refine det_fnC Try.func51 rfl Try.ntmps51 Try.results51 rfl rfl (by simp) ?_)
  simp
  refine awCall_det' (AddFrac_i n.at_ n.len) (by simp) ?_
  simp [keeps_app, Note.fin]
/-- The least common multiple of denominators, if it is not too great. -/
def divG : Nat → List Note → Option Nat
  | o, [] => some o
  | o, n :: l => if 960 < o.lcm n.ad.natAbs then none else if 960 < (o.lcm n.ad.natAbs).lcm n.fin.d.natAbs then none else divG ((o.lcm n.ad.natAbs).lcm n.fin.d.natAbs) l
def divV (l : List Note) : Int × Int := if scoreB l = true then (match divG 1 l with | some d => ((d : Int), 0) | none => (0, 2)) else (0, 1)
theorem lcm_i (o d : Nat) (hd : 0 < d) : o * qN d (o.gcd d) = o.lcm d := by
  unfold qN Nat.lcm
  rw [← Nat.mul_div_assoc _ (Nat.gcd_dvd_right o d)]
theorem lcm_s (o d : Nat) (hd : 0 < d) : qN o (o.gcd d) * d = o.lcm d := by
  unfold qN Nat.lcm
  rw [Nat.div_mul_right_comm (Nat.gcd_dvd_left o d)]
theorem l20Gcd_a {M : Mem} (x y : Nat) (hx : x < 9223372036854775808) (hy : y < 9223372036854775808) : Det Try.prog M.length 48 [iv x, iv y] M (iv (x.gcd y : Nat)) M := by
  first | (refine det_fn Try.func48 rfl Try.ntmps48 Try.results48 rfl rfl rfl (by simp) ?_) | (refine det_fnC Try.func48 rfl Try.ntmps48 Try.results48 rfl rfl (by simp) ?_)
  simp
  refine awLoop_T (fun m T M' => ∃ a c : Nat, c = m ∧ a < 9223372036854775808 ∧ c < 9223372036854775808 ∧ a.gcd c = x.gcd y ∧ M' = M ∧ look T 0 = some (iv a) ∧ look T 1 = some (iv c)) y ⟨x, y, rfl, hx, hy, rfl, rfl, by simp, by simp⟩ ?_
  rintro m T M' ⟨a, c, rfl, ha, hc, hg, rfl, h0, h1⟩
  by_cases hc0 : c = 0
  · subst hc0
    rw [Nat.gcd_zero_right] at hg
    simp [h0, h1, hg, Keeps.refl]
  · have hc1 : ¬ (c : Int) = 0 := by omega
    simp [h0, h1, hc0, hc1, tmod_nat]
    have hlt := Nat.mod_lt a (show 0 < c by omega)
    refine lpI (a % c) hlt ⟨c, a % c, rfl, hc, by omega, by rw [Nat.gcd_comm c, ← Nat.gcd_rec, Nat.gcd_comm, hg], rfl, by simp, by simp⟩
theorem frac_d {f : Frac} (h : fracB f = true) : ∃ d : Nat, f.d = d ∧ 0 < d ∧ d ≤ 1000000 := by
  obtain ⟨h1, -, -⟩ := fracB_iff.1 h
  exact ⟨f.d.natAbs, by omega, by omega, by omega⟩
set_option maxHeartbeats 2000000 in
theorem DivisionOf_i {M : Mem} {A : Option Addr} {n c : Nat} {l : List Note} (h : Sl noteR M A n l) (hn : n ≤ 1099511627776) : Det Try.prog M.length 13 [.agg #[.slice A n c]] M (.tuple #[iv (divV l).1, iv (divV l).2]) M := by
  have hl := h.1
  first | (refine det_fn Try.func13 rfl Try.ntmps13 Try.results13 rfl rfl rfl (by simp) ?_) | (refine det_fnC Try.func13 rfl Try.ntmps13 Try.results13 rfl rfl (by simp) ?_)
  simp
  refine awCall_det' (isScore_i (h.app _) hn) (by simp) ?_
  by_cases hs : scoreB l = true
  · have ha : l.all noteB = true := by simp [scoreB] at hs; simpa using hs.1.2
    simp [hs]
    refine awLoop_T (fun m T M' => ∃ k o : Nat, k + m = n ∧ Keeps M M' ∧ 0 < o ∧ o ≤ 960 ∧ divG 1 l = divG o (l.drop k) ∧ look T 15 = some (iv k) ∧ look T 14 = some (iv n) ∧ look T 13 = some (.slice A n c) ∧ look T 4 = some (iv o)) n ⟨0, 1, by omega, keeps_app _, by omega, by omega, rfl, by simp, by simp, by simp, by simp⟩ ?_
    rintro m T M1 ⟨k, o, hm, hK, ho0, ho, hd, t15, t14, t13, t4⟩
    have hKl := hK.len
    by_cases hlt : k < n
    · obtain ⟨id, off, rfl, he, hc⟩ := (h.keeps hK).at_ hlt
      have hld := note_load hc
      have hnb := all_el ha (i := k) (by omega)
      obtain ⟨f1, f2⟩ := note_end hnb
      simp (disch := omega) [t15, t14, t13, hlt, he, hld]
      refine awDraw_D 7 [[],[0],[],[2],[1,0,3,2],[4,1,0,3,2],[]] (by kernel_rfl) (by decide +kernel) ?_
      have hM1 : M1.length ≤ M1.length := Nat.le_refl _
      simp (disch := omega) [t15, t14, t13, hlt, he, hld]
      refine awCall_det' (end_i (el l k)) (by simp) ?_
      simp (disch := omega) [t15, t14, t13, hlt, he, hld, fr_two]
      obtain ⟨d1, e1, p1, q1⟩ := frac_d f1
      obtain ⟨d2, e2, p2, q2⟩ := frac_d f2
      have hsl : Sl fracR (M1 ++ [.live ⟨[iv (el l k).an, iv (el l k).ad, iv (el l k).ln, iv (el l k).ld, iv (el l k).k, iv (el l k).u, iv (el l k).o], true, true, 62, 7⟩, .live ⟨[iv (el l k).an, iv (el l k).ad, iv (el l k).fin.n, iv (el l k).fin.d], true, true, 58, 2⟩]) (some ⟨M1.length + 1, 0, none⟩) 2 [(el l k).at_, (el l k).fin] :=
        ⟨rfl, fun _ => ⟨M1.length + 1, 0, rfl, by simp [rowEsz], fun j x hx => by
          have hx' : [iv (el l k).an, iv (el l k).ad, iv (el l k).fin.n, iv (el l k).fin.d][j]? = some x := hx
          simp [cellAt, hx']⟩⟩
      obtain ⟨M2, hM2⟩ : ∃ M2 : Mem, M2 = M1 ++ [.live ⟨[iv (el l k).an, iv (el l k).ad, iv (el l k).ln, iv (el l k).ld, iv (el l k).k, iv (el l k).u, iv (el l k).o], true, true, 62, 7⟩, .live ⟨[iv (el l k).an, iv (el l k).ad, iv (el l k).fin.n, iv (el l k).fin.d], true, true, 58, 2⟩] := ⟨_, rfl⟩
      rw [← hM2] at hsl ⊢
      have hK2 : Keeps M M2 := by rw [hM2]; exact hK.app _
      clear hM2
      have hdiv : ∀ o1 o2 : Nat, o1 = o.lcm d1 → o1 ≤ 960 → o2 = o1.lcm d2 → o2 ≤ 960 → divG o (l.drop k) = divG o2 (l.drop (k + 1)) := by
        intro o1 o2 h1 h1' h2 h2'
        rw [drop_el (by omega), divG, show (el l k).ad.natAbs = d1 by have : (el l k).ad = d1 := e1; omega, show (el l k).fin.d.natAbs = d2 by omega, ← h1, if_neg (by omega), ← h2, if_neg (by omega)]
      have hbad1 : 960 < o.lcm d1 → divG o (l.drop k) = none := by
        intro h1
        rw [drop_el (by omega), divG, show (el l k).ad.natAbs = d1 by have : (el l k).ad = d1 := e1; omega, if_pos h1]
      have hbad2 : o.lcm d1 ≤ 960 → 960 < (o.lcm d1).lcm d2 → divG o (l.drop k) = none := by
        intro h1 h2
        rw [drop_el (by omega), divG, show (el l k).ad.natAbs = d1 by have : (el l k).ad = d1 := e1; omega, show (el l k).fin.d.natAbs = d2 by omega, if_neg (by omega), if_pos h2]
      refine awLoop_T (fun m' T M' => ∃ j o' : Nat, j + m' = 2 ∧ Keeps M2 M' ∧ 0 < o' ∧ o' ≤ 960 ∧ (j = 0 → o' = o) ∧ (j = 1 → o' = o.lcm d1) ∧ (j = 2 → o.lcm d1 ≤ 960 ∧ o' = (o.lcm d1).lcm d2) ∧ look T 25 = some (iv j) ∧ look T 24 = some (iv 2) ∧ look T 23 = some (.slice (some ⟨M1.length + 1, 0, none⟩) 2 2) ∧ look T 4 = some (iv o') ∧ look T 15 = some (iv k) ∧ look T 14 = some (iv n) ∧ look T 13 = some (.slice (some ⟨id, off, none⟩) n c)) 2
        ⟨0, o, by omega, Keeps.refl _, ho0, ho, fun _ => rfl, fun h => by omega, fun h => by omega, by simp, by simp, by simp, by simp [t4], by simp [t15], by simp [t14], by simp [t13]⟩ ?_
      clear t15 t14 t13 t4 T
      rintro m' T M3 ⟨j, o', hj, hK3, ho0', ho', j0, j1, j2, t25, t24, t23, t4, t15, t14, t13⟩
      have hK3l := hK3.len
      have hK2l := hK2.len
      by_cases hj2 : j < 2
      · obtain ⟨id2, off2, ee, he2, hc2⟩ := (hsl.keeps hK3).at_ hj2
        have hld2 := frac_load hc2
        cases ee
        simp only [Nat.zero_add] at hld2
        -- the denominator of this turn
        obtain ⟨dj, ej, pj, qj, hdj⟩ : ∃ dj : Nat, (el [(el l k).at_, (el l k).fin] j).d = dj ∧ 0 < dj ∧ dj ≤ 1000000 ∧ ((j = 0 ∧ dj = d1) ∨ (j = 1 ∧ dj = d2)) := by
          rcases j with _ | _ | j
          · exact ⟨d1, e1, p1, q1, .inl ⟨rfl, rfl⟩⟩
          · exact ⟨d2, e2, p2, q2, .inr ⟨rfl, rfl⟩⟩
          · omega
        generalize el [(el l k).at_, (el l k).fin] j = f at hld2 ej
        have u1 : IntKind.u64.wrap (o' : Int) = o' := u64_in (by omega) (by omega)
        have u2 : IntKind.u64.wrap (dj : Int) = dj := u64_in (by omega) (by omega)
        have hg := Nat.gcd_pos_of_pos_right o' pj
        have hgl : o'.gcd dj ≤ dj := Nat.gcd_le_right _ pj
        have hg0 : ¬ ((o'.gcd dj : Nat) : Int) = 0 := by omega
        have hg00 : ¬ o'.gcd dj = 0 := by omega
        have hlcm := lcm_i o' dj pj
        have hq := qN_le dj (o'.gcd dj)
        have hlb : o' * qN dj (o'.gcd dj) ≤ 960 * 1000000 := Nat.mul_le_mul ho' (by omega)
        have hj2' : (j : Int) < 2 := by omega
        simp (disch := omega) [t25, t24, t23, hj2, hj2', he2, hld2]
        refine awDraw_E 11 [[],[],[1],[],[3],[],[5],[6,5],[4,3,7,6,5],[8,4,3,7,6,5],[2,1,9,8,4,3,7,6,5],[0,10,2,1,9,8,4,3,7,6,5],[11,0,10,2,1,9,8,4,3,7,6,5]] (by kernel_rfl) (by kernel_rfl) ?_
        simp (disch := omega) [t4, ej, u1, u2]
        refine awCall_det' (gcd_i o' dj (by omega) (by omega)) (by simp <;> omega) ?_
        simp (disch := omega) [t4, ej, wrap_in, hg0, hg00, tdiv_q, div_q]
        have eL : (o' : Int) * (qN dj (o'.gcd dj) : Nat) = ((o'.lcm dj : Nat) : Int) := by rw [← hlcm]; simp
        rw [hlcm] at hlb
        have hLp : 0 < o'.lcm dj := Nat.lcm_pos ho0' pj
        rw [eL]
        generalize hL : o'.lcm dj = L at hlb hLp ⊢
        by_cases hbig : 960 < L
        · have hnone : divG 1 l = none := by
            rw [hd]
            rcases hdj with ⟨rfl, rfl⟩ | ⟨rfl, rfl⟩
            · have := j0 rfl
              subst this
              exact hbad1 (by omega)
            · have := j1 rfl
              subst this
              exact hbad2 (by omega) (by omega)
          have hbig' : (960 : Int) < L := by omega
          simp [hbig, hbig', divV, hs, hnone]
          exact hK2.trans (hK3.app _)
        · have hbig' : ¬ (960 : Int) < L := by omega
          simp (disch := omega) [hbig, hbig', t25, wrap_in]
          refine lpI (m' - 1) (by omega) ⟨j + 1, L, by omega, hK3.app _, hLp, by omega, fun h => by omega, fun h => ?_, fun h => ?_, by simp, by simp [t24], by simp [t23], by simp, by simp [t15], by simp [t14], by simp [t13]⟩
          · rcases hdj with ⟨rfl, rfl⟩ | ⟨rfl, rfl⟩
            · rw [← j0 rfl, hL]
            · omega
          · rcases hdj with ⟨rfl, rfl⟩ | ⟨rfl, rfl⟩
            · omega
            · rw [← j1 rfl, hL]
              exact ⟨ho', rfl⟩
      · obtain rfl : j = 2 := by omega
        obtain ⟨j2a, j2b⟩ := j2 rfl
        simp (disch := omega) [t25, t24, t15, wrap_in]
        refine lpI (m - 1) (by omega) ⟨k + 1, o', by omega, hK2.trans hK3, ho0', ho', by rw [hd]; exact hdiv _ _ rfl j2a j2b ho', by simp, by simp [t14], by simp [t13], by simp [t4]⟩
    · obtain rfl : k = n := by omega
      rw [List.drop_of_length_le (by omega)] at hd
      simp [t15, t14, t4, divV, hs, hd, divG, hK]
  · simp [hs, divV, keeps_app]
theorem fill2 (a b : Int) : Instr.fill (fun i => some (i, 1)) (zrow [iv 0] 2).toArray [(0, iv a), (1, iv b)] = some #[iv a, iv b] := by rfl
set_option maxHeartbeats 2000000 in
theorem DivisionOf_s {M : Mem} {A : Option Addr} {n c : Nat} {l : List Note} (h : Sl noteR M A n l) (hn : n ≤ 1099511627776) : Det Try.prog M.length 11 [.agg #[.slice A n c]] M (.tuple #[iv (divV l).1, iv (divV l).2]) M := by
  have hl := h.1
  first | (refine det_fn Try.func11 rfl Try.ntmps11 Try.results11 rfl rfl rfl (by simp) ?_) | (refine det_fnC Try.func11 rfl Try.ntmps11 Try.results11 rfl rfl (by simp) ?_)
  simp
  refine awCall_det' (l18Ok_a (c := c) (h.app _) (by simp) hn) (by simp) ?_
  by_cases hs : scoreB l = true
  · have ha : l.all noteB = true := by simp [scoreB] at hs; simpa using hs.1.2
    simp [hs]
    refine awLoop_T (fun m T M' => ∃ k o : Nat, k + m = n ∧ Keeps M M' ∧ cellAt M' M.length 0 = some (.slice A n c) ∧ 0 < o ∧ o ≤ 960 ∧ divG 1 l = divG o (l.drop k) ∧ look T 5 = some (iv k) ∧ look T 1 = some (.pointer (some ⟨M.length, 0, none⟩)) ∧ look T 4 = some (iv o)) n ⟨0, 1, by omega, keeps_app _, by simp, by omega, by omega, rfl, by simp, by simp, by simp⟩ ?_
    rintro m T M1 ⟨k, o, hm, hK, hr, ho0, ho, hd, t5, t1, t4⟩
    have hKl := hK.len
    by_cases hlt : k < n
    · obtain ⟨id, off, rfl, he, hc⟩ := (h.keeps hK).at_ hlt
      obtain ⟨c0, c1, c2, c3, c4, c5, c6⟩ := note_cells hc
      obtain ⟨g0, g2⟩ := note_cellsN hc
      have hnb := all_el ha (i := k) (by omega)
      obtain ⟨f1, f2⟩ := note_end hnb
      obtain ⟨d1, e1, p1, q1⟩ := frac_d f1
      obtain ⟨d2, e2, p2, q2⟩ := frac_d f2
      have e1' : (el l k).ad = d1 := e1
      simp (disch := omega) [t5, t1, hlt, hr]
      refine awDraw_M 17 [[],[0],[],[1,0,2],[3,1,0,2],[4,3,1,0,2],[],[6],[],[7,6,8],[9,7,6,8],[10,9,7,6,8],[5,4,3,1,0,2,11,10,9,7,6,8],[12,5,4,3,1,0,2,11,10,9,7,6,8],[13,12,5,4,3,1,0,2,11,10,9,7,6,8],[13,12,5,4,3,1,0,2,11,10,9,7,6,8],[],[16,14,13,12,5,4,3,1,0,2,11,10,9,7,6,8],[15,13,12,5,4,3,1,0,2,11,10,9,7,6,8,17,16,14]] [15] (by kernel_rfl) (by decide +kernel) (by decide +kernel) ?_
      simp (disch := omega) [t5, t1, hlt, hr, he, g0, g2]
      refine awCall_det' (AddFrac_s (el l k).at_ (el l k).len) (by simp) ?_
      have hfin : (addF (el l k).at_ (el l k).len).1 = (el l k).fin := rfl
      rw [hfin]
      simp (disch := omega) [t5, t1, hlt, hr, he]
      refine awDraw_E 9 [[],[0],[],[1,0,2],[3,1,0,2],[4,3,1,0,2],[5,4,3,1,0,2],[],[7],[6,5,4,3,1,0,2,8,7],[9,6,5,4,3,1,0,2,8,7]] (by kernel_rfl) (by kernel_rfl) ?_
      have hr' := fun L => cellAt_app hr L
      have c1' := fun L => cellAt_app c1 L
      have he' : ∀ L : Mem, rowEsz (M1 ++ L) id = some 7 := fun L => rowEsz_keeps (keeps_app L) he
      simp (disch := omega) [t5, t1, hlt, hr', he', c1', fill2]
      have hsl : Sl intR (M1 ++ [.live ⟨[iv (el l k).fin.n, iv (el l k).fin.d], true, true, 58, 2⟩, .live ⟨[iv (el l k).ad, iv (el l k).fin.d], true, true, 2, 1⟩]) (some ⟨M1.length + 1, 0, none⟩) 2 [(el l k).ad, (el l k).fin.d] :=
        ⟨rfl, fun _ => ⟨M1.length + 1, 0, rfl, by simp [rowEsz], fun j x hx => by
          have hx' : [iv (el l k).ad, iv (el l k).fin.d][j]? = some x := hx
          simp [cellAt, hx']⟩⟩
      obtain ⟨M2, hM2⟩ : ∃ M2 : Mem, M2 = M1 ++ [.live ⟨[iv (el l k).fin.n, iv (el l k).fin.d], true, true, 58, 2⟩, .live ⟨[iv (el l k).ad, iv (el l k).fin.d], true, true, 2, 1⟩] := ⟨_, rfl⟩
      rw [← hM2] at hsl ⊢
      have hK2 : Keeps M M2 := by rw [hM2]; exact hK.app _
      have hr2 : cellAt M2 M.length 0 = some (.slice (some ⟨id, off, none⟩) n c) := by rw [hM2]; exact hr' _
      clear hM2
      have hK2l := hK2.len
      have hdiv : ∀ o1 o2 : Nat, o1 = o.lcm d1 → o1 ≤ 960 → o2 = o1.lcm d2 → o2 ≤ 960 → divG o (l.drop k) = divG o2 (l.drop (k + 1)) := by
        intro o1 o2 h1 h1' h2 h2'
        rw [drop_el (by omega), divG, show (el l k).ad.natAbs = d1 by omega, show (el l k).fin.d.natAbs = d2 by omega, ← h1, if_neg (by omega), ← h2, if_neg (by omega)]
      have hbad1 : 960 < o.lcm d1 → divG o (l.drop k) = none := by
        intro h1
        rw [drop_el (by omega), divG, show (el l k).ad.natAbs = d1 by omega, if_pos h1]
      have hbad2 : o.lcm d1 ≤ 960 → 960 < (o.lcm d1).lcm d2 → divG o (l.drop k) = none := by
        intro h1 h2
        rw [drop_el (by omega), divG, show (el l k).ad.natAbs = d1 by omega, show (el l k).fin.d.natAbs = d2 by omega, if_neg (by omega), if_pos h2]
      refine awLoop_T (fun m' T M' => ∃ j o' : Nat, j + m' = 2 ∧ M' = M2 ∧ 0 < o' ∧ o' ≤ 960 ∧ (j = 0 → o' = o) ∧ (j = 1 → o' = o.lcm d1) ∧ (j = 2 → o.lcm d1 ≤ 960 ∧ o' = (o.lcm d1).lcm d2) ∧ look T 9 = some (iv j) ∧ look T 8 = some (.slice (some ⟨M1.length + 1, 0, none⟩) 2 2) ∧ look T 4 = some (iv o') ∧ look T 5 = some (iv k) ∧ look T 1 = some (.pointer (some ⟨M.length, 0, none⟩))) 2
        ⟨0, o, by omega, rfl, ho0, ho, fun _ => rfl, fun h => by omega, fun h => by omega, by simp, by simp, by simp [t4], by simp [t5], by simp [t1]⟩ ?_
      clear t5 t1 t4 T
      rintro m' T M3 ⟨j, o', hj, rfl, ho0', ho', j0, j1, j2, t9, t8, t4, t5, t1⟩
      by_cases hj2 : j < 2
      · obtain ⟨id2, off2, ee, he2, hc2⟩ := hsl.at_ hj2
        cases ee
        have hx2 : cellAt M3 (M1.length + 1) (0 + j * 1) = some (iv (el [(el l k).ad, (el l k).fin.d] j)) := hc2 0 _ rfl
        simp only [Nat.zero_add, Nat.mul_one] at hx2
        obtain ⟨dj, ej, pj, qj, hdj⟩ : ∃ dj : Nat, el [(el l k).ad, (el l k).fin.d] j = dj ∧ 0 < dj ∧ dj ≤ 1000000 ∧ ((j = 0 ∧ dj = d1) ∨ (j = 1 ∧ dj = d2)) := by
          rcases j with _ | _ | j
          · exact ⟨d1, e1, p1, q1, .inl ⟨rfl, rfl⟩⟩
          · exact ⟨d2, e2, p2, q2, .inr ⟨rfl, rfl⟩⟩
          · omega
        rw [ej] at hx2
        have hg := Nat.gcd_pos_of_pos_right o' pj
        have hg00 : ¬ o'.gcd dj = 0 := by omega
        have hlcm := lcm_s o' dj pj
        have hq := qN_le o' (o'.gcd dj)
        have hlb : qN o' (o'.gcd dj) * dj ≤ 960 * 1000000 := Nat.mul_le_mul (by omega) qj
        have hj2' : (j : Int) < 2 := by omega
        simp (disch := omega) [t9, hj2, hj2']
        refine awDraw_E 12 [[],[],[],[],[2,3],[4,2,3],[1,5,4,2,3],[0,6,1,5,4,2,3],[],[],[8,9],[10,8,9],[7,0,6,1,5,4,2,3,11,10,8,9],[12,7,0,6,1,5,4,2,3,11,10,8,9]] (by kernel_rfl) (by kernel_rfl) ?_
        simp (disch := omega) [t4, t8, t9, hj2, hj2', he2, hx2]
        refine awCall_det' (l20Gcd_a o' dj (by omega) (by omega)) (by simp <;> omega) ?_
        simp (disch := omega) [t4, t8, t9, hj2, hj2', he2, hx2, wrap_in, hg00, tdiv_q, div_q]
        have eL : ((qN o' (o'.gcd dj) : Nat) : Int) * dj = ((o'.lcm dj : Nat) : Int) := by rw [← hlcm]; simp
        rw [hlcm] at hlb
        have hLp : 0 < o'.lcm dj := Nat.lcm_pos ho0' pj
        rw [eL]
        generalize hL : o'.lcm dj = L at hlb hLp ⊢
        by_cases hbig : 960 < L
        · have hnone : divG 1 l = none := by
            rw [hd]
            rcases hdj with ⟨rfl, rfl⟩ | ⟨rfl, rfl⟩
            · have := j0 rfl
              subst this
              exact hbad1 (by omega)
            · have := j1 rfl
              subst this
              exact hbad2 (by omega) (by omega)
          have hbig' : (960 : Int) < L := by omega
          simp [hbig, hbig', divV, hs, hnone]
          exact hK2
        · have hbig' : ¬ (960 : Int) < L := by omega
          simp (disch := omega) [hbig, hbig', t9, wrap_in]
          refine lpI (m' - 1) (by omega) ⟨j + 1, L, by omega, rfl, hLp, by omega, fun h => by omega, fun h => ?_, fun h => ?_, by simp, by simp [t8], by simp, by simp [t5], by simp [t1]⟩
          · rcases hdj with ⟨rfl, rfl⟩ | ⟨rfl, rfl⟩
            · rw [← j0 rfl, hL]
            · omega
          · rcases hdj with ⟨rfl, rfl⟩ | ⟨rfl, rfl⟩
            · omega
            · rw [← j1 rfl, hL]
              exact ⟨ho', rfl⟩
      · obtain rfl : j = 2 := by omega
        obtain ⟨j2a, j2b⟩ := j2 rfl
        simp (disch := omega) [t9, t5, wrap_in]
        refine lpI (m - 1) (by omega) ⟨k + 1, o', by omega, hK2, hr2, ho0', ho', by rw [hd]; exact hdiv _ _ rfl j2a j2b ho', by simp, by simp [t1], by simp [t4]⟩
    · obtain rfl : k = n := by omega
      rw [List.drop_of_length_le (by omega)] at hd
      simp [t5, t1, t4, hr, divV, hs, hd, divG, hK]
  · simp [hs, divV, keeps_app]
theorem DivisionOf_sl {M : Mem} {v : Value} {lo hi : Nat} {l : List Note} (h : RdL noteR lo hi M v l) (hl : l.length ≤ 1048576) : Det Try.prog M.length 11 [.agg #[v]] M (.tuple #[iv (divV l).1, iv (divV l).2]) M := by
  obtain ⟨A, n, c, rfl, hn, hS, _⟩ := h
  exact DivisionOf_s hS (by have := hS.1; omega)
theorem DivisionOf_il {M : Mem} {v : Value} {lo hi : Nat} {l : List Note} (h : RdL noteR lo hi M v l) (hl : l.length ≤ 1048576) : Det Try.prog M.length 13 [.agg #[v]] M (.tuple #[iv (divV l).1, iv (divV l).2]) M := by
  obtain ⟨A, n, c, rfl, hn, hS, _⟩ := h
  exact DivisionOf_i hS (by have := hS.1; omega)
end Go.Proofs.Ytgaiejaegimilaa
