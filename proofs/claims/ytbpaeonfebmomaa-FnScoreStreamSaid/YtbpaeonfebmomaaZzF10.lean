/- Parts of the proof, together: The division of a score, in both packages. Tempo: records in memory, and the laws' helpers on them. TempoMap: a struct that holds a slice of records. Tempo maps, in plain words: positions of beats. Tempo maps: how the program comes to a position, in plain words. Fractions as rational numbers; positions grow with beats. Rows of records in which one is set. The order of notes; the reference sorts no No conditions. -/
import Derived.Test.YtbpaeonfebmomaaZzF9
import Derived.Test.YtbpaeonfebmomaaZzF8
import Derived.Laws.StructEq
namespace Go.Proofs.Ytbpaeonfebmomaa
open Go.RowKit
set_option linter.unusedVariables false
set_option linter.unusedSimpArgs false
set_option maxRecDepth 100000
attribute [local simp] List.getElem?_cons_zero
attribute [local irreducible] awCond awCall awLoop awDraw ow retQ retC resQ Keeps
theorem addF_ok {a b : Frac} (h : (addF a b).2 = 0) : fracB (addF a b).1 = true := by
  unfold addF at h ⊢
  split at h
  · rename_i hab
    rw [if_pos hab]
    exact mkF_ok h
  · cases h
def Note.fin (n : Note) : Frac := (addF n.at_ n.len).1
theorem note_end {n : Note} (h : noteB n = true) : fracB n.at_ = true ∧ fracB n.fin = true := by
  obtain ⟨h1, -, -, h4, -⟩ := noteB_iff.1 h
  exact ⟨(beatB_iff.1 h1).1, addF_ok h4⟩
theorem end_i {M : Mem} (n : Note) : Det Try.prog M.length 26 [n.v] M n.fin.v M := by
  first | (refine det_fn Try.func26 rfl Try.ntmps26 Try.results26 rfl rfl rfl (by simp) ?_) | (refine det_fnC Try.func26 rfl Try.ntmps26 Try.results26 rfl rfl (by simp) ?_)
  simp
  refine awCall_det' (AddFrac_i n.at_ n.len) (by simp) ?_
  simp [keeps_app, Note.fin]
/-- The least common multiple of denominators, if it is not too great. -/
def divG : Nat → List Note → Option Nat
  | o, [] => some o
  | o, n :: l => if 960 < o.lcm n.ad.natAbs then none else if 960 < (o.lcm n.ad.natAbs).lcm n.fin.d.natAbs then none else divG ((o.lcm n.ad.natAbs).lcm n.fin.d.natAbs) l
def divV (l : List Note) : Int × Int := if scoreB l = true then (match divG 1 l with | some d => ((d : Int), 0) | none => (0, 2)) else (0, 1)
theorem lcm_i (o d : Nat) (hd : 0 < d) : o * qN d (o.gcd d) = o.lcm d := by
  unfold qN Nat.lcm
  rw [← Nat.mul_div_assoc _ (Nat.gcd_dvd_right o d)]
theorem lcm_s (o d : Nat) (hd : 0 < d) : qN o (o.gcd d) * d = o.lcm d := by
  unfold qN Nat.lcm
  rw [Nat.div_mul_right_comm (Nat.gcd_dvd_left o d)]
theorem l20Gcd_a {M : Mem} (x y : Nat) (hx : x < 9223372036854775808) (hy : y < 9223372036854775808) : Det Try.prog M.length 30 [iv x, iv y] M (iv (x.gcd y : Nat)) M := by
  first | (refine det_fn Try.func30 rfl Try.ntmps30 Try.results30 rfl rfl rfl (by simp) ?_) | (refine det_fnC Try.func30 rfl Try.ntmps30 Try.results30 rfl rfl (by simp) ?_)
  simp
  refine awLoop_T (fun m T M' => ∃ a c : Nat, c = m ∧ a < 9223372036854775808 ∧ c < 9223372036854775808 ∧ a.gcd c = x.gcd y ∧ M' = M ∧ look T 0 = some (iv a) ∧ look T 1 = some (iv c)) y ⟨x, y, rfl, hx, hy, rfl, rfl, by simp, by simp⟩ ?_
  rintro m T M' ⟨a, c, rfl, ha, hc, hg, rfl, h0, h1⟩
  by_cases hc0 : c = 0
  · subst hc0
    rw [Nat.gcd_zero_right] at hg
    simp [h0, h1, hg, Keeps.refl]
  · have hc1 : ¬ (c : Int) = 0 := by omega
    simp [h0, h1, hc0, hc1, tmod_nat]
    have hlt := Nat.mod_lt a (show 0 < c by omega)
    refine lpI (a % c) hlt ⟨c, a % c, rfl, hc, by omega, by rw [Nat.gcd_comm c, ← Nat.gcd_rec, Nat.gcd_comm, hg], rfl, by simp, by simp⟩
theorem frac_d {f : Frac} (h : fracB f = true) : ∃ d : Nat, f.d = d ∧ 0 < d ∧ d ≤ 1000000 := by
  obtain ⟨h1, -, -⟩ := fracB_iff.1 h
  exact ⟨f.d.natAbs, by omega, by omega, by omega⟩
set_option maxHeartbeats 2000000 in
theorem DivisionOf_i {M : Mem} {A : Option Addr} {n c : Nat} {l : List Note} (h : Sl noteR M A n l) (hn : n ≤ 1099511627776) : Det Try.prog M.length 7 [.agg #[.slice A n c]] M (.tuple #[iv (divV l).1, iv (divV l).2]) M := by
  have hl := h.1
  first | (refine det_fn Try.func7 rfl Try.ntmps7 Try.results7 rfl rfl rfl (by simp) ?_) | (refine det_fnC Try.func7 rfl Try.ntmps7 Try.results7 rfl rfl (by simp) ?_)
  simp
  refine awCall_det' (isScore_i (h.app _) hn) (by simp) ?_
  by_cases hs : scoreB l = true
  · have ha : l.all noteB = true := by simp [scoreB] at hs; simpa using hs.1.2
    simp [hs]
    refine awLoop_T (fun m T M' => ∃ k o : Nat, k + m = n ∧ Keeps M M' ∧ 0 < o ∧ o ≤ 960 ∧ divG 1 l = divG o (l.drop k) ∧ look T 15 = some (iv k) ∧ look T 14 = some (iv n) ∧ look T 13 = some (.slice A n c) ∧ look T 4 = some (iv o)) n ⟨0, 1, by omega, keeps_app _, by omega, by omega, rfl, by simp, by simp, by simp, by simp⟩ ?_
    rintro m T M1 ⟨k, o, hm, hK, ho0, ho, hd, t15, t14, t13, t4⟩
    have hKl := hK.len
    by_cases hlt : k < n
    · obtain ⟨id, off, rfl, he, hc⟩ := (h.keeps hK).at_ hlt
      have hld := note_load hc
      have hnb := all_el ha (i := k) (by omega)
      obtain ⟨f1, f2⟩ := note_end hnb
      simp (disch := omega) [t15, t14, t13, hlt, he, hld]
      refine awDraw_D 7 [[],[0],[],[2],[1,0,3,2],[4,1,0,3,2],[]] (by kernel_rfl) (by decide +kernel) ?_
      have hM1 : M1.length ≤ M1.length := Nat.le_refl _
      simp (disch := omega) [t15, t14, t13, hlt, he, hld]
      refine awCall_det' (end_i (el l k)) (by simp) ?_
      simp (disch := omega) [t15, t14, t13, hlt, he, hld, fr_two]
      obtain ⟨d1, e1, p1, q1⟩ := frac_d f1
      obtain ⟨d2, e2, p2, q2⟩ := frac_d f2
      have hsl : Sl fracR (M1 ++ [.live ⟨[iv (el l k).an, iv (el l k).ad, iv (el l k).ln, iv (el l k).ld, iv (el l k).k, iv (el l k).u, iv (el l k).o], true, true, 53, 7⟩, .live ⟨[iv (el l k).an, iv (el l k).ad, iv (el l k).fin.n, iv (el l k).fin.d], true, true, 51, 2⟩]) (some ⟨M1.length + 1, 0, none⟩) 2 [(el l k).at_, (el l k).fin] :=
        ⟨rfl, fun _ => ⟨M1.length + 1, 0, rfl, by simp [rowEsz], fun j x hx => by
          have hx' : [iv (el l k).an, iv (el l k).ad, iv (el l k).fin.n, iv (el l k).fin.d][j]? = some x := hx
          simp [cellAt, hx']⟩⟩
      obtain ⟨M2, hM2⟩ : ∃ M2 : Mem, M2 = M1 ++ [.live ⟨[iv (el l k).an, iv (el l k).ad, iv (el l k).ln, iv (el l k).ld, iv (el l k).k, iv (el l k).u, iv (el l k).o], true, true, 53, 7⟩, .live ⟨[iv (el l k).an, iv (el l k).ad, iv (el l k).fin.n, iv (el l k).fin.d], true, true, 51, 2⟩] := ⟨_, rfl⟩
      rw [← hM2] at hsl ⊢
      have hK2 : Keeps M M2 := by rw [hM2]; exact hK.app _
      clear hM2
      have hdiv : ∀ o1 o2 : Nat, o1 = o.lcm d1 → o1 ≤ 960 → o2 = o1.lcm d2 → o2 ≤ 960 → divG o (l.drop k) = divG o2 (l.drop (k + 1)) := by
        intro o1 o2 h1 h1' h2 h2'
        rw [drop_el (by omega), divG, show (el l k).ad.natAbs = d1 by have : (el l k).ad = d1 := e1; omega, show (el l k).fin.d.natAbs = d2 by omega, ← h1, if_neg (by omega), ← h2, if_neg (by omega)]
      have hbad1 : 960 < o.lcm d1 → divG o (l.drop k) = none := by
        intro h1
        rw [drop_el (by omega), divG, show (el l k).ad.natAbs = d1 by have : (el l k).ad = d1 := e1; omega, if_pos h1]
      have hbad2 : o.lcm d1 ≤ 960 → 960 < (o.lcm d1).lcm d2 → divG o (l.drop k) = none := by
        intro h1 h2
        rw [drop_el (by omega), divG, show (el l k).ad.natAbs = d1 by have : (el l k).ad = d1 := e1; omega, show (el l k).fin.d.natAbs = d2 by omega, if_neg (by omega), if_pos h2]
      refine awLoop_T (fun m' T M' => ∃ j o' : Nat, j + m' = 2 ∧ Keeps M2 M' ∧ 0 < o' ∧ o' ≤ 960 ∧ (j = 0 → o' = o) ∧ (j = 1 → o' = o.lcm d1) ∧ (j = 2 → o.lcm d1 ≤ 960 ∧ o' = (o.lcm d1).lcm d2) ∧ look T 25 = some (iv j) ∧ look T 24 = some (iv 2) ∧ look T 23 = some (.slice (some ⟨M1.length + 1, 0, none⟩) 2 2) ∧ look T 4 = some (iv o') ∧ look T 15 = some (iv k) ∧ look T 14 = some (iv n) ∧ look T 13 = some (.slice (some ⟨id, off, none⟩) n c)) 2
        ⟨0, o, by omega, Keeps.refl _, ho0, ho, fun _ => rfl, fun h => by omega, fun h => by omega, by simp, by simp, by simp, by simp [t4], by simp [t15], by simp [t14], by simp [t13]⟩ ?_
      clear t15 t14 t13 t4 T
      rintro m' T M3 ⟨j, o', hj, hK3, ho0', ho', j0, j1, j2, t25, t24, t23, t4, t15, t14, t13⟩
      have hK3l := hK3.len
      have hK2l := hK2.len
      by_cases hj2 : j < 2
      · obtain ⟨id2, off2, ee, he2, hc2⟩ := (hsl.keeps hK3).at_ hj2
        have hld2 := frac_load hc2
        cases ee
        simp only [Nat.zero_add] at hld2
        -- the denominator of this turn
        obtain ⟨dj, ej, pj, qj, hdj⟩ : ∃ dj : Nat, (el [(el l k).at_, (el l k).fin] j).d = dj ∧ 0 < dj ∧ dj ≤ 1000000 ∧ ((j = 0 ∧ dj = d1) ∨ (j = 1 ∧ dj = d2)) := by
          rcases j with _ | _ | j
          · exact ⟨d1, e1, p1, q1, .inl ⟨rfl, rfl⟩⟩
          · exact ⟨d2, e2, p2, q2, .inr ⟨rfl, rfl⟩⟩
          · omega
        generalize el [(el l k).at_, (el l k).fin] j = f at hld2 ej
        have u1 : IntKind.u64.wrap (o' : Int) = o' := u64_in (by omega) (by omega)
        have u2 : IntKind.u64.wrap (dj : Int) = dj := u64_in (by omega) (by omega)
        have hg := Nat.gcd_pos_of_pos_right o' pj
        have hgl : o'.gcd dj ≤ dj := Nat.gcd_le_right _ pj
        have hg0 : ¬ ((o'.gcd dj : Nat) : Int) = 0 := by omega
        have hg00 : ¬ o'.gcd dj = 0 := by omega
        have hlcm := lcm_i o' dj pj
        have hq := qN_le dj (o'.gcd dj)
        have hlb : o' * qN dj (o'.gcd dj) ≤ 960 * 1000000 := Nat.mul_le_mul ho' (by omega)
        have hj2' : (j : Int) < 2 := by omega
        simp (disch := omega) [t25, t24, t23, hj2, hj2', he2, hld2]
        refine awDraw_E 11 [[],[],[1],[],[3],[],[5],[6,5],[4,3,7,6,5],[8,4,3,7,6,5],[2,1,9,8,4,3,7,6,5],[0,10,2,1,9,8,4,3,7,6,5],[11,0,10,2,1,9,8,4,3,7,6,5]] (by kernel_rfl) (by kernel_rfl) ?_
        simp (disch := omega) [t4, ej, u1, u2]
        refine awCall_det' (gcd_i o' dj (by omega) (by omega)) (by simp <;> omega) ?_
        simp (disch := omega) [t4, ej, wrap_in, hg0, hg00, tdiv_q, div_q]
        have eL : (o' : Int) * (qN dj (o'.gcd dj) : Nat) = ((o'.lcm dj : Nat) : Int) := by rw [← hlcm]; simp
        rw [hlcm] at hlb
        have hLp : 0 < o'.lcm dj := Nat.lcm_pos ho0' pj
        rw [eL]
        generalize hL : o'.lcm dj = L at hlb hLp ⊢
        by_cases hbig : 960 < L
        · have hnone : divG 1 l = none := by
            rw [hd]
            rcases hdj with ⟨rfl, rfl⟩ | ⟨rfl, rfl⟩
            · have := j0 rfl
              subst this
              exact hbad1 (by omega)
            · have := j1 rfl
              subst this
              exact hbad2 (by omega) (by omega)
          have hbig' : (960 : Int) < L := by omega
          simp [hbig, hbig', divV, hs, hnone]
          exact hK2.trans (hK3.app _)
        · have hbig' : ¬ (960 : Int) < L := by omega
          simp (disch := omega) [hbig, hbig', t25, wrap_in]
          refine lpI (m' - 1) (by omega) ⟨j + 1, L, by omega, hK3.app _, hLp, by omega, fun h => by omega, fun h => ?_, fun h => ?_, by simp, by simp [t24], by simp [t23], by simp, by simp [t15], by simp [t14], by simp [t13]⟩
          · rcases hdj with ⟨rfl, rfl⟩ | ⟨rfl, rfl⟩
            · rw [← j0 rfl, hL]
            · omega
          · rcases hdj with ⟨rfl, rfl⟩ | ⟨rfl, rfl⟩
            · omega
            · rw [← j1 rfl, hL]
              exact ⟨ho', rfl⟩
      · obtain rfl : j = 2 := by omega
        obtain ⟨j2a, j2b⟩ := j2 rfl
        simp (disch := omega) [t25, t24, t15, wrap_in]
        refine lpI (m - 1) (by omega) ⟨k + 1, o', by omega, hK2.trans hK3, ho0', ho', by rw [hd]; exact hdiv _ _ rfl j2a j2b ho', by simp, by simp [t14], by simp [t13], by simp [t4]⟩
    · obtain rfl : k = n := by omega
      rw [List.drop_of_length_le (by omega)] at hd
      simp [t15, t14, t4, divV, hs, hd, divG, hK]
  · simp [hs, divV, keeps_app]
theorem fill2 (a b : Int) : Instr.fill (fun i => some (i, 1)) (zrow [iv 0] 2).toArray [(0, iv a), (1, iv b)] = some #[iv a, iv b] := by rfl
set_option maxHeartbeats 2000000 in
theorem DivisionOf_s {M : Mem} {A : Option Addr} {n c : Nat} {l : List Note} (h : Sl noteR M A n l) (hn : n ≤ 1099511627776) : Det Try.prog M.length 8 [.agg #[.slice A n c]] M (.tuple #[iv (divV l).1, iv (divV l).2]) M := by
  have hl := h.1
  first | (refine det_fn Try.func8 rfl Try.ntmps8 Try.results8 rfl rfl rfl (by simp) ?_) | (refine det_fnC Try.func8 rfl Try.ntmps8 Try.results8 rfl rfl (by simp) ?_)
  simp
  refine awCall_det' (l18Ok_a (c := c) (h.app _) (by simp) hn) (by simp) ?_
  by_cases hs : scoreB l = true
  · have ha : l.all noteB = true := by simp [scoreB] at hs; simpa using hs.1.2
    simp [hs]
    refine awLoop_T (fun m T M' => ∃ k o : Nat, k + m = n ∧ Keeps M M' ∧ cellAt M' M.length 0 = some (.slice A n c) ∧ 0 < o ∧ o ≤ 960 ∧ divG 1 l = divG o (l.drop k) ∧ look T 5 = some (iv k) ∧ look T 1 = some (.pointer (some ⟨M.length, 0, none⟩)) ∧ look T 4 = some (iv o)) n ⟨0, 1, by omega, keeps_app _, by simp, by omega, by omega, rfl, by simp, by simp, by simp⟩ ?_
    rintro m T M1 ⟨k, o, hm, hK, hr, ho0, ho, hd, t5, t1, t4⟩
    have hKl := hK.len
    by_cases hlt : k < n
    · obtain ⟨id, off, rfl, he, hc⟩ := (h.keeps hK).at_ hlt
      obtain ⟨c0, c1, c2, c3, c4, c5, c6⟩ := note_cells hc
      obtain ⟨g0, g2⟩ := note_cellsN hc
      have hnb := all_el ha (i := k) (by omega)
      obtain ⟨f1, f2⟩ := note_end hnb
      obtain ⟨d1, e1, p1, q1⟩ := frac_d f1
      obtain ⟨d2, e2, p2, q2⟩ := frac_d f2
      have e1' : (el l k).ad = d1 := e1
      simp (disch := omega) [t5, t1, hlt, hr]
      refine awDraw_M 17 [[],[0],[],[1,0,2],[3,1,0,2],[4,3,1,0,2],[],[6],[],[7,6,8],[9,7,6,8],[10,9,7,6,8],[5,4,3,1,0,2,11,10,9,7,6,8],[12,5,4,3,1,0,2,11,10,9,7,6,8],[13,12,5,4,3,1,0,2,11,10,9,7,6,8],[13,12,5,4,3,1,0,2,11,10,9,7,6,8],[],[16,14,13,12,5,4,3,1,0,2,11,10,9,7,6,8],[15,13,12,5,4,3,1,0,2,11,10,9,7,6,8,17,16,14]] [15] (by kernel_rfl) (by decide +kernel) (by decide +kernel) ?_
      simp (disch := omega) [t5, t1, hlt, hr, he, g0, g2]
      refine awCall_det' (AddFrac_s (el l k).at_ (el l k).len) (by simp) ?_
      have hfin : (addF (el l k).at_ (el l k).len).1 = (el l k).fin := rfl
      rw [hfin]
      simp (disch := omega) [t5, t1, hlt, hr, he]
      refine awDraw_E 9 [[],[0],[],[1,0,2],[3,1,0,2],[4,3,1,0,2],[5,4,3,1,0,2],[],[7],[6,5,4,3,1,0,2,8,7],[9,6,5,4,3,1,0,2,8,7]] (by kernel_rfl) (by kernel_rfl) ?_
      have hr' := fun L => cellAt_app hr L
      have c1' := fun L => cellAt_app c1 L
      have he' : ∀ L : Mem, rowEsz (M1 ++ L) id = some 7 := fun L => rowEsz_keeps (keeps_app L) he
      simp (disch := omega) [t5, t1, hlt, hr', he', c1', fill2]
      have hsl : Sl intR (M1 ++ [.live ⟨[iv (el l k).fin.n, iv (el l k).fin.d], true, true, 51, 2⟩, .live ⟨[iv (el l k).ad, iv (el l k).fin.d], true, true, 2, 1⟩]) (some ⟨M1.length + 1, 0, none⟩) 2 [(el l k).ad, (el l k).fin.d] :=
        ⟨rfl, fun _ => ⟨M1.length + 1, 0, rfl, by simp [rowEsz], fun j x hx => by
          have hx' : [iv (el l k).ad, iv (el l k).fin.d][j]? = some x := hx
          simp [cellAt, hx']⟩⟩
      obtain ⟨M2, hM2⟩ : ∃ M2 : Mem, M2 = M1 ++ [.live ⟨[iv (el l k).fin.n, iv (el l k).fin.d], true, true, 51, 2⟩, .live ⟨[iv (el l k).ad, iv (el l k).fin.d], true, true, 2, 1⟩] := ⟨_, rfl⟩
      rw [← hM2] at hsl ⊢
      have hK2 : Keeps M M2 := by rw [hM2]; exact hK.app _
      have hr2 : cellAt M2 M.length 0 = some (.slice (some ⟨id, off, none⟩) n c) := by rw [hM2]; exact hr' _
      clear hM2
      have hK2l := hK2.len
      have hdiv : ∀ o1 o2 : Nat, o1 = o.lcm d1 → o1 ≤ 960 → o2 = o1.lcm d2 → o2 ≤ 960 → divG o (l.drop k) = divG o2 (l.drop (k + 1)) := by
        intro o1 o2 h1 h1' h2 h2'
        rw [drop_el (by omega), divG, show (el l k).ad.natAbs = d1 by omega, show (el l k).fin.d.natAbs = d2 by omega, ← h1, if_neg (by omega), ← h2, if_neg (by omega)]
      have hbad1 : 960 < o.lcm d1 → divG o (l.drop k) = none := by
        intro h1
        rw [drop_el (by omega), divG, show (el l k).ad.natAbs = d1 by omega, if_pos h1]
      have hbad2 : o.lcm d1 ≤ 960 → 960 < (o.lcm d1).lcm d2 → divG o (l.drop k) = none := by
        intro h1 h2
        rw [drop_el (by omega), divG, show (el l k).ad.natAbs = d1 by omega, show (el l k).fin.d.natAbs = d2 by omega, if_neg (by omega), if_pos h2]
      refine awLoop_T (fun m' T M' => ∃ j o' : Nat, j + m' = 2 ∧ M' = M2 ∧ 0 < o' ∧ o' ≤ 960 ∧ (j = 0 → o' = o) ∧ (j = 1 → o' = o.lcm d1) ∧ (j = 2 → o.lcm d1 ≤ 960 ∧ o' = (o.lcm d1).lcm d2) ∧ look T 9 = some (iv j) ∧ look T 8 = some (.slice (some ⟨M1.length + 1, 0, none⟩) 2 2) ∧ look T 4 = some (iv o') ∧ look T 5 = some (iv k) ∧ look T 1 = some (.pointer (some ⟨M.length, 0, none⟩))) 2
        ⟨0, o, by omega, rfl, ho0, ho, fun _ => rfl, fun h => by omega, fun h => by omega, by simp, by simp, by simp [t4], by simp [t5], by simp [t1]⟩ ?_
      clear t5 t1 t4 T
      rintro m' T M3 ⟨j, o', hj, rfl, ho0', ho', j0, j1, j2, t9, t8, t4, t5, t1⟩
      by_cases hj2 : j < 2
      · obtain ⟨id2, off2, ee, he2, hc2⟩ := hsl.at_ hj2
        cases ee
        have hx2 : cellAt M3 (M1.length + 1) (0 + j * 1) = some (iv (el [(el l k).ad, (el l k).fin.d] j)) := hc2 0 _ rfl
        simp only [Nat.zero_add, Nat.mul_one] at hx2
        obtain ⟨dj, ej, pj, qj, hdj⟩ : ∃ dj : Nat, el [(el l k).ad, (el l k).fin.d] j = dj ∧ 0 < dj ∧ dj ≤ 1000000 ∧ ((j = 0 ∧ dj = d1) ∨ (j = 1 ∧ dj = d2)) := by
          rcases j with _ | _ | j
          · exact ⟨d1, e1, p1, q1, .inl ⟨rfl, rfl⟩⟩
          · exact ⟨d2, e2, p2, q2, .inr ⟨rfl, rfl⟩⟩
          · omega
        rw [ej] at hx2
        have hg := Nat.gcd_pos_of_pos_right o' pj
        have hg00 : ¬ o'.gcd dj = 0 := by omega
        have hlcm := lcm_s o' dj pj
        have hq := qN_le o' (o'.gcd dj)
        have hlb : qN o' (o'.gcd dj) * dj ≤ 960 * 1000000 := Nat.mul_le_mul (by omega) qj
        have hj2' : (j : Int) < 2 := by omega
        simp (disch := omega) [t9, hj2, hj2']
        refine awDraw_E 12 [[],[],[],[],[2,3],[4,2,3],[1,5,4,2,3],[0,6,1,5,4,2,3],[],[],[8,9],[10,8,9],[7,0,6,1,5,4,2,3,11,10,8,9],[12,7,0,6,1,5,4,2,3,11,10,8,9]] (by kernel_rfl) (by kernel_rfl) ?_
        simp (disch := omega) [t4, t8, t9, hj2, hj2', he2, hx2]
        refine awCall_det' (l20Gcd_a o' dj (by omega) (by omega)) (by simp <;> omega) ?_
        simp (disch := omega) [t4, t8, t9, hj2, hj2', he2, hx2, wrap_in, hg00, tdiv_q, div_q]
        have eL : ((qN o' (o'.gcd dj) : Nat) : Int) * dj = ((o'.lcm dj : Nat) : Int) := by rw [← hlcm]; simp
        rw [hlcm] at hlb
        have hLp : 0 < o'.lcm dj := Nat.lcm_pos ho0' pj
        rw [eL]
        generalize hL : o'.lcm dj = L at hlb hLp ⊢
        by_cases hbig : 960 < L
        · have hnone : divG 1 l = none := by
            rw [hd]
            rcases hdj with ⟨rfl, rfl⟩ | ⟨rfl, rfl⟩
            · have := j0 rfl
              subst this
              exact hbad1 (by omega)
            · have := j1 rfl
              subst this
              exact hbad2 (by omega) (by omega)
          have hbig' : (960 : Int) < L := by omega
          simp [hbig, hbig', divV, hs, hnone]
          exact hK2
        · have hbig' : ¬ (960 : Int) < L := by omega
          simp (disch := omega) [hbig, hbig', t9, wrap_in]
          refine lpI (m' - 1) (by omega) ⟨j + 1, L, by omega, rfl, hLp, by omega, fun h => by omega, fun h => ?_, fun h => ?_, by simp, by simp [t8], by simp, by simp [t5], by simp [t1]⟩
          · rcases hdj with ⟨rfl, rfl⟩ | ⟨rfl, rfl⟩
            · rw [← j0 rfl, hL]
            · omega
          · rcases hdj with ⟨rfl, rfl⟩ | ⟨rfl, rfl⟩
            · omega
            · rw [← j1 rfl, hL]
              exact ⟨ho', rfl⟩
      · obtain rfl : j = 2 := by omega
        obtain ⟨j2a, j2b⟩ := j2 rfl
        simp (disch := omega) [t9, t5, wrap_in]
        refine lpI (m - 1) (by omega) ⟨k + 1, o', by omega, hK2, hr2, ho0', ho', by rw [hd]; exact hdiv _ _ rfl j2a j2b ho', by simp, by simp [t1], by simp [t4]⟩
    · obtain rfl : k = n := by omega
      rw [List.drop_of_length_le (by omega)] at hd
      simp [t5, t1, t4, hr, divV, hs, hd, divG, hK]
  · simp [hs, divV, keeps_app]
theorem DivisionOf_sl {M : Mem} {v : Value} {lo hi : Nat} {l : List Note} (h : RdL noteR lo hi M v l) (hl : l.length ≤ 1048576) : Det Try.prog M.length 8 [.agg #[v]] M (.tuple #[iv (divV l).1, iv (divV l).2]) M := by
  obtain ⟨A, n, c, rfl, hn, hS, _⟩ := h
  exact DivisionOf_s hS (by have := hS.1; omega)
theorem DivisionOf_il {M : Mem} {v : Value} {lo hi : Nat} {l : List Note} (h : RdL noteR lo hi M v l) (hl : l.length ≤ 1048576) : Det Try.prog M.length 7 [.agg #[v]] M (.tuple #[iv (divV l).1, iv (divV l).2]) M := by
  obtain ⟨A, n, c, rfl, hn, hS, _⟩ := h
  exact DivisionOf_i hS (by have := hS.1; omega)
end Go.Proofs.Ytbpaeonfebmomaa

namespace Go.Proofs.Ytbpaeonfebmomaa
open Go.RowKit
set_option linter.unusedVariables false
set_option linter.unusedSimpArgs false
set_option maxRecDepth 100000
attribute [local simp] List.getElem?_cons_zero
attribute [local irreducible] awCond awCall awLoop awDraw ow retQ retC resQ Keeps
structure Tempo where
  (bn bd s : Int)
deriving Inhabited, DecidableEq
def Tempo.row (c : Tempo) : List Value := [iv c.bn, iv c.bd, iv c.s]
def tempoR : RecV Tempo 3 := ⟨Tempo.row, fun _ => rfl⟩
abbrev Tempo.v (c : Tempo) : Value := .agg #[iv c.bn, iv c.bd, iv c.s]
theorem tempo_cells {M : Mem} {id off : Nat} {g : Tempo} (h : Cl M id off g.row) : cellAt M id off = some (iv g.bn) ∧ cellAt M id (off + 1) = some (iv g.bd) ∧ cellAt M id (off + 2) = some (iv g.s) :=
  ⟨h 0 _ rfl, h 1 _ rfl, h 2 _ rfl⟩
theorem tempo_load {M : Mem} {id off : Nat} {g : Tempo} (h : Cl M id off g.row) : cellsAt M id off 3 = some [iv g.bn, iv g.bd, iv g.s] := cellsAt_of h rfl (by omega)
theorem tempo_eq {a b : Tempo} : a = b ↔ a.bn = b.bn ∧ a.bd = b.bd ∧ a.s = b.s := by
  cases a; cases b; simp
def tempoI : Ints tempoR := ⟨fun zs => ⟨gi zs 0, gi zs 1, gi zs 2⟩, fun zs h => by
  obtain ⟨x0, x1, x2, rfl⟩ : ∃ x0 x1 x2, zs = [x0, x1, x2] := by
    match zs, h with
    | [x0, x1, x2], _ => exact ⟨x0, x1, x2, rfl⟩
  rfl⟩














@[simp] theorem tempo_fill (x0 x1 x2 : Int) : Instr.fill (fun i => some (i * 3, 3)) (zrow [iv 0, iv 0, iv 0] 1).toArray [(0, .agg #[iv x0, iv x1, iv x2])] = some #[iv x0, iv x1, iv x2] := fill_agg (by omega) rfl rfl
def markTempo (z : Int) (i : Nat) : Tempo := ⟨z + i * 3, z + i * 3 + 1, z + i * 3 + 1 + 1⟩
def markTempoL (z : Int) (n : Nat) : List Tempo := (List.range n).map (markTempo z)
theorem markTempoL_succ (z : Int) (n : Nat) : markTempoL z (n + 1) = markTempoL z n ++ [markTempo z n] := by simp [markTempoL, List.range_succ]
/-! The same, as the laws use them. -/
end Go.Proofs.Ytbpaeonfebmomaa

namespace Go.Proofs.Ytbpaeonfebmomaa
open Go.RowKit
set_option linter.unusedVariables false
set_option linter.unusedSimpArgs false
set_option maxRecDepth 100000
attribute [local simp] List.getElem?_cons_zero
attribute [local irreducible] awCond awCall awLoop awDraw ow retQ retC resQ Keeps
end Go.Proofs.Ytbpaeonfebmomaa

namespace Go.Proofs.Ytbpaeonfebmomaa
open Go.RowKit
set_option linter.unusedVariables false
set_option linter.unusedSimpArgs false
set_option maxRecDepth 100000
attribute [local simp] List.getElem?_cons_zero
attribute [local irreducible] awCond awCall awLoop awDraw ow retQ retC resQ Keeps
def Tempo.beat (t : Tempo) : Frac := ⟨t.bn, t.bd⟩
/-- A position behind another one, by a difference of beats times some samples; and a code. -/
def onF (frm beat : Frac) (s : Int) (at_ : Frac) : Frac × Int :=
  if (subF beat frm).2 ≠ 0 then (at_, (subF beat frm).2) else
  if (mulF (subF beat frm).1 ⟨s, 1⟩).2 ≠ 0 then (at_, (mulF (subF beat frm).1 ⟨s, 1⟩).2) else addF at_ (mulF (subF beat frm).1 ⟨s, 1⟩).1
def onY (frm beat : Frac) (s : Int) (at_ : Frac) : Frac := (addF at_ (mulF (subF beat frm).1 ⟨s, 1⟩).1).1
def onOk (frm beat : Frac) (s : Int) (at_ : Frac) : Bool := decide ((subF beat frm).2 = 0) && decide ((mulF (subF beat frm).1 ⟨s, 1⟩).2 = 0) && decide ((addF at_ (mulF (subF beat frm).1 ⟨s, 1⟩).1).2 = 0)
theorem onOk_iff {frm beat at_ : Frac} {s : Int} : onOk frm beat s at_ = true ↔ (onF frm beat s at_).2 = 0 := by
  unfold onOk onF
  simp only [Bool.and_eq_true, decide_eq_true_eq]
  constructor
  · rintro ⟨⟨h1, h2⟩, h3⟩
    rw [if_neg (by omega), if_neg (by omega)]
    exact h3
  · intro h
    split at h
    · rename_i h1; exact absurd h h1
    · rename_i h1
      split at h
      · rename_i h2; exact absurd h h2
      · rename_i h2
        exact ⟨⟨by omega, by omega⟩, h⟩
theorem onY_eq {frm beat at_ : Frac} {s : Int} (h : (onF frm beat s at_).2 = 0) : onY frm beat s at_ = (onF frm beat s at_).1 := by
  unfold onY
  unfold onF at h ⊢
  split at h
  · rename_i h1; exact absurd h h1
  · rename_i h1
    rw [if_neg h1]
    split at h
    · rename_i h2; exact absurd h h2
    · rename_i h2
      rw [if_neg h2]
theorem mkF_code {n d : Int} (hd : d ≠ 0) : (mkF n d).2 = 0 ∨ (mkF n d).2 = 2 := by
  unfold mkF
  rw [if_neg hd]
  split
  · exact .inr rfl
  · exact .inl rfl
theorem addF_code {a b : Frac} (ha : fracB a = true) (hb : fracB b = true) : (addF a b).2 = 0 ∨ (addF a b).2 = 2 := by
  obtain ⟨-, -, h, -⟩ := frac_bd ha hb
  unfold addF
  rw [if_pos ⟨ha, hb⟩]
  exact mkF_code (by omega)
theorem subF_code {a b : Frac} (ha : fracB a = true) (hb : fracB b = true) : (subF a b).2 = 0 ∨ (subF a b).2 = 2 := by
  obtain ⟨-, -, h, -⟩ := frac_bd ha hb
  unfold subF
  rw [if_pos ⟨ha, hb⟩]
  exact mkF_code (by omega)
theorem mulF_code {a b : Frac} (ha : fracB a = true) (hb : fracB b = true) : (mulF a b).2 = 0 ∨ (mulF a b).2 = 2 := by
  obtain ⟨-, -, h, -⟩ := frac_bd ha hb
  unfold mulF
  rw [if_pos ⟨ha, hb⟩]
  exact mkF_code (by omega)
theorem subF_ok {a b : Frac} (h : (subF a b).2 = 0) : fracB (subF a b).1 = true := by
  unfold subF at h ⊢
  split at h
  · rename_i hab
    rw [if_pos hab]
    exact mkF_ok h
  · cases h
theorem mulF_ok {a b : Frac} (h : (mulF a b).2 = 0) : fracB (mulF a b).1 = true := by
  unfold mulF at h ⊢
  split at h
  · rename_i hab
    rw [if_pos hab]
    exact mkF_ok h
  · cases h
theorem onF_ok {frm beat at_ : Frac} {s : Int} (h : (onF frm beat s at_).2 = 0) : fracB (onF frm beat s at_).1 = true := by
  unfold onF at h ⊢
  split at h
  · rename_i h1; exact absurd h h1
  · rename_i h1
    rw [if_neg h1]
    split at h
    · rename_i h2; exact absurd h h2
    · rename_i h2
      rw [if_neg h2]
      exact addF_ok h
theorem onF_code {frm beat at_ : Frac} {s : Int} (h1 : fracB frm = true) (h2 : fracB beat = true) (h3 : fracB at_ = true) (hs : 1 ≤ s ∧ s ≤ 1000) : (onF frm beat s at_).2 = 0 ∨ (onF frm beat s at_).2 = 2 := by
  have hc := subF_code h2 h1
  unfold onF
  split
  · rename_i h; simp only; omega
  · rename_i h
    have hd := subF_ok (a := beat) (b := frm) (by omega)
    have hc2 := mulF_code hd (whole_ok (n := s) (by omega) (by omega))
    split
    · rename_i h'; simp only; omega
    · rename_i h'
      exact addF_code h3 (mulF_ok (by omega))
theorem mkF_zero {d : Int} (hd : 0 < d) : mkF 0 d = (⟨0, 1⟩, 0) := by
  unfold mkF
  rw [if_neg (by omega)]
  have e : (0 : Int).natAbs.gcd d.natAbs = d.natAbs := by simp
  rw [e]
  have e2 : d.natAbs / d.natAbs = 1 := Nat.div_self (by omega)
  have hd' : ¬ d < 0 := by omega
  simp [e2, hd']
theorem zero_ok : fracB ⟨0, 1⟩ = true := by decide
/-- At a beat of one's own nothing is added. -/
theorem onF_self {b at_ : Frac} {s : Int} (hb : fracB b = true) (ha : fracB at_ = true) (hs : 1 ≤ s ∧ s ≤ 1000) : onF b b s at_ = (at_, 0) := by
  obtain ⟨-, -, h3, -⟩ := frac_bd hb hb
  have e1 : subF b b = (⟨0, 1⟩, 0) := by
    unfold subF
    rw [if_pos ⟨hb, hb⟩, Int.sub_self]
    exact mkF_zero (by omega)
  have hw := whole_ok (n := s) (by omega) (by omega)
  have e2 : mulF ⟨0, 1⟩ ⟨s, 1⟩ = (⟨0, 1⟩, 0) := by
    unfold mulF
    rw [if_pos ⟨zero_ok, hw⟩]
    simp only [Int.zero_mul, Int.mul_one]
    exact mkF_zero (by omega)
  have e3 : addF at_ ⟨0, 1⟩ = (at_, 0) := by
    unfold addF
    rw [if_pos ⟨ha, zero_ok⟩]
    simp only [Int.zero_mul, Int.mul_one, Int.add_zero]
    exact mkF_self ha
  unfold onF
  rw [e1]
  simp only
  rw [if_neg (by omega), e2]
  simp only
  rw [if_neg (by omega)]
  exact e3
/-- The position of a tempo. -/
def posK (l : List Tempo) : Nat → Option Frac
  | 0 => some ⟨0, 1⟩
  | k + 1 => (posK l k).bind fun at_ => if (onF (el l k).beat (el l (k + 1)).beat (el l k).s at_).2 = 0 then some (onF (el l k).beat (el l (k + 1)).beat (el l k).s at_).1 else none
theorem posK_ok (l : List Tempo) : ∀ {k : Nat} {f : Frac}, posK l k = some f → fracB f = true
  | 0, f, h => by
    injection h with h
    subst h
    exact zero_ok
  | k + 1, f, h => by
    obtain ⟨a, ha, h⟩ := Option.bind_eq_some_iff.1 h
    split at h
    · injection h with h
      rename_i hc
      rw [← h]
      exact onF_ok hc
    · cases h
theorem posK_back (l : List Tempo) {k : Nat} (h : (posK l (k + 1)).isSome = true) : (posK l k).isSome = true := by
  cases hk : posK l k with
  | none => simp [posK, hk] at h
  | some a => rfl
def tempoB (t : Tempo) : Bool := beatB t.beat && inB t.s 1 1000
/-- Tempos in order, of which the first is at 0. -/
def tempA (l : List Tempo) : Bool := inB l.length 1 8 && l.all tempoB && decide ((el l 0).bn = 0) && decide (∀ i, i < l.length → 0 < i → cmpF (el l (i - 1)).beat (el l i).beat < 0)
def tempB (l : List Tempo) : Bool := tempA l && decide (∀ k, k < l.length → (posK l k).isSome = true)
def posAll (l : List Tempo) : List Frac := (List.range l.length).map fun k => (posK l k).getD ⟨0, 1⟩
theorem tempoB_iff {t : Tempo} : tempoB t = true ↔ beatB t.beat = true ∧ 1 ≤ t.s ∧ t.s ≤ 1000 := by
  simp only [tempoB, Bool.and_eq_true, inB_iff]
theorem tempA_iff {l : List Tempo} : tempA l = true ↔ (1 ≤ l.length ∧ l.length ≤ 8) ∧ (∀ i, i < l.length → tempoB (el l i) = true) ∧ (el l 0).bn = 0 ∧ ∀ i, i < l.length → 0 < i → cmpF (el l (i - 1)).beat (el l i).beat < 0 := by
  simp only [tempA, Bool.and_eq_true, decide_eq_true_eq, inB_iff, and_assoc, List.all_eq_true]
  constructor
  · rintro ⟨h1, h2, h3, h4, h5⟩
    exact ⟨by omega, by omega, fun i hi => h3 _ (el_mem hi), h4, h5⟩
  · rintro ⟨h1, h2, h3, h4, h5⟩
    refine ⟨by omega, by omega, fun x hx => ?_, h4, h5⟩
    obtain ⟨i, hi, rfl⟩ := List.getElem_of_mem hx
    rw [el_eq hi]
    exact h3 i hi
/-- The tempo of a beat. -/
def idxT (l : List Tempo) (b : Frac) : Nat → Nat
  | 0 => 0
  | i + 1 => if cmpF (el l i).beat b ≤ 0 then i else idxT l b i
theorem cmpF_le {a b : Frac} : cmpF a b ≤ 0 ↔ a.n * b.d ≤ b.n * a.d := by
  unfold cmpF
  split
  · constructor <;> intro h <;> omega
  · split
    · constructor <;> intro h <;> omega
    · constructor <;> intro h <;> omega
theorem cmpF_lt {a b : Frac} : cmpF a b < 0 ↔ a.n * b.d < b.n * a.d := by
  unfold cmpF
  split
  · constructor <;> intro h <;> omega
  · split
    · constructor <;> intro h <;> omega
    · constructor <;> intro h <;> omega
theorem frac_lt {a b : Frac} : a.n * b.d < b.n * a.d ↔ a.n * b.d < b.n * a.d := Iff.rfl
/-- The order of fractions, over one in the middle. -/
theorem cmpF_trans {a b c : Frac} (ha : 1 ≤ a.d) (hb : 1 ≤ b.d) (hc : 1 ≤ c.d) (h1 : cmpF a b < 0) (h2 : cmpF b c ≤ 0) : cmpF a c < 0 := by
  rw [cmpF_lt] at h1 ⊢
  rw [cmpF_le] at h2
  have e1 : a.n * b.d * c.d < b.n * a.d * c.d := Int.mul_lt_mul_of_pos_right h1 (by omega)
  have e2 : b.n * c.d * a.d ≤ c.n * b.d * a.d := Int.mul_le_mul_of_nonneg_right h2 (by omega)
  have e3 : b.n * a.d * c.d = b.n * c.d * a.d := by rw [Int.mul_assoc, Int.mul_comm a.d, ← Int.mul_assoc]
  have e4 : (a.n * c.d) * b.d < (c.n * a.d) * b.d := by
    have x1 : a.n * c.d * b.d = a.n * b.d * c.d := by rw [Int.mul_assoc, Int.mul_comm c.d, ← Int.mul_assoc]
    have x2 : c.n * a.d * b.d = c.n * b.d * a.d := by rw [Int.mul_assoc, Int.mul_comm a.d, ← Int.mul_assoc]
    omega
  exact Int.lt_of_mul_lt_mul_right e4 (by omega)
/-- The first tempo that is the last one, or whose next one is behind the beat: it is the tempo of the beat. -/
theorem idx_last {l : List Tempo} {b : Frac} (hl : tempA l = true) (hb : 1 ≤ b.d) {k : Nat} (hk : k < l.length) (h1 : ∀ i, i ≤ k → 0 < i → cmpF (el l i).beat b ≤ 0) (h0 : cmpF (el l 0).beat b ≤ 0) (h2 : k + 1 = l.length ∨ ¬ cmpF (el l (k + 1)).beat b ≤ 0) : idxT l b l.length = k := by
  obtain ⟨⟨l1, l2⟩, ha, -, hs⟩ := tempA_iff.1 hl
  have pos : ∀ i, i < l.length → 1 ≤ (el l i).beat.d := fun i hi => (fracB_iff.1 (beatB_iff.1 (tempoB_iff.1 (ha i hi)).1).1).1.1
  have far : ∀ i, k < i → i < l.length → ¬ cmpF (el l i).beat b ≤ 0 := by
    intro i hi hil
    have : ∀ d, k + 1 + d < l.length → ¬ cmpF (el l (k + 1 + d)).beat b ≤ 0 := by
      intro d
      induction d with
      | zero =>
        intro hd
        rcases h2 with h2 | h2
        · omega
        · exact h2
      | succ d ih =>
        intro hd hc
        refine ih (by omega) ?_
        have := cmpF_trans (pos (k + 1 + d) (by omega)) (pos (k + 1 + (d + 1)) hd) hb (by have := hs (k + 1 + (d + 1)) hd (by omega); rwa [show k + 1 + (d + 1) - 1 = k + 1 + d by omega] at this) hc
        omega
    have := this (i - (k + 1)) (by omega)
    rwa [show k + 1 + (i - (k + 1)) = i by omega] at this
  have hkk : cmpF (el l k).beat b ≤ 0 := by
    rcases Nat.eq_zero_or_pos k with h | h
    · rw [h]; exact h0
    · exact h1 k (Nat.le_refl _) h
  have : ∀ d, k + 1 + d ≤ l.length → idxT l b (k + 1 + d) = k := by
    intro d
    induction d with
    | zero => intro _; show (if cmpF (el l k).beat b ≤ 0 then k else _) = k; rw [if_pos hkk]
    | succ d ih =>
      intro hd
      show (if cmpF (el l (k + 1 + d)).beat b ≤ 0 then k + 1 + d else idxT l b (k + 1 + d)) = k
      rw [if_neg (far _ (by omega) (by omega))]
      exact ih (by omega)
  have := this (l.length - (k + 1)) (by omega)
  rwa [show k + 1 + (l.length - (k + 1)) = l.length by omega] at this
theorem idx_le {l : List Tempo} {b : Frac} : ∀ n, 0 < n → idxT l b n < n
  | 0, h => by omega
  | n + 1, _ => by
    unfold idxT
    split
    · omega
    · rcases Nat.eq_zero_or_pos n with h | h
      · subst h; simp [idxT]
      · have := idx_le (l := l) (b := b) n h; omega
end Go.Proofs.Ytbpaeonfebmomaa

namespace Go.Proofs.Ytbpaeonfebmomaa
open Go.RowKit
set_option linter.unusedVariables false
set_option linter.unusedSimpArgs false
set_option maxRecDepth 100000
attribute [local simp] List.getElem?_cons_zero
attribute [local irreducible] awCond awCall awLoop awDraw ow retQ retC resQ Keeps
def lastB (l : List Tempo) (b : Frac) (i : Nat) : Bool := decide (i + 1 = l.length) || decide (0 < cmpF (el l (i + 1)).beat b)
def goF (l : List Tempo) (b : Frac) : Nat → Nat → Frac → Frac × Int
  | 0, _, a => (a, 0)
  | f + 1, i, a =>
    if lastB l b i = true then onF (el l i).beat b (el l i).s a else
    if (onF (el l i).beat (el l (i + 1)).beat (el l i).s a).2 ≠ 0 then onF (el l i).beat (el l (i + 1)).beat (el l i).s a else goF l b f (i + 1) (onF (el l i).beat (el l (i + 1)).beat (el l i).s a).1
theorem posK_succ {l : List Tempo} {i : Nat} {a : Frac} (h : posK l i = some a) : posK l (i + 1) = if (onF (el l i).beat (el l (i + 1)).beat (el l i).s a).2 = 0 then some (onF (el l i).beat (el l (i + 1)).beat (el l i).s a).1 else none := by
  rw [posK, h]
  rfl
theorem posK_none {l : List Tempo} {i : Nat} (h : posK l i = none) : ∀ d, posK l (i + d) = none
  | 0 => h
  | d + 1 => by rw [← Nat.add_assoc, posK, posK_none h d]; rfl
theorem go_some {l : List Tempo} {b x : Frac} {K : Nat} (hK : K < l.length) (hl : lastB l b K = true) (hn : ∀ i, i < K → lastB l b i = false) (hx : posK l K = some x) :
    ∀ (d i : Nat) (a : Frac), i + d = K → posK l i = some a → goF l b (l.length - i) i a = onF (el l K).beat b (el l K).s x
  | 0, i, a, hi, ha => by
    obtain rfl : i = K := by omega
    rw [ha] at hx
    injection hx with hx
    subst hx
    rw [show l.length - i = (l.length - i - 1) + 1 by omega, goF, if_pos hl]
  | d + 1, i, a, hi, ha => by
    have hs := posK_succ ha
    rw [show l.length - i = (l.length - (i + 1)) + 1 by omega, goF, if_neg (by rw [hn i (by omega)]; simp)]
    by_cases hc : (onF (el l i).beat (el l (i + 1)).beat (el l i).s a).2 = 0
    · rw [if_pos hc] at hs
      rw [if_neg (by omega)]
      exact go_some hK hl hn hx d (i + 1) _ (by omega) hs
    · rw [if_neg hc] at hs
      have := posK_none hs (K - (i + 1))
      rw [show i + 1 + (K - (i + 1)) = K by omega, hx] at this
      cases this
theorem go_none {l : List Tempo} {b : Frac} {K : Nat} (hK : K < l.length) (hl : lastB l b K = true) (hn : ∀ i, i < K → lastB l b i = false) (hx : posK l K = none) :
    ∀ (d i : Nat) (a : Frac), i + d = K → posK l i = some a → (goF l b (l.length - i) i a).2 ≠ 0
  | 0, i, a, hi, ha => by
    obtain rfl : i = K := by omega
    rw [ha] at hx
    cases hx
  | d + 1, i, a, hi, ha => by
    have hs := posK_succ ha
    rw [show l.length - i = (l.length - (i + 1)) + 1 by omega, goF, if_neg (by rw [hn i (by omega)]; simp)]
    by_cases hc : (onF (el l i).beat (el l (i + 1)).beat (el l i).s a).2 = 0
    · rw [if_pos hc] at hs
      rw [if_neg (by omega)]
      exact go_none hK hl hn hx d (i + 1) _ (by omega) hs
    · rw [if_pos hc]
      exact hc
theorem last_ex {l : List Tempo} {b : Frac} (h : 0 < l.length) : ∃ K, K < l.length ∧ lastB l b K = true ∧ ∀ i, i < K → lastB l b i = false := by
  obtain ⟨K, h1, h2, h3⟩ := least_false (p := fun i => !lastB l b i) l.length ⟨l.length - 1, by omega, by
    have : lastB l b (l.length - 1) = true := by unfold lastB; rw [decide_eq_true (by omega)]; rfl
    simp [this]⟩
  exact ⟨K, h1, by simpa using h2, fun i hi => by simpa using h3 i hi⟩
theorem last_not {l : List Tempo} {b : Frac} {i : Nat} (h : lastB l b i = false) : i + 1 ≠ l.length ∧ cmpF (el l (i + 1)).beat b ≤ 0 := by
  unfold lastB at h
  simp only [Bool.or_eq_false_iff, decide_eq_false_iff_not] at h
  omega
/-- At the beat of a tempo: a code of 0 where the tempo has a position. -/
theorem go_self {l : List Tempo} (hl : tempA l = true) {j : Nat} (hj : j < l.length) : (goF l (el l j).beat l.length 0 ⟨0, 1⟩).2 = 0 ↔ (posK l j).isSome = true := by
  obtain ⟨⟨l1, l2⟩, ha, h0, hs⟩ := tempA_iff.1 hl
  have pos : ∀ i, i < l.length → fracB (el l i).beat = true := fun i hi => (beatB_iff.1 (tempoB_iff.1 (ha i hi)).1).1
  have lt : ∀ d i, i + (d + 1) < l.length → cmpF (el l i).beat (el l (i + (d + 1))).beat < 0 := by
    intro d
    induction d with
    | zero => intro i hi; have := hs (i + 1) hi (by omega); simpa using this
    | succ d ih =>
      intro i hi
      have h1 := ih i (by omega)
      have h2 := hs (i + (d + 1 + 1)) hi (by omega)
      rw [show i + (d + 1 + 1) - 1 = i + (d + 1) by omega] at h2
      exact cmpF_trans (fracB_iff.1 (pos _ (by omega))).1.1 (fracB_iff.1 (pos (i + (d + 1)) (by omega))).1.1 (fracB_iff.1 (pos _ hi)).1.1 h1 (by omega)
  have hlast : lastB l (el l j).beat j = true := by
    unfold lastB
    by_cases h : j + 1 = l.length
    · rw [decide_eq_true h]; rfl
    · have h1 := lt 0 j (by omega)
      rw [cmpF_lt] at h1
      have : 0 < cmpF (el l (j + 1)).beat (el l j).beat := by
        have : ¬ cmpF (el l (j + 1)).beat (el l j).beat ≤ 0 := by
          rw [cmpF_le]
          simp only [Nat.zero_add] at h1
          omega
        omega
      rw [decide_eq_true this]
      simp
  have hnot : ∀ i, i < j → lastB l (el l j).beat i = false := by
    intro i hi
    unfold lastB
    rw [decide_eq_false (by omega), Bool.false_or, decide_eq_false]
    by_cases h : i + 1 = j
    · rw [h]
      have : cmpF (el l j).beat (el l j).beat ≤ 0 := by rw [cmpF_le]; omega
      omega
    · have := lt (j - (i + 1) - 1) (i + 1) (by omega)
      rw [show i + 1 + (j - (i + 1) - 1 + 1) = j by omega] at this
      omega
  have hs0 : (1 ≤ (el l j).s ∧ (el l j).s ≤ 1000) := (tempoB_iff.1 (ha j hj)).2
  cases hp : posK l j with
  | none =>
    have := go_none hj hlast hnot hp j 0 ⟨0, 1⟩ (by omega) rfl
    rw [Nat.sub_zero] at this
    simp [this]
  | some x =>
    have := go_some hj hlast hnot hp j 0 ⟨0, 1⟩ (by omega) rfl
    rw [Nat.sub_zero] at this
    rw [this, onF_self (pos j hj) (posK_ok l hp) hs0]
    simp
/-- At any beat of a valid map: from the position of its tempo. -/
theorem go_beat {l : List Tempo} {b : Frac} (hl : tempB l = true) (hb : beatB b = true) : ∃ k a, idxT l b l.length = k ∧ k < l.length ∧ posK l k = some a ∧ goF l b l.length 0 ⟨0, 1⟩ = onF (el l k).beat b (el l k).s a := by
  have hA : tempA l = true := by simp only [tempB, Bool.and_eq_true] at hl; exact hl.1
  have hP : ∀ k, k < l.length → (posK l k).isSome = true := by simp only [tempB, Bool.and_eq_true, decide_eq_true_eq] at hl; exact hl.2
  obtain ⟨⟨l1, l2⟩, ha, h0, hs⟩ := tempA_iff.1 hA
  obtain ⟨hbf, hb0, -⟩ := beatB_iff.1 hb
  have hbd := (fracB_iff.1 hbf).1.1
  obtain ⟨K, k1, k2, k3⟩ := last_ex (l := l) (b := b) (by omega)
  obtain ⟨a, hpa⟩ := Option.isSome_iff_exists.1 (hP K k1)
  have h00 : cmpF (el l 0).beat b ≤ 0 := by
    rw [cmpF_le]
    have hz : (el l 0).beat.n = 0 := h0
    have hd0 := (fracB_iff.1 (beatB_iff.1 (tempoB_iff.1 (ha 0 (by omega))).1).1).1.1
    rw [hz, Int.zero_mul]
    exact Int.mul_nonneg hb0 (by omega)
  refine ⟨K, a, idx_last hA hbd k1 (fun i hi hi0 => ?_) h00 ?_, k1, hpa, ?_⟩
  · have := (last_not (k3 (i - 1) (by omega))).2
    rwa [show i - 1 + 1 = i by omega] at this
  · unfold lastB at k2
    simp only [Bool.or_eq_true, decide_eq_true_eq] at k2
    omega
  · have := go_some k1 k2 k3 hpa K 0 ⟨0, 1⟩ (by omega) rfl
    rwa [Nat.sub_zero] at this
end Go.Proofs.Ytbpaeonfebmomaa

namespace Go.Proofs.Ytbpaeonfebmomaa
open Go.RowKit
set_option linter.unusedVariables false
set_option linter.unusedSimpArgs false
set_option maxRecDepth 100000
attribute [local simp] List.getElem?_cons_zero
attribute [local irreducible] awCond awCall awLoop awDraw ow retQ retC resQ Keeps
def Frac.q (f : Frac) : Rat := Rat.divInt f.n f.d
theorem divInt_gcd {n d : Int} {g : Nat} (hg : 0 < g) (hn : (g : Int) ∣ n) (hd : (g : Int) ∣ d) : Rat.divInt (n / g) (d / g) = Rat.divInt n d := by
  obtain ⟨a, rfl⟩ := hn
  obtain ⟨b, rfl⟩ := hd
  have hg' : (g : Int) ≠ 0 := by omega
  rw [Int.mul_ediv_cancel_left _ hg', Int.mul_ediv_cancel_left _ hg', Rat.divInt_mul_left hg']
theorem divInt_le {a b c d : Int} (hb : 0 < b) (hd : 0 < d) : Rat.divInt a b ≤ Rat.divInt c d ↔ a * d ≤ c * b := by
  rw [Rat.le_iff_sub_nonneg, Rat.divInt_sub_divInt _ _ (by omega) (by omega), Rat.divInt_nonneg_iff_of_pos_right (Int.mul_pos hd hb)]
  constructor <;> intro h <;> omega
theorem cmpF_q {a b : Frac} (ha : 1 ≤ a.d) (hb : 1 ≤ b.d) : cmpF a b ≤ 0 ↔ a.q ≤ b.q := by
  rw [cmpF_le]
  exact (divInt_le (by omega) (by omega)).symm
theorem floor_q {f : Frac} (h : 0 < f.d) : f.q.floor = f.n / f.d := by
  have key : ∀ x : Int, x ≤ f.q.floor ↔ x ≤ f.n / f.d := by
    intro x
    have e : (x : Rat) = Rat.divInt x 1 := by rw [Rat.divInt_eq_div]; simp [Rat.div_def]; grind
    rw [Rat.le_floor_iff, e]
    unfold Frac.q
    rw [divInt_le (by omega) h, Int.le_ediv_iff_mul_le h, Int.mul_one]
  have h1 := (key _).1 (Int.le_refl _)
  have h2 := (key _).2 (Int.le_refl _)
  omega
theorem mkF_q {n d : Int} (hd : 0 < d) (h : (mkF n d).2 = 0) : (mkF n d).1.q = Rat.divInt n d := by
  unfold mkF at h ⊢
  rw [if_neg (by omega)] at h ⊢
  split at h
  · cases h
  · rename_i hx
    rw [if_neg hx]
    clear h hx
    have hg : 0 < n.natAbs.gcd d.natAbs := Nat.gcd_pos_of_pos_right _ (by omega)
    generalize hgg : n.natAbs.gcd d.natAbs = g at hg
    obtain ⟨a, ha⟩ : g ∣ n.natAbs := by rw [← hgg]; exact Nat.gcd_dvd_left _ _
    obtain ⟨b, hb⟩ : g ∣ d.natAbs := by rw [← hgg]; exact Nat.gcd_dvd_right _ _
    rw [ha, hb, Nat.mul_div_cancel_left _ hg, Nat.mul_div_cancel_left _ hg]
    have hg' : (g : Int) ≠ 0 := by omega
    have ed : d = (g : Int) * b := by rw [← Int.natCast_mul, ← hb]; omega
    have hdn : ¬ d < 0 := by omega
    by_cases hn : n < 0
    · have en : n = (g : Int) * -(a : Int) := by rw [Int.mul_neg, ← Int.natCast_mul, ← ha]; omega
      simp only [hn, hdn, decide_true, decide_false]
      show Rat.divInt (-(a : Int)) b = _
      rw [en, ed, Rat.divInt_mul_left hg']
    · have en : n = (g : Int) * (a : Int) := by rw [← Int.natCast_mul, ← ha]; omega
      simp only [hn, hdn, decide_false]
      show Rat.divInt (a : Int) b = _
      rw [en, ed, Rat.divInt_mul_left hg']
theorem addF_q {a b : Frac} (ha : fracB a = true) (hb : fracB b = true) (h : (addF a b).2 = 0) : (addF a b).1.q = a.q + b.q := by
  obtain ⟨a1, -⟩ := fracB_iff.1 ha
  obtain ⟨b1, -⟩ := fracB_iff.1 hb
  have hd : 0 < a.d * b.d := Int.mul_pos (by omega) (by omega)
  unfold addF at h ⊢
  rw [if_pos ⟨ha, hb⟩] at h ⊢
  rw [mkF_q hd h]
  exact (Rat.divInt_add_divInt a.n b.n (by omega) (by omega)).symm
theorem subF_q {a b : Frac} (ha : fracB a = true) (hb : fracB b = true) (h : (subF a b).2 = 0) : (subF a b).1.q = a.q - b.q := by
  obtain ⟨a1, -⟩ := fracB_iff.1 ha
  obtain ⟨b1, -⟩ := fracB_iff.1 hb
  have hd : 0 < a.d * b.d := Int.mul_pos (by omega) (by omega)
  unfold subF at h ⊢
  rw [if_pos ⟨ha, hb⟩] at h ⊢
  rw [mkF_q hd h]
  exact (Rat.divInt_sub_divInt a.n b.n (by omega) (by omega)).symm
theorem mulF_q {a b : Frac} (ha : fracB a = true) (hb : fracB b = true) (h : (mulF a b).2 = 0) : (mulF a b).1.q = a.q * b.q := by
  obtain ⟨a1, -⟩ := fracB_iff.1 ha
  obtain ⟨b1, -⟩ := fracB_iff.1 hb
  have hd : 0 < a.d * b.d := Int.mul_pos (by omega) (by omega)
  unfold mulF at h ⊢
  rw [if_pos ⟨ha, hb⟩] at h ⊢
  rw [mkF_q hd h]
  exact (Rat.divInt_mul_divInt a.n b.n).symm
theorem onF_q {frm beat at_ : Frac} {s : Int} (h1 : fracB frm = true) (h2 : fracB beat = true) (h3 : fracB at_ = true) (hs : 1 ≤ s ∧ s ≤ 1000) (h : (onF frm beat s at_).2 = 0) : (onF frm beat s at_).1.q = at_.q + (beat.q - frm.q) * s := by
  unfold onF at h ⊢
  split at h
  · rename_i h'; exact absurd h h'
  · rename_i h'
    rw [if_neg h']
    have e1 := subF_q h2 h1 (by omega)
    have f1 := subF_ok (a := beat) (b := frm) (by omega)
    have hw := whole_ok (n := s) (by omega) (by omega)
    split at h
    · rename_i h''; exact absurd h h''
    · rename_i h''
      rw [if_neg h'']
      rw [addF_q h3 (mulF_ok (by omega)) h, mulF_q f1 hw (by omega), e1]
      congr 2
      show Rat.divInt s 1 = s
      rw [Rat.divInt_eq_div]
      simp [Rat.div_def]
      grind
end Go.Proofs.Ytbpaeonfebmomaa

namespace Go.Proofs.Ytbpaeonfebmomaa
open Go.RowKit
set_option linter.unusedVariables false
set_option linter.unusedSimpArgs false
set_option maxRecDepth 100000
attribute [local simp] List.getElem?_cons_zero
attribute [local irreducible] awCond awCall awLoop awDraw ow retQ retC resQ Keeps
section
variable {α : Type} {k : Nat}
theorem put_splice {b : Nat} {M : Mem} {id p : Nat} {vs cs : List Value} {t : Bool} {e : TypeId} {z : Nat} (hr : M[id]? = some (.live ⟨cs, true, t, e, z⟩)) (hb : b ≤ id) (hp : p + vs.length ≤ cs.length) (h1 : vs.all oneV = true) :
    putCells b M id p vs = some (M.set id (.live ⟨splice cs p vs, true, t, e, z⟩)) := by
  unfold putCells
  rw [hr]
  simp only
  rw [if_pos ⟨hb, trivial, hp, h1⟩]
theorem splice_set [Inhabited α] (R : RecV α k) {l : List α} {i : Nat} {a : α} (hi : i < l.length) : splice (cellsL R l) (i * k) (R.row a) = cellsL R (l.set i a) := by
  have h1 : l = l.take i ++ (el l i :: l.drop (i + 1)) := by
    conv => lhs; rw [← List.take_append_drop i l, drop_el hi]
  have hl : (cellsL R (l.take i)).length = i * k := by rw [cellsL_len, List.length_take, Nat.min_eq_left (by omega)]
  have h2 : cellsL R l = cellsL R (l.take i) ++ (R.row (el l i) ++ cellsL R (l.drop (i + 1))) := by
    conv => lhs; rw [h1]
    rw [cellsL_append, cellsL_cons]
  rw [h2, ← hl, splice_app _ _ _ (by rw [List.length_append, R.len, R.len]; omega), R.len, List.drop_append_of_le_length (by rw [R.len]; omega), List.drop_of_length_le (by rw [R.len]; omega), List.nil_append]
  have h3 : l.set i a = l.take i ++ (a :: l.drop (i + 1)) := List.set_eq_take_append_cons_drop .. |>.trans (by rw [if_pos hi])
  rw [h3, cellsL_append, cellsL_cons]
theorem put_rec [Inhabited α] {R : RecV α k} {b : Nat} {M : Mem} {id i off : Nat} {l : List α} {a : α} {t : Bool} {e : TypeId} (hr : M[id]? = some (.live ⟨cellsL R l, true, t, e, k⟩)) (hb : b ≤ id) (hi : i < l.length) (ho : off = i * k) (h1 : (R.row a).all oneV = true) :
    putCells b M id off (R.row a) = some (M.set id (.live ⟨cellsL R (l.set i a), true, t, e, k⟩)) := by
  subst ho
  rw [put_splice hr hb (by rw [R.len, cellsL_len]; have := Nat.mul_le_mul_right k (show i + 1 ≤ l.length from hi); rw [Nat.add_mul, Nat.one_mul] at this; exact this) h1, splice_set R hi]
end
/-- The list lies in a row of its own. -/
theorem Acc.put {α : Type} {k : Nat} [Inhabited α] {R : RecV α k} {e : TypeId} {B b : Nat} {M : Mem} {A : Option Addr} {n c : Nat} {l : List α} (h : Acc R e B M (.slice A n c) l) (hb : b ≤ B) (h0 : 0 < l.length) :
    ∃ id, A = some ⟨id, 0, none⟩ ∧ B ≤ id ∧ rowEsz M id = some k ∧ (∀ (i j : Nat) x, i < l.length → (R.row (el l i))[j]? = some x → cellAt M id (i * k + j) = some x) ∧
      ∀ (i : Nat) (a : α), i < l.length → (R.row a).all oneV = true → ∃ M', putCells b M id (i * k) (R.row a) = some M' ∧ Acc R e B M' (.slice A n c) (l.set i a) ∧ M'.length = M.length ∧ ∀ (q : Nat) s, q ≠ id → M[q]? = some s → M'[q]? = some s := by
  obtain ⟨A', n', c', he, hl, hA⟩ := h
  injection he with h1 h2 h3
  subst h1; subst h2; subst h3
  rcases hA with ⟨rfl, h1, rfl⟩ | ⟨id, t, rfl, hid, hr⟩
  · omega
  refine ⟨id, rfl, hid, by simp [rowEsz, hr], fun i j x hi hx => ?_, fun i a hi h1 => ⟨_, put_rec hr (by omega) hi rfl h1, ⟨_, _, _, rfl, by simp [hl], .inr ⟨id, t, rfl, hid, List.getElem?_set_self (List.getElem?_eq_some_iff.1 hr).1⟩⟩, by simp, fun q s hq hs => by rw [List.getElem?_set_ne (Ne.symm hq)]; exact hs⟩⟩
  have hj : j < k := by have := (List.getElem?_eq_some_iff.1 hx).1; rwa [R.len] at this
  simp only [cellAt, hr]
  show (cellsL R l)[i * k + j]? = some x
  rw [cellsL_get R hi hj]
  exact hx
end Go.Proofs.Ytbpaeonfebmomaa

namespace Go.Proofs.Ytbpaeonfebmomaa
open Go.RowKit
set_option linter.unusedVariables false
set_option linter.unusedSimpArgs false
set_option maxRecDepth 100000
attribute [local simp] List.getElem?_cons_zero
attribute [local irreducible] awCond awCall awLoop awDraw ow retQ retC resQ Keeps
theorem cmpF_neg (a b : Frac) : cmpF b a = -cmpF a b := by
  unfold cmpF
  repeat' split
  all_goals omega
theorem note_den {n : Note} (h : noteB n = true) : 1 ≤ n.at_.d := (fracB_iff.1 (beatB_iff.1 (noteB_iff.1 h).1).1).1.1
theorem ordN_le {a b : Note} (ha : noteB a = true) (hb : noteB b = true) : ordN a b ≤ 0 ↔ a.at_.q < b.at_.q ∨ (a.at_.q = b.at_.q ∧ (a.o < b.o ∨ (a.o = b.o ∧ a.k ≤ b.k))) := by
  have h1 := cmpF_q (note_den ha) (note_den hb)
  have h2 := cmpF_q (note_den hb) (note_den ha)
  rw [cmpF_neg] at h2
  unfold ordN
  by_cases hz : cmpF a.at_ b.at_ = 0
  · have e : a.at_.q = b.at_.q := Rat.le_antisymm (h1.1 (by omega)) (h2.1 (by omega))
    rw [if_neg (by omega)]
    have : ¬ a.at_.q < b.at_.q := by rw [e]; exact Rat.lt_irrefl
    split <;> constructor <;> intro h
    · exact .inr ⟨e, by omega⟩
    · rcases h with h | ⟨-, h⟩
      · exact absurd h this
      · omega
    · exact .inr ⟨e, by omega⟩
    · rcases h with h | ⟨-, h⟩
      · exact absurd h this
      · omega
  · rw [if_pos hz]
    constructor
    · intro h
      left
      have : ¬ b.at_.q ≤ a.at_.q := fun hh => by have := h2.2 hh; omega
      exact Rat.not_le.1 this
    · rintro (h | ⟨e, -⟩)
      · exact h1.2 (Rat.le_of_lt h)
      · have e1 := h1.2 (by rw [e]; exact Rat.le_refl)
        have e2 := h2.2 (by rw [e]; exact Rat.le_refl)
        omega
theorem ordN_neg (a b : Note) : ordN b a = -ordN a b := by
  have := cmpF_neg a.at_ b.at_
  unfold ordN
  repeat' split
  all_goals omega
theorem ordN_trans {a b c : Note} (ha : noteB a = true) (hb : noteB b = true) (hc : noteB c = true) (h1 : ordN a b ≤ 0) (h2 : ordN b c ≤ 0) : ordN a c ≤ 0 := by
  rw [ordN_le ha hb] at h1
  rw [ordN_le hb hc] at h2
  rw [ordN_le ha hc]
  generalize a.at_.q = x at *
  generalize b.at_.q = y at *
  generalize c.at_.q = z at *
  rcases h1 with h1 | ⟨rfl, h1⟩ <;> rcases h2 with h2 | ⟨rfl, h2⟩
  · left; grind
  · exact .inl h1
  · exact .inl h2
  · exact .inr ⟨rfl, by omega⟩
/-- In order up to i. -/
def SortTo (l : List Note) (i : Nat) : Prop := ∀ a b, a < b → b < i → ordN (el l a) (el l b) ≤ 0
/-- In order up to i, but for the one at k, which may be too far behind. -/
def SortIn (l : List Note) (i k : Nat) : Prop := ∀ a b, a < b → b ≤ i → b ≠ k → ordN (el l a) (el l b) ≤ 0
theorem SortTo.in_ {l : List Note} {i : Nat} (h : SortTo l i) : SortIn l i i := fun a b h1 h2 h3 => h a b h1 (by omega)
theorem elSet_ne {α : Type} [Inhabited α] {l : List α} {j q : Nat} {x : α} (h : j ≠ q) : el (l.set j x) q = el l q := by simp [el, List.getElem?_set_ne h]
theorem elSet_eq {α : Type} [Inhabited α] {l : List α} {j : Nat} {x : α} (h : j < l.length) : el (l.set j x) j = x := by simp [el, h]
def swapL {α : Type} [Inhabited α] (l : List α) (i j : Nat) : List α := (l.set i (el l j)).set j (el l i)
theorem SortIn.step {l : List Note} {i k : Nat} (h : SortIn l i (k + 1)) (hk : k + 1 ≤ i) (hi : i < l.length) (ho : ordN (el l (k + 1)) (el l k) < 0) : SortIn (swapL l (k + 1) k) i k := by
  have e1 : el (swapL l (k + 1) k) k = el l (k + 1) := elSet_eq (by simp; omega)
  have e2 : el (swapL l (k + 1) k) (k + 1) = el l k := by rw [swapL, elSet_ne (by omega), elSet_eq (by omega)]
  have e3 : ∀ q, q ≠ k → q ≠ k + 1 → el (swapL l (k + 1) k) q = el l q := fun q h1 h2 => by rw [swapL, elSet_ne (Ne.symm h1), elSet_ne (Ne.symm h2)]
  intro a b hab hb hbk
  by_cases b1 : b = k + 1
  · subst b1
    rw [e2]
    by_cases a1 : a = k
    · subst a1; rw [e1]; omega
    · rw [e3 a a1 (by omega)]; exact h a k (by omega) (by omega) (by omega)
  · rw [e3 b hbk b1]
    by_cases a1 : a = k
    · subst a1; rw [e1]; exact h (a + 1) b (by omega) hb b1
    · by_cases a2 : a = k + 1
      · subst a2; rw [e2]; exact h k b (by omega) hb b1
      · rw [e3 a a1 a2]; exact h a b hab hb b1
theorem SortIn.done {l : List Note} {i k : Nat} (h : SortIn l i k) (hk : k ≤ i) (hi : i < l.length) (hv : ∀ n, n ∈ l → noteB n = true) (ho : 0 < k → ¬ ordN (el l k) (el l (k - 1)) < 0) : SortTo l (i + 1) := by
  intro a b hab hb
  by_cases b1 : b = k
  · subst b1
    have h1 := ho (by omega)
    rw [ordN_neg] at h1
    by_cases a1 : a = b - 1
    · subst a1; omega
    · exact ordN_trans (hv _ (el_mem (by omega))) (hv _ (el_mem (l := l) (i := b - 1) (by omega))) (hv _ (el_mem (by omega))) (h a (b - 1) (by omega) (by omega) (by omega)) (by omega)
  · exact h a b hab (by omega) b1
theorem swapL_perm {α : Type} [Inhabited α] {l : List α} {i j : Nat} (hi : i < l.length) (hj : j < l.length) : (swapL l i j).Perm l := by
  unfold swapL
  rw [← el_eq hi, ← el_eq hj]
  exact List.set_set_perm hi hj
end Go.Proofs.Ytbpaeonfebmomaa

namespace Go.Proofs.Ytbpaeonfebmomaa
open Go.RowKit
set_option linter.unusedVariables false
set_option linter.unusedSimpArgs false
set_option maxRecDepth 100000
attribute [local simp] List.getElem?_cons_zero
attribute [local irreducible] awCond awCall awLoop awDraw ow retQ retC resQ Keeps
theorem put_box {b : Nat} {M : Mem} {vs cs : List Value} {t : Bool} {e : TypeId} {z : Nat} (hb : b ≤ M.length) (hl : vs.length = cs.length) (h1 : vs.all oneV = true) :
    putCells b (M ++ [.live ⟨cs, true, t, e, z⟩]) M.length 0 vs = some (M ++ [.live ⟨vs, true, t, e, z⟩]) := by
  rw [put_whole getElem?_snoc_eq hb hl h1]
  simp
theorem cells_hr {M : Mem} {id n : Nat} {r : Row} (h : M[id]? = some (.live r)) (hn : n = r.cells.length) : cellsAt M id 0 n = some r.cells := by
  subst hn
  simp [cellsAt, h]
end Go.Proofs.Ytbpaeonfebmomaa

namespace Go.Proofs.Ytbpaeonfebmomaa
open Go.RowKit
set_option linter.unusedVariables false
set_option linter.unusedSimpArgs false
set_option maxRecDepth 100000
attribute [local simp] List.getElem?_cons_zero
attribute [local irreducible] awCond awCall awLoop awDraw ow retQ retC resQ Keeps
theorem note_one (l : List Note) : (cellsL noteR l).all (fun u => u.oneCell') = true := by
  induction l with
  | nil => rfl
  | cons a l ih => rw [cellsL_cons, List.all_append, ih]; rfl
theorem nil_src {P : Program} {M : Mem} {k : Nat} {tx e : TypeId} {c : Nat} {A : Option Addr} (h : P.underlying tx = some (.slice e)) (hc : A = none → c = 0) : srcOf P M k tx (.slice A 0 c) = some (0, []) := by
  cases A
  · simp [srcOf, h, hc rfl]
  · simp [srcOf, h]
theorem note_src {M : Mem} {A : Option Addr} {n c : Nat} {l : List Note} (h : Sl noteR M A n l) (hc : A = none → c = 0) : srcOf Try.prog M 7 24 (.slice A n c) = some (l.length, cellsL noteR l) := by
  have hl := h.1
  rcases A with _ | ad
  · have h0 : n = 0 := by
      rcases Nat.eq_zero_or_pos n with e | e
      · exact e
      · obtain ⟨_, _, e', _⟩ := h.2 e
        cases e'
    subst h0
    rw [nil_src Try.underlying24 hc, List.eq_nil_of_length_eq_zero hl]
    rfl
  · exact h.src (by omega) ⟨_, Try.underlying24⟩
def InnS (B : Nat) (n i : Nat) (l : List Note) (v : Value) (M0 M : Mem) (l' : List Note) (k : Nat) : Prop :=
  Acc noteR 53 B M v l' ∧ l'.Perm l ∧ SortIn l' i k ∧ k ≤ i ∧ Keeps M0 M
set_option maxHeartbeats 2000000 in
theorem l18Sort_a {M : Mem} {A : Option Addr} {n c : Nat} {l : List Note} (h : Sl noteR M A n l) (hn : n ≤ 100000) (hc : A = none → c = 0) (hv : ∀ x, x ∈ l → noteB x = true) :
    Ctr Try.prog M.length 53 [.slice A n c] M fun r M' => ∃ l', Acc noteR 53 M.length M' r l' ∧ l'.Perm l ∧ SortTo l' l'.length ∧ Keeps M M' := by
  have hl := h.1
  first | (refine ctr_fn Try.func53 rfl Try.ntmps53 Try.results53 rfl rfl (by simp) ?_) | (refine ctr_fnC Try.func53 rfl Try.ntmps53 Try.results53 rfl (by simp) ?_)
  simp
  have hA0 : Acc noteR 53 M.length (M ++ [Slot.live ⟨[], true, true, 53, 7⟩]) (.slice (some ⟨M.length, 0, none⟩) 0 0) [] := ⟨_, 0, 0, rfl, rfl, .inr ⟨M.length, true, rfl, Nat.le_refl _, by simp [cellsL]⟩⟩
  refine hA0.extend (ls := l) (by_ := 56) (Nat.le_refl _) (by simp) (by simp) (by kernel_rfl) (note_src (h.app _) hc) (note_one _) (by simp; omega) (by unfold maxLen; simp; omega) ?_
  intro v M1 hA hS
  have k1 : Keeps M M1 := hS.keeps (keeps_app _) (Nat.le_refl _)
  simp only [List.nil_append] at hA
  have hl1 := k1.len
  try simp
  refine awLoop_T (fun m T M' => ∃ (l' : List Note) (i : Nat), (i + m = n ∨ (m = 0 ∧ n ≤ i)) ∧ Acc noteR 53 M.length M' v l' ∧ l'.Perm l ∧ SortTo l' i ∧ Keeps M M' ∧ look T 4 = some (iv i) ∧ look T 3 = some v) (n - 1)
    ⟨l, 1, by omega, hA, .refl _, fun a b h1 h2 => by omega, k1, by simp, by simp⟩ ?_
  rintro m T M2 ⟨l', i, hm, hA2, hp, hs, k2, t4, t3⟩
  have hpl := hp.length_eq
  obtain ⟨A2, n2, c2, rfl, hq, hsl, -⟩ := hA2.sl
  by_cases hlt : i < n
  · have e1 : (i : Int) < n2 := by omega
    simp (disch := omega) [t4, t3, e1]
    refine awLoop_T (fun m T M' => ∃ (l2 : List Note), Acc noteR 53 M.length M' (.slice A2 n2 c2) l2 ∧ l2.Perm l ∧ SortIn l2 i m ∧ m ≤ i ∧ Keeps M M' ∧ look T 5 = some (iv m) ∧ look T 4 = some (iv i) ∧ look T 3 = some (.slice A2 n2 c2)) i
      ⟨l', hA2, hp, hs.in_, Nat.le_refl _, k2, by simp, by simp [t4], by simp [t3]⟩ ?_
    rintro k T M3 ⟨l2, hA3, hp3, hs3, hki, k3, t5, t4, t3⟩
    have hpl3 := hp3.length_eq
    have hv3 : ∀ x, x ∈ l2 → noteB x = true := fun x hx => hv x (hp3.mem_iff.1 hx)
    have hl3 := k3.len
    rcases k with _ | k
    · simp (disch := omega) [t5]
      refine awDraw_E 10 [[],[0],[1,0],[2,1,0],[2,1,0],[3,2,1,0,4],[2,1,0],[2,1,0],[7,2,1,0],[6,2,1,0,8,7],[5,3,2,1,0,4,9,6,8,7],[10,5,3,2,1,0,4,9,6,8,7],[2,1,0,11,10,5,3,4,9,6,8,7]] (by kernel_rfl) (by kernel_rfl) ?_
      simp (disch := omega) [t5, t4, t3, wrap_in]
      exact lpI (m - 1) (by omega) ⟨l2, i + 1, by omega, hA3, hp3, hs3.done hki (by omega) hv3 (fun h => by omega), k3, by simp, by simp [t3]⟩
    · obtain ⟨id, rfl, hid, he, hcl, hput⟩ := hA3.put (b := M.length) (Nat.le_refl _) (by omega)
      have hc1 : Cl M3 id ((k + 1) * 7) (el l2 (k + 1)).row := fun j x hx => hcl (k + 1) j x (by omega) hx
      have hc0 : Cl M3 id (k * 7) (el l2 k).row := fun j x hx => hcl k j x (by omega) hx
      simp (disch := omega) [t5]
      refine awDraw_E 10 [[],[0],[1,0],[2,1,0],[2,1,0],[3,2,1,0,4],[2,1,0],[2,1,0],[7,2,1,0],[6,2,1,0,8,7],[5,3,2,1,0,4,9,6,8,7],[10,5,3,2,1,0,4,9,6,8,7],[2,1,0,11,10,5,3,4,9,6,8,7]] (by kernel_rfl) (by kernel_rfl) ?_
      have ek : (k : Int) + 1 < n2 := by omega
      have ek0 : (k : Int) < n2 := by omega
      simp (disch := omega) [t5, t4, t3, wrap_in, ek, ek0, he]
      refine ⟨by omega, awCall_det' (l18Order_a hc1 hc0 (hv3 _ (el_mem (by omega))) (hv3 _ (el_mem (by omega)))) hl3 ?_⟩
      by_cases ho : ordN (el l2 (k + 1)) (el l2 k) < 0
      · simp (disch := omega) [ho, t5, t4, t3, wrap_in, ek, ek0, he]
        refine ⟨by omega, ?_⟩
        rw [cellsAt_of (n := 7) hc1 rfl (by omega), ow_some]
        refine ⟨rfl, ?_⟩
        rw [put_box (b := M.length) (cs := [iv 0, iv 0, iv 0, iv 0, iv 0, iv 0, iv 0]) (vs := (Value.agg (el l2 (k + 1)).row.toArray).cells.toList) (by omega) rfl (by simp [Note.row]), ow_some, cellsAt_app (cellsAt_of (n := 7) hc0 rfl (by omega)), ow_some]
        refine ⟨by omega, rfl, ?_⟩
        obtain ⟨M4, hM4⟩ : ∃ M' : Mem, M' = M3 ++ [Slot.live ⟨(Value.agg (el l2 (k + 1)).row.toArray).cells.toList, true, true, 53, 7⟩] := ⟨_, rfl⟩
        have hA4 : Acc noteR 53 M.length M4 (.slice (some ⟨id, 0, none⟩) n2 c2) l2 := by rw [hM4]; exact hA3.keeps (keeps_app _)
        have r4 : M4[M3.length]? = some (Slot.live ⟨(el l2 (k + 1)).row, true, true, 53, 7⟩) := by rw [hM4]; exact getElem?_snoc_eq
        have k4 : Keeps M M4 := by rw [hM4]; exact k3.app _
        have hidl : id < M3.length := by
          unfold rowEsz at he
          cases hm : M3[id]? with
          | none => rw [hm] at he; cases he
          | some s => exact (List.getElem?_eq_some_iff.1 hm).1
        rw [← hM4]
        clear hM4
        obtain ⟨id', hh, -, -, -, hput⟩ := hA4.put (b := M.length) (Nat.le_refl _) (by omega)
        injection hh with hh
        injection hh with hh
        subst hh
        obtain ⟨M5, p5, hA5, n5, u5⟩ := hput (k + 1) (el l2 k) (by omega) (by simp [noteR, Note.row])
        have r5 := u5 _ _ (show M3.length ≠ id by omega) r4
        have k5 : Keeps M M5 := by
          unfold Keeps
          exact fun i s hs => u5 i s (by have := (List.getElem?_eq_some_iff.1 hs).1; omega) (k4.get hs)
        obtain ⟨id', hh, -, -, -, hput⟩ := hA5.put (b := M.length) (Nat.le_refl _) (by simp; omega)
        injection hh with hh
        injection hh with hh
        subst hh
        obtain ⟨M6, p6, hA6, n6, u6⟩ := hput k (el l2 (k + 1)) (by simp; omega) (by simp [noteR, Note.row])
        have k6 : Keeps M M6 := by
          unfold Keeps
          exact fun i s hs => u6 i s (by have := (List.getElem?_eq_some_iff.1 hs).1; omega) (k5.get hs)
        rw [show putCells M.length M4 id ((k + 1) * 7) (Value.agg (el l2 k).row.toArray).cells.toList = some M5 from p5, ow_some, cells_hr (n := 7) r5 rfl, ow_some]
        refine ⟨rfl, ?_⟩
        rw [show putCells M.length M5 id (k * 7) (Value.agg (el l2 (k + 1)).row.toArray).cells.toList = some M6 from p6, ow_some]
        exact lpI k (by omega) ⟨swapL l2 (k + 1) k, hA6, (swapL_perm (by omega) (by omega)).trans hp3, hs3.step hki (by omega) ho, by omega, k6, by simp, by simp [t4], by simp [t3]⟩
      · simp (disch := omega) [ho, t5, t4, t3, wrap_in]
        exact lpI (m - 1) (by omega) ⟨l2, i + 1, by omega, hA3, hp3, hs3.done hki (by omega) hv3 (fun h => ho), k3, by simp, by simp [t3]⟩
  · have e1 : ¬ (i : Int) < n2 := by omega
    simp (disch := omega) [t4, t3, e1]
    exact ⟨l', hA2, hp, fun a b h1 h2 => hs a b h1 (by omega), k2⟩
end Go.Proofs.Ytbpaeonfebmomaa
