/- Parts of the proof, together: The division of a score, in both packages. Tempo: records in memory, and the laws' helpers on them. TempoMap: a struct that holds a slice of records. Tempo maps, in plain words: positions of beats. Tempo maps: the reference's functions. No conditions. -/
import Derived.Test.YtgaiejaegimilaaZzGa9
import Derived.Test.YtgaiejaegimilaaZzGa8
import Derived.Test.YtgaiejaegimilaaZzGa7
import Derived.Laws.StructEq
namespace Go.Proofs.Ytgaiejaegimilaa
open Go.RowKit
set_option linter.unusedVariables false
set_option linter.unusedSimpArgs false
set_option maxRecDepth 100000
attribute [local simp] List.getElem?_cons_zero
attribute [local irreducible] awCond awCall awLoop awDraw ow retQ retC resQ Keeps
theorem addF_ok {a b : Frac} (h : (addF a b).2 = 0) : fracB (addF a b).1 = true := by
  unfold addF at h ⊢
  split at h
  · rename_i hab
    rw [if_pos hab]
    exact mkF_ok h
  · cases h
def Note.fin (n : Note) : Frac := (addF n.at_ n.len).1
theorem note_end {n : Note} (h : noteB n = true) : fracB n.at_ = true ∧ fracB n.fin = true := by
  obtain ⟨h1, -, -, h4, -⟩ := noteB_iff.1 h
  exact ⟨(beatB_iff.1 h1).1, addF_ok h4⟩
theorem end_i {M : Mem} (n : Note) : Det Try.prog M.length 51 [n.v] M n.fin.v M := by
  first | (refine det_fn Try.func51 rfl Try.ntmps51 Try.results51 rfl rfl rfl (by simp) ?_) | (refine det_fnC Try.func51 rfl Try.ntmps51 Try.results51 rfl rfl (by simp) ?_)
  simp
  refine awCall_det' (AddFrac_i n.at_ n.len) (by simp) ?_
  simp [keeps_app, Note.fin]
/-- The least common multiple of denominators, if it is not too great. -/
def divG : Nat → List Note → Option Nat
  | o, [] => some o
  | o, n :: l => if 960 < o.lcm n.ad.natAbs then none else if 960 < (o.lcm n.ad.natAbs).lcm n.fin.d.natAbs then none else divG ((o.lcm n.ad.natAbs).lcm n.fin.d.natAbs) l
def divV (l : List Note) : Int × Int := if scoreB l = true then (match divG 1 l with | some d => ((d : Int), 0) | none => (0, 2)) else (0, 1)
theorem lcm_i (o d : Nat) (hd : 0 < d) : o * qN d (o.gcd d) = o.lcm d := by
  unfold qN Nat.lcm
  rw [← Nat.mul_div_assoc _ (Nat.gcd_dvd_right o d)]
theorem lcm_s (o d : Nat) (hd : 0 < d) : qN o (o.gcd d) * d = o.lcm d := by
  unfold qN Nat.lcm
  rw [Nat.div_mul_right_comm (Nat.gcd_dvd_left o d)]
theorem l20Gcd_a {M : Mem} (x y : Nat) (hx : x < 9223372036854775808) (hy : y < 9223372036854775808) : Det Try.prog M.length 48 [iv x, iv y] M (iv (x.gcd y : Nat)) M := by
  first | (refine det_fn Try.func48 rfl Try.ntmps48 Try.results48 rfl rfl rfl (by simp) ?_) | (refine det_fnC Try.func48 rfl Try.ntmps48 Try.results48 rfl rfl (by simp) ?_)
  simp
  refine awLoop_T (fun m T M' => ∃ a c : Nat, c = m ∧ a < 9223372036854775808 ∧ c < 9223372036854775808 ∧ a.gcd c = x.gcd y ∧ M' = M ∧ look T 0 = some (iv a) ∧ look T 1 = some (iv c)) y ⟨x, y, rfl, hx, hy, rfl, rfl, by simp, by simp⟩ ?_
  rintro m T M' ⟨a, c, rfl, ha, hc, hg, rfl, h0, h1⟩
  by_cases hc0 : c = 0
  · subst hc0
    rw [Nat.gcd_zero_right] at hg
    simp [h0, h1, hg, Keeps.refl]
  · have hc1 : ¬ (c : Int) = 0 := by omega
    simp [h0, h1, hc0, hc1, tmod_nat]
    have hlt := Nat.mod_lt a (show 0 < c by omega)
    refine lpI (a % c) hlt ⟨c, a % c, rfl, hc, by omega, by rw [Nat.gcd_comm c, ← Nat.gcd_rec, Nat.gcd_comm, hg], rfl, by simp, by simp⟩
theorem frac_d {f : Frac} (h : fracB f = true) : ∃ d : Nat, f.d = d ∧ 0 < d ∧ d ≤ 1000000 := by
  obtain ⟨h1, -, -⟩ := fracB_iff.1 h
  exact ⟨f.d.natAbs, by omega, by omega, by omega⟩
set_option maxHeartbeats 2000000 in
theorem DivisionOf_i {M : Mem} {A : Option Addr} {n c : Nat} {l : List Note} (h : Sl noteR M A n l) (hn : n ≤ 1099511627776) : Det Try.prog M.length 13 [.agg #[.slice A n c]] M (.tuple #[iv (divV l).1, iv (divV l).2]) M := by
  have hl := h.1
  first | (refine det_fn Try.func13 rfl Try.ntmps13 Try.results13 rfl rfl rfl (by simp) ?_) | (refine det_fnC Try.func13 rfl Try.ntmps13 Try.results13 rfl rfl (by simp) ?_)
  simp
  refine awCall_det' (isScore_i (h.app _) hn) (by simp) ?_
  by_cases hs : scoreB l = true
  · have ha : l.all noteB = true := by simp [scoreB] at hs; simpa using hs.1.2
    simp [hs]
    refine awLoop_T (fun m T M' => ∃ k o : Nat, k + m = n ∧ Keeps M M' ∧ 0 < o ∧ o ≤ 960 ∧ divG 1 l = divG o (l.drop k) ∧ look T 15 = some (iv k) ∧ look T 14 = some (iv n) ∧ look T 13 = some (.slice A n c) ∧ look T 4 = some (iv o)) n ⟨0, 1, by omega, keeps_app _, by omega, by omega, rfl, by simp, by simp, by simp, by simp⟩ ?_
    rintro m T M1 ⟨k, o, hm, hK, ho0, ho, hd, t15, t14, t13, t4⟩
    have hKl := hK.len
    by_cases hlt : k < n
    · obtain ⟨id, off, rfl, he, hc⟩ := (h.keeps hK).at_ hlt
      have hld := note_load hc
      have hnb := all_el ha (i := k) (by omega)
      obtain ⟨f1, f2⟩ := note_end hnb
      simp (disch := omega) [t15, t14, t13, hlt, he, hld]
      refine awDraw_D 7 [[],[0],[],[2],[1,0,3,2],[4,1,0,3,2],[]] (by kernel_rfl) (by decide +kernel) ?_
      have hM1 : M1.length ≤ M1.length := Nat.le_refl _
      simp (disch := omega) [t15, t14, t13, hlt, he, hld]
      refine awCall_det' (end_i (el l k)) (by simp) ?_
      simp (disch := omega) [t15, t14, t13, hlt, he, hld, fr_two]
      obtain ⟨d1, e1, p1, q1⟩ := frac_d f1
      obtain ⟨d2, e2, p2, q2⟩ := frac_d f2
      have hsl : Sl fracR (M1 ++ [.live ⟨[iv (el l k).an, iv (el l k).ad, iv (el l k).ln, iv (el l k).ld, iv (el l k).k, iv (el l k).u, iv (el l k).o], true, true, 62, 7⟩, .live ⟨[iv (el l k).an, iv (el l k).ad, iv (el l k).fin.n, iv (el l k).fin.d], true, true, 58, 2⟩]) (some ⟨M1.length + 1, 0, none⟩) 2 [(el l k).at_, (el l k).fin] :=
        ⟨rfl, fun _ => ⟨M1.length + 1, 0, rfl, by simp [rowEsz], fun j x hx => by
          have hx' : [iv (el l k).an, iv (el l k).ad, iv (el l k).fin.n, iv (el l k).fin.d][j]? = some x := hx
          simp [cellAt, hx']⟩⟩
      obtain ⟨M2, hM2⟩ : ∃ M2 : Mem, M2 = M1 ++ [.live ⟨[iv (el l k).an, iv (el l k).ad, iv (el l k).ln, iv (el l k).ld, iv (el l k).k, iv (el l k).u, iv (el l k).o], true, true, 62, 7⟩, .live ⟨[iv (el l k).an, iv (el l k).ad, iv (el l k).fin.n, iv (el l k).fin.d], true, true, 58, 2⟩] := ⟨_, rfl⟩
      rw [← hM2] at hsl ⊢
      have hK2 : Keeps M M2 := by rw [hM2]; exact hK.app _
      clear hM2
      have hdiv : ∀ o1 o2 : Nat, o1 = o.lcm d1 → o1 ≤ 960 → o2 = o1.lcm d2 → o2 ≤ 960 → divG o (l.drop k) = divG o2 (l.drop (k + 1)) := by
        intro o1 o2 h1 h1' h2 h2'
        rw [drop_el (by omega), divG, show (el l k).ad.natAbs = d1 by have : (el l k).ad = d1 := e1; omega, show (el l k).fin.d.natAbs = d2 by omega, ← h1, if_neg (by omega), ← h2, if_neg (by omega)]
      have hbad1 : 960 < o.lcm d1 → divG o (l.drop k) = none := by
        intro h1
        rw [drop_el (by omega), divG, show (el l k).ad.natAbs = d1 by have : (el l k).ad = d1 := e1; omega, if_pos h1]
      have hbad2 : o.lcm d1 ≤ 960 → 960 < (o.lcm d1).lcm d2 → divG o (l.drop k) = none := by
        intro h1 h2
        rw [drop_el (by omega), divG, show (el l k).ad.natAbs = d1 by have : (el l k).ad = d1 := e1; omega, show (el l k).fin.d.natAbs = d2 by omega, if_neg (by omega), if_pos h2]
      refine awLoop_T (fun m' T M' => ∃ j o' : Nat, j + m' = 2 ∧ Keeps M2 M' ∧ 0 < o' ∧ o' ≤ 960 ∧ (j = 0 → o' = o) ∧ (j = 1 → o' = o.lcm d1) ∧ (j = 2 → o.lcm d1 ≤ 960 ∧ o' = (o.lcm d1).lcm d2) ∧ look T 25 = some (iv j) ∧ look T 24 = some (iv 2) ∧ look T 23 = some (.slice (some ⟨M1.length + 1, 0, none⟩) 2 2) ∧ look T 4 = some (iv o') ∧ look T 15 = some (iv k) ∧ look T 14 = some (iv n) ∧ look T 13 = some (.slice (some ⟨id, off, none⟩) n c)) 2
        ⟨0, o, by omega, Keeps.refl _, ho0, ho, fun _ => rfl, fun h => by omega, fun h => by omega, by simp, by simp, by simp, by simp [t4], by simp [t15], by simp [t14], by simp [t13]⟩ ?_
      clear t15 t14 t13 t4 T
      rintro m' T M3 ⟨j, o', hj, hK3, ho0', ho', j0, j1, j2, t25, t24, t23, t4, t15, t14, t13⟩
      have hK3l := hK3.len
      have hK2l := hK2.len
      by_cases hj2 : j < 2
      · obtain ⟨id2, off2, ee, he2, hc2⟩ := (hsl.keeps hK3).at_ hj2
        have hld2 := frac_load hc2
        cases ee
        simp only [Nat.zero_add] at hld2
        -- the denominator of this turn
        obtain ⟨dj, ej, pj, qj, hdj⟩ : ∃ dj : Nat, (el [(el l k).at_, (el l k).fin] j).d = dj ∧ 0 < dj ∧ dj ≤ 1000000 ∧ ((j = 0 ∧ dj = d1) ∨ (j = 1 ∧ dj = d2)) := by
          rcases j with _ | _ | j
          · exact ⟨d1, e1, p1, q1, .inl ⟨rfl, rfl⟩⟩
          · exact ⟨d2, e2, p2, q2, .inr ⟨rfl, rfl⟩⟩
          · omega
        generalize el [(el l k).at_, (el l k).fin] j = f at hld2 ej
        have u1 : IntKind.u64.wrap (o' : Int) = o' := u64_in (by omega) (by omega)
        have u2 : IntKind.u64.wrap (dj : Int) = dj := u64_in (by omega) (by omega)
        have hg := Nat.gcd_pos_of_pos_right o' pj
        have hgl : o'.gcd dj ≤ dj := Nat.gcd_le_right _ pj
        have hg0 : ¬ ((o'.gcd dj : Nat) : Int) = 0 := by omega
        have hg00 : ¬ o'.gcd dj = 0 := by omega
        have hlcm := lcm_i o' dj pj
        have hq := qN_le dj (o'.gcd dj)
        have hlb : o' * qN dj (o'.gcd dj) ≤ 960 * 1000000 := Nat.mul_le_mul ho' (by omega)
        have hj2' : (j : Int) < 2 := by omega
        simp (disch := omega) [t25, t24, t23, hj2, hj2', he2, hld2]
        refine awDraw_E 11 [[],[],[1],[],[3],[],[5],[6,5],[4,3,7,6,5],[8,4,3,7,6,5],[2,1,9,8,4,3,7,6,5],[0,10,2,1,9,8,4,3,7,6,5],[11,0,10,2,1,9,8,4,3,7,6,5]] (by kernel_rfl) (by kernel_rfl) ?_
        simp (disch := omega) [t4, ej, u1, u2]
        refine awCall_det' (gcd_i o' dj (by omega) (by omega)) (by simp <;> omega) ?_
        simp (disch := omega) [t4, ej, wrap_in, hg0, hg00, tdiv_q, div_q]
        have eL : (o' : Int) * (qN dj (o'.gcd dj) : Nat) = ((o'.lcm dj : Nat) : Int) := by rw [← hlcm]; simp
        rw [hlcm] at hlb
        have hLp : 0 < o'.lcm dj := Nat.lcm_pos ho0' pj
        rw [eL]
        generalize hL : o'.lcm dj = L at hlb hLp ⊢
        by_cases hbig : 960 < L
        · have hnone : divG 1 l = none := by
            rw [hd]
            rcases hdj with ⟨rfl, rfl⟩ | ⟨rfl, rfl⟩
            · have := j0 rfl
              subst this
              exact hbad1 (by omega)
            · have := j1 rfl
              subst this
              exact hbad2 (by omega) (by omega)
          have hbig' : (960 : Int) < L := by omega
          simp [hbig, hbig', divV, hs, hnone]
          exact hK2.trans (hK3.app _)
        · have hbig' : ¬ (960 : Int) < L := by omega
          simp (disch := omega) [hbig, hbig', t25, wrap_in]
          refine lpI (m' - 1) (by omega) ⟨j + 1, L, by omega, hK3.app _, hLp, by omega, fun h => by omega, fun h => ?_, fun h => ?_, by simp, by simp [t24], by simp [t23], by simp, by simp [t15], by simp [t14], by simp [t13]⟩
          · rcases hdj with ⟨rfl, rfl⟩ | ⟨rfl, rfl⟩
            · rw [← j0 rfl, hL]
            · omega
          · rcases hdj with ⟨rfl, rfl⟩ | ⟨rfl, rfl⟩
            · omega
            · rw [← j1 rfl, hL]
              exact ⟨ho', rfl⟩
      · obtain rfl : j = 2 := by omega
        obtain ⟨j2a, j2b⟩ := j2 rfl
        simp (disch := omega) [t25, t24, t15, wrap_in]
        refine lpI (m - 1) (by omega) ⟨k + 1, o', by omega, hK2.trans hK3, ho0', ho', by rw [hd]; exact hdiv _ _ rfl j2a j2b ho', by simp, by simp [t14], by simp [t13], by simp [t4]⟩
    · obtain rfl : k = n := by omega
      rw [List.drop_of_length_le (by omega)] at hd
      simp [t15, t14, t4, divV, hs, hd, divG, hK]
  · simp [hs, divV, keeps_app]
theorem fill2 (a b : Int) : Instr.fill (fun i => some (i, 1)) (zrow [iv 0] 2).toArray [(0, iv a), (1, iv b)] = some #[iv a, iv b] := by rfl
set_option maxHeartbeats 2000000 in
theorem DivisionOf_s {M : Mem} {A : Option Addr} {n c : Nat} {l : List Note} (h : Sl noteR M A n l) (hn : n ≤ 1099511627776) : Det Try.prog M.length 11 [.agg #[.slice A n c]] M (.tuple #[iv (divV l).1, iv (divV l).2]) M := by
  have hl := h.1
  first | (refine det_fn Try.func11 rfl Try.ntmps11 Try.results11 rfl rfl rfl (by simp) ?_) | (refine det_fnC Try.func11 rfl Try.ntmps11 Try.results11 rfl rfl (by simp) ?_)
  simp
  refine awCall_det' (l18Ok_a (c := c) (h.app _) (by simp) hn) (by simp) ?_
  by_cases hs : scoreB l = true
  · have ha : l.all noteB = true := by simp [scoreB] at hs; simpa using hs.1.2
    simp [hs]
    refine awLoop_T (fun m T M' => ∃ k o : Nat, k + m = n ∧ Keeps M M' ∧ cellAt M' M.length 0 = some (.slice A n c) ∧ 0 < o ∧ o ≤ 960 ∧ divG 1 l = divG o (l.drop k) ∧ look T 5 = some (iv k) ∧ look T 1 = some (.pointer (some ⟨M.length, 0, none⟩)) ∧ look T 4 = some (iv o)) n ⟨0, 1, by omega, keeps_app _, by simp, by omega, by omega, rfl, by simp, by simp, by simp⟩ ?_
    rintro m T M1 ⟨k, o, hm, hK, hr, ho0, ho, hd, t5, t1, t4⟩
    have hKl := hK.len
    by_cases hlt : k < n
    · obtain ⟨id, off, rfl, he, hc⟩ := (h.keeps hK).at_ hlt
      obtain ⟨c0, c1, c2, c3, c4, c5, c6⟩ := note_cells hc
      obtain ⟨g0, g2⟩ := note_cellsN hc
      have hnb := all_el ha (i := k) (by omega)
      obtain ⟨f1, f2⟩ := note_end hnb
      obtain ⟨d1, e1, p1, q1⟩ := frac_d f1
      obtain ⟨d2, e2, p2, q2⟩ := frac_d f2
      have e1' : (el l k).ad = d1 := e1
      simp (disch := omega) [t5, t1, hlt, hr]
      refine awDraw_M 17 [[],[0],[],[1,0,2],[3,1,0,2],[4,3,1,0,2],[],[6],[],[7,6,8],[9,7,6,8],[10,9,7,6,8],[5,4,3,1,0,2,11,10,9,7,6,8],[12,5,4,3,1,0,2,11,10,9,7,6,8],[13,12,5,4,3,1,0,2,11,10,9,7,6,8],[13,12,5,4,3,1,0,2,11,10,9,7,6,8],[],[16,14,13,12,5,4,3,1,0,2,11,10,9,7,6,8],[15,13,12,5,4,3,1,0,2,11,10,9,7,6,8,17,16,14]] [15] (by kernel_rfl) (by decide +kernel) (by decide +kernel) ?_
      simp (disch := omega) [t5, t1, hlt, hr, he, g0, g2]
      refine awCall_det' (AddFrac_s (el l k).at_ (el l k).len) (by simp) ?_
      have hfin : (addF (el l k).at_ (el l k).len).1 = (el l k).fin := rfl
      rw [hfin]
      simp (disch := omega) [t5, t1, hlt, hr, he]
      refine awDraw_E 9 [[],[0],[],[1,0,2],[3,1,0,2],[4,3,1,0,2],[5,4,3,1,0,2],[],[7],[6,5,4,3,1,0,2,8,7],[9,6,5,4,3,1,0,2,8,7]] (by kernel_rfl) (by kernel_rfl) ?_
      have hr' := fun L => cellAt_app hr L
      have c1' := fun L => cellAt_app c1 L
      have he' : ∀ L : Mem, rowEsz (M1 ++ L) id = some 7 := fun L => rowEsz_keeps (keeps_app L) he
      simp (disch := omega) [t5, t1, hlt, hr', he', c1', fill2]
      have hsl : Sl intR (M1 ++ [.live ⟨[iv (el l k).fin.n, iv (el l k).fin.d], true, true, 58, 2⟩, .live ⟨[iv (el l k).ad, iv (el l k).fin.d], true, true, 2, 1⟩]) (some ⟨M1.length + 1, 0, none⟩) 2 [(el l k).ad, (el l k).fin.d] :=
        ⟨rfl, fun _ => ⟨M1.length + 1, 0, rfl, by simp [rowEsz], fun j x hx => by
          have hx' : [iv (el l k).ad, iv (el l k).fin.d][j]? = some x := hx
          simp [cellAt, hx']⟩⟩
      obtain ⟨M2, hM2⟩ : ∃ M2 : Mem, M2 = M1 ++ [.live ⟨[iv (el l k).fin.n, iv (el l k).fin.d], true, true, 58, 2⟩, .live ⟨[iv (el l k).ad, iv (el l k).fin.d], true, true, 2, 1⟩] := ⟨_, rfl⟩
      rw [← hM2] at hsl ⊢
      have hK2 : Keeps M M2 := by rw [hM2]; exact hK.app _
      have hr2 : cellAt M2 M.length 0 = some (.slice (some ⟨id, off, none⟩) n c) := by rw [hM2]; exact hr' _
      clear hM2
      have hK2l := hK2.len
      have hdiv : ∀ o1 o2 : Nat, o1 = o.lcm d1 → o1 ≤ 960 → o2 = o1.lcm d2 → o2 ≤ 960 → divG o (l.drop k) = divG o2 (l.drop (k + 1)) := by
        intro o1 o2 h1 h1' h2 h2'
        rw [drop_el (by omega), divG, show (el l k).ad.natAbs = d1 by omega, show (el l k).fin.d.natAbs = d2 by omega, ← h1, if_neg (by omega), ← h2, if_neg (by omega)]
      have hbad1 : 960 < o.lcm d1 → divG o (l.drop k) = none := by
        intro h1
        rw [drop_el (by omega), divG, show (el l k).ad.natAbs = d1 by omega, if_pos h1]
      have hbad2 : o.lcm d1 ≤ 960 → 960 < (o.lcm d1).lcm d2 → divG o (l.drop k) = none := by
        intro h1 h2
        rw [drop_el (by omega), divG, show (el l k).ad.natAbs = d1 by omega, show (el l k).fin.d.natAbs = d2 by omega, if_neg (by omega), if_pos h2]
      refine awLoop_T (fun m' T M' => ∃ j o' : Nat, j + m' = 2 ∧ M' = M2 ∧ 0 < o' ∧ o' ≤ 960 ∧ (j = 0 → o' = o) ∧ (j = 1 → o' = o.lcm d1) ∧ (j = 2 → o.lcm d1 ≤ 960 ∧ o' = (o.lcm d1).lcm d2) ∧ look T 9 = some (iv j) ∧ look T 8 = some (.slice (some ⟨M1.length + 1, 0, none⟩) 2 2) ∧ look T 4 = some (iv o') ∧ look T 5 = some (iv k) ∧ look T 1 = some (.pointer (some ⟨M.length, 0, none⟩))) 2
        ⟨0, o, by omega, rfl, ho0, ho, fun _ => rfl, fun h => by omega, fun h => by omega, by simp, by simp, by simp [t4], by simp [t5], by simp [t1]⟩ ?_
      clear t5 t1 t4 T
      rintro m' T M3 ⟨j, o', hj, rfl, ho0', ho', j0, j1, j2, t9, t8, t4, t5, t1⟩
      by_cases hj2 : j < 2
      · obtain ⟨id2, off2, ee, he2, hc2⟩ := hsl.at_ hj2
        cases ee
        have hx2 : cellAt M3 (M1.length + 1) (0 + j * 1) = some (iv (el [(el l k).ad, (el l k).fin.d] j)) := hc2 0 _ rfl
        simp only [Nat.zero_add, Nat.mul_one] at hx2
        obtain ⟨dj, ej, pj, qj, hdj⟩ : ∃ dj : Nat, el [(el l k).ad, (el l k).fin.d] j = dj ∧ 0 < dj ∧ dj ≤ 1000000 ∧ ((j = 0 ∧ dj = d1) ∨ (j = 1 ∧ dj = d2)) := by
          rcases j with _ | _ | j
          · exact ⟨d1, e1, p1, q1, .inl ⟨rfl, rfl⟩⟩
          · exact ⟨d2, e2, p2, q2, .inr ⟨rfl, rfl⟩⟩
          · omega
        rw [ej] at hx2
        have hg := Nat.gcd_pos_of_pos_right o' pj
        have hg00 : ¬ o'.gcd dj = 0 := by omega
        have hlcm := lcm_s o' dj pj
        have hq := qN_le o' (o'.gcd dj)
        have hlb : qN o' (o'.gcd dj) * dj ≤ 960 * 1000000 := Nat.mul_le_mul (by omega) qj
        have hj2' : (j : Int) < 2 := by omega
        simp (disch := omega) [t9, hj2, hj2']
        refine awDraw_E 12 [[],[],[],[],[2,3],[4,2,3],[1,5,4,2,3],[0,6,1,5,4,2,3],[],[],[8,9],[10,8,9],[7,0,6,1,5,4,2,3,11,10,8,9],[12,7,0,6,1,5,4,2,3,11,10,8,9]] (by kernel_rfl) (by kernel_rfl) ?_
        simp (disch := omega) [t4, t8, t9, hj2, hj2', he2, hx2]
        refine awCall_det' (l20Gcd_a o' dj (by omega) (by omega)) (by simp <;> omega) ?_
        simp (disch := omega) [t4, t8, t9, hj2, hj2', he2, hx2, wrap_in, hg00, tdiv_q, div_q]
        have eL : ((qN o' (o'.gcd dj) : Nat) : Int) * dj = ((o'.lcm dj : Nat) : Int) := by rw [← hlcm]; simp
        rw [hlcm] at hlb
        have hLp : 0 < o'.lcm dj := Nat.lcm_pos ho0' pj
        rw [eL]
        generalize hL : o'.lcm dj = L at hlb hLp ⊢
        by_cases hbig : 960 < L
        · have hnone : divG 1 l = none := by
            rw [hd]
            rcases hdj with ⟨rfl, rfl⟩ | ⟨rfl, rfl⟩
            · have := j0 rfl
              subst this
              exact hbad1 (by omega)
            · have := j1 rfl
              subst this
              exact hbad2 (by omega) (by omega)
          have hbig' : (960 : Int) < L := by omega
          simp [hbig, hbig', divV, hs, hnone]
          exact hK2
        · have hbig' : ¬ (960 : Int) < L := by omega
          simp (disch := omega) [hbig, hbig', t9, wrap_in]
          refine lpI (m' - 1) (by omega) ⟨j + 1, L, by omega, rfl, hLp, by omega, fun h => by omega, fun h => ?_, fun h => ?_, by simp, by simp [t8], by simp, by simp [t5], by simp [t1]⟩
          · rcases hdj with ⟨rfl, rfl⟩ | ⟨rfl, rfl⟩
            · rw [← j0 rfl, hL]
            · omega
          · rcases hdj with ⟨rfl, rfl⟩ | ⟨rfl, rfl⟩
            · omega
            · rw [← j1 rfl, hL]
              exact ⟨ho', rfl⟩
      · obtain rfl : j = 2 := by omega
        obtain ⟨j2a, j2b⟩ := j2 rfl
        simp (disch := omega) [t9, t5, wrap_in]
        refine lpI (m - 1) (by omega) ⟨k + 1, o', by omega, hK2, hr2, ho0', ho', by rw [hd]; exact hdiv _ _ rfl j2a j2b ho', by simp, by simp [t1], by simp [t4]⟩
    · obtain rfl : k = n := by omega
      rw [List.drop_of_length_le (by omega)] at hd
      simp [t5, t1, t4, hr, divV, hs, hd, divG, hK]
  · simp [hs, divV, keeps_app]
theorem DivisionOf_sl {M : Mem} {v : Value} {lo hi : Nat} {l : List Note} (h : RdL noteR lo hi M v l) (hl : l.length ≤ 1048576) : Det Try.prog M.length 11 [.agg #[v]] M (.tuple #[iv (divV l).1, iv (divV l).2]) M := by
  obtain ⟨A, n, c, rfl, hn, hS, _⟩ := h
  exact DivisionOf_s hS (by have := hS.1; omega)
theorem DivisionOf_il {M : Mem} {v : Value} {lo hi : Nat} {l : List Note} (h : RdL noteR lo hi M v l) (hl : l.length ≤ 1048576) : Det Try.prog M.length 13 [.agg #[v]] M (.tuple #[iv (divV l).1, iv (divV l).2]) M := by
  obtain ⟨A, n, c, rfl, hn, hS, _⟩ := h
  exact DivisionOf_i hS (by have := hS.1; omega)
end Go.Proofs.Ytgaiejaegimilaa

namespace Go.Proofs.Ytgaiejaegimilaa
open Go.RowKit
set_option linter.unusedVariables false
set_option linter.unusedSimpArgs false
set_option maxRecDepth 100000
attribute [local simp] List.getElem?_cons_zero
attribute [local irreducible] awCond awCall awLoop awDraw ow retQ retC resQ Keeps
structure Tempo where
  (bn bd s : Int)
deriving Inhabited, DecidableEq
def Tempo.row (c : Tempo) : List Value := [iv c.bn, iv c.bd, iv c.s]
def tempoR : RecV Tempo 3 := ⟨Tempo.row, fun _ => rfl⟩
abbrev Tempo.v (c : Tempo) : Value := .agg #[iv c.bn, iv c.bd, iv c.s]
theorem tempo_cells {M : Mem} {id off : Nat} {g : Tempo} (h : Cl M id off g.row) : cellAt M id off = some (iv g.bn) ∧ cellAt M id (off + 1) = some (iv g.bd) ∧ cellAt M id (off + 2) = some (iv g.s) :=
  ⟨h 0 _ rfl, h 1 _ rfl, h 2 _ rfl⟩
theorem tempo_load {M : Mem} {id off : Nat} {g : Tempo} (h : Cl M id off g.row) : cellsAt M id off 3 = some [iv g.bn, iv g.bd, iv g.s] := cellsAt_of h rfl (by omega)
theorem tempo_eq {a b : Tempo} : a = b ↔ a.bn = b.bn ∧ a.bd = b.bd ∧ a.s = b.s := by
  cases a; cases b; simp
def tempoI : Ints tempoR := ⟨fun zs => ⟨gi zs 0, gi zs 1, gi zs 2⟩, fun zs h => by
  obtain ⟨x0, x1, x2, rfl⟩ : ∃ x0 x1 x2, zs = [x0, x1, x2] := by
    match zs, h with
    | [x0, x1, x2], _ => exact ⟨x0, x1, x2, rfl⟩
  rfl⟩

/-- Equality of records, as the language has it. -/
theorem tempo_same (a b : Tempo) : aggEq Try.prog 148 #[iv a.bn, iv a.bd, iv a.s] #[iv b.bn, iv b.bd, iv b.s] = some (decide (a = b)) := by
  refine aggEq_of (by kernel_rfl) rfl rfl fun w => ?_
  unfold Op.equal
  rw [show Op.maxDepth = 9999 + 1 from rfl]
  rw [run_equalIn_agg _ _ _ _ _ Try.underlying148 (by kernel_rfl)]
  simp [go_sem]
  repeat' split
  all_goals simp_all [tempo_eq]
theorem tempo_eql (a b : Tempo) : binV Try.prog .eql 148 (.agg #[iv a.bn, iv a.bd, iv a.s]) (.agg #[iv b.bn, iv b.bd, iv b.s]) = some (.bool (decide (a = b))) := by
  simp only [binV, eqV, Try.underlying148, tempo_same, Option.map_some]
theorem tempo_neq (a b : Tempo) : binV Try.prog .neq 148 (.agg #[iv a.bn, iv a.bd, iv a.s]) (.agg #[iv b.bn, iv b.bd, iv b.s]) = some (.bool (!decide (a = b))) := by
  simp only [binV, eqV, Try.underlying148, tempo_same, Option.map_some]
@[simp] theorem tempo_fill (x0 x1 x2 : Int) : Instr.fill (fun i => some (i * 3, 3)) (zrow [iv 0, iv 0, iv 0] 1).toArray [(0, .agg #[iv x0, iv x1, iv x2])] = some #[iv x0, iv x1, iv x2] := fill_agg (by omega) rfl rfl
theorem toTempo_a {M : Mem} (g : Tempo) : Det Try.prog M.length 98 [g.v] M g.v M := by
  first | (refine det_fn Try.func98 rfl Try.ntmps98 Try.results98 rfl rfl rfl (by simp) ?_) | (refine det_fnC Try.func98 rfl Try.ntmps98 Try.results98 rfl rfl (by simp) ?_)
  simp
  refine awCall_det' (toFrac_a ⟨g.bn, g.bd⟩) (by simp) ?_
  simp [keeps_app]
theorem eqTempo_a {M : Mem} (a b : Tempo) : Det Try.prog M.length 104 [a.v, b.v] M (.bool (decide (a = b))) M := by
  first | (refine det_fn Try.func104 rfl Try.ntmps104 Try.results104 rfl rfl rfl (by simp) ?_) | (refine det_fnC Try.func104 rfl Try.ntmps104 Try.results104 rfl rfl (by simp) ?_)
  simp
  refine awCall_det' (eqFrac_a ⟨a.bn, a.bd⟩ ⟨b.bn, b.bd⟩) (by simp) ?_
  by_cases e0 : (⟨a.bn, a.bd⟩ : Frac) = ⟨b.bn, b.bd⟩
  case' neg => simp [e0, keeps_app]; intro e; subst e; exact absurd rfl e0
  simp only [frac_eq] at e0
  simp [e0]
  repeat' (first | (refine awCond_split ?_ ?_ <;> intro _) | (simp [keeps_app]))
  all_goals (simp_all [tempo_eq])
theorem szTempoS_a {M : Mem} {A : Option Addr} {n c : Nat} (z : Int) (hz : 0 ≤ z) (hz1 : z ≤ 1048576) (hn : n ≤ maxLen) : Det Try.prog M.length 54 [.slice A n c, iv z] M (iv (if z - n < 0 then -1 else z - n)) M := by
  unfold maxLen at hn
  first | (refine det_fn Try.func54 rfl Try.ntmps54 Try.results54 rfl rfl rfl (by simp) ?_) | (refine det_fnC Try.func54 rfl Try.ntmps54 Try.results54 rfl rfl (by simp) ?_)
  simp (disch := omega) [wrap_in]
  refine awCond_split ?_ ?_ <;> intro h
  · simp at h
    simp [h, Keeps.refl]
    try omega
  · simp at h
    simp [h, Keeps.refl]
    try omega
theorem toTempoS_d {M : Mem} {A : Option Addr} {n c : Nat} {l : List Tempo} (h : Sl tempoR M A n l) (hn : n ≤ 1099511627776) : Det Try.prog M.length 56 [.slice A n c] M (.slice (some ⟨M.length, 0, none⟩) n n) (M ++ [.live ⟨cellsL tempoR l, true, true, 148, 3⟩]) := by
  have hl := h.1
  refine Ctr.det ?_
  first | (refine ctr_fn Try.func56 rfl Try.ntmps56 Try.results56 rfl rfl (by simp) ?_) | (refine ctr_fnC Try.func56 rfl Try.ntmps56 Try.results56 rfl (by simp) ?_)
  simp
  refine ⟨by omega, ?_⟩
  refine awLoop_T (fun m T M' => ∃ k : Nat, k + m = n ∧ M' = M ++ [.live ⟨cellsL tempoR (l.take k) ++ zrow [iv 0, iv 0, iv 0] m, true, true, 148, 3⟩] ∧ look T 4 = some (iv k) ∧ look T 0 = some (.slice A n c) ∧ look T 3 = some (.slice (some ⟨M.length, 0, none⟩) n n)) n ⟨0, by omega, by simp [cellsL_nil], by simp, by simp, by simp⟩ ?_
  rintro m T M' ⟨k, hm, rfl, h4, h0, h3⟩
  by_cases hlt : k < n
  · obtain ⟨id, off, rfl, he, hc⟩ := h.at_ hlt
    have hc' := hc.app [.live ⟨cellsL tempoR (l.take k) ++ zrow [iv 0, iv 0, iv 0] m, true, true, 148, 3⟩]
    simp (disch := omega) [h3, h4, h0, hlt, wrap_in, tempo_load hc']
    obtain ⟨m, rfl⟩ : ∃ m', m = m' + 1 := ⟨m - 1, by omega⟩
    refine awCall_det' ((toTempo_a (el l k))) (by simp) ⟨by simp, ow_iff.2 ⟨_, putCells_rec tempoR (a := el l k) (Nat.le_refl _) rfl (List.length_take_of_le (by omega)) rfl, ?_⟩⟩
    refine lpI m (by omega) ?_
    refine ⟨k + 1, by omega, by rw [take_el (by omega)], by simp, by simp [h0], by simp [h3]⟩
  · obtain rfl : k = n := by omega
    obtain rfl : m = 0 := by omega
    simp [h3, h4, h0, List.take_of_length_le (Nat.le_of_eq hl)]
theorem toTempoS_a {M : Mem} {A : Option Addr} {n c : Nat} {l : List Tempo} (h : Sl tempoR M A n l) (hn : n ≤ 1099511627776) : Ctr Try.prog M.length 56 [.slice A n c] M fun v M' => Fresh tempoR M v M' l :=
  (toTempoS_d h hn).ctr (Fresh.new h.1 (by omega))
theorem eqTempoS_a {M : Mem} {A B : Option Addr} {n c m d : Nat} {x y : List Tempo} (hx : Sl tempoR M A n x) (hy : Sl tempoR M B m y) (hn : n ≤ 1099511627776) : Det Try.prog M.length 60 [.slice A n c, .slice B m d] M (.bool (decide (x = y))) M := by
  have hlx := hx.1
  have hly := hy.1
  first | (refine det_fn Try.func60 rfl Try.ntmps60 Try.results60 rfl rfl rfl (by simp) ?_) | (refine det_fnC Try.func60 rfl Try.ntmps60 Try.results60 rfl rfl (by simp) ?_)
  simp
  refine awCond_split ?_ ?_ <;> intro hnm
  · simp at hnm
    simp
    exact ⟨fun e => by subst e; omega, Keeps.refl _⟩
  · simp at hnm
    obtain rfl : n = m := by omega
    simp
    refine awLoop_T (fun m T M' => ∃ k : Nat, k + m = n ∧ M' = M ∧ look T 5 = some (iv k) ∧ look T 0 = some (.slice A n c) ∧ look T 1 = some (.slice B n d) ∧ x.take k = y.take k) n ⟨0, by omega, rfl, by simp, by simp, by simp, by simp⟩ ?_
    rintro m T M' ⟨k, hm, rfl, h4, h0, h1, hk⟩
    by_cases hlt : k < n
    · obtain ⟨id, off, rfl, he, hc⟩ := hx.at_ hlt
      obtain ⟨id', off', rfl, he', hc'⟩ := hy.at_ hlt
      simp (disch := omega) [h4, h0, h1, hlt, wrap_in]
      refine awDraw_E 8 [[],[],[0,1],[2,0,1],[],[],[4,5],[6,4,5],[3,2,0,1,7,6,4,5],[8,3,2,0,1,7,6,4,5]] (by kernel_rfl) (by kernel_rfl) ?_
      simp (disch := omega) [h4, h0, h1, hlt, wrap_in, tempo_load hc, tempo_load hc']
      refine awCall_det' (eqTempo_a (el x k) (el y k)) (Nat.le_refl _) ?_
      simp
      refine awCond_split ?_ ?_ <;> intro he
      · simp at he
        simp
        exact ⟨fun e => he (by rw [e]), Keeps.refl _⟩
      · simp at he
        simp (disch := omega) [h4, h0, h1, wrap_in]
        refine lpI (m - 1) (by omega) ?_
        exact ⟨k + 1, by omega, rfl, by simp, by simp [h0], by simp [h1], by rw [take_el (by omega), take_el (by omega), hk, he]⟩
    · obtain rfl : k = n := by omega
      rw [List.take_of_length_le (by omega), List.take_of_length_le (by omega)] at hk
      simp [h4, h0, h1, hk, Keeps.refl]
def markTempo (z : Int) (i : Nat) : Tempo := ⟨z + i * 3, z + i * 3 + 1, z + i * 3 + 1 + 1⟩
def markTempoL (z : Int) (n : Nat) : List Tempo := (List.range n).map (markTempo z)
theorem markTempoL_succ (z : Int) (n : Nat) : markTempoL z (n + 1) = markTempoL z n ++ [markTempo z n] := by simp [markTempoL, List.range_succ]
theorem markTempoS_a {M : Mem} {b : Nat} {A : Option Addr} {n c : Nat} {x : List Tempo} (z : Int) (hx : Sl tempoR M A n x) (ho : Ownd M A n) (hb : ∀ a, A = some a → 0 < n → b ≤ a.block) (hn : n ≤ 1099511627776) (hz0 : 0 ≤ z) (hz : z ≤ 1152921504606846976) :
    Ctr Try.prog b 62 [.slice A n c, iv z] M fun v M' => v = iv (z + n * 3) ∧ Sl tempoR M' A n (markTempoL z n) ∧ Ownd M' A n ∧ Turned A n M M' := by
  have hlx := hx.1
  rcases Nat.eq_zero_or_pos n with rfl | hp
  · first | (refine ctr_fn Try.func62 rfl Try.ntmps62 Try.results62 rfl rfl (by simp) ?_) | (refine ctr_fnC Try.func62 rfl Try.ntmps62 Try.results62 rfl (by simp) ?_)
    simp
    refine awLoop_T (fun m T M' => M' = M ∧ look T 1 = some (iv z) ∧ look T 5 = some (iv 0) ∧ look T 0 = some (.slice A 0 c)) 0 ⟨rfl, by simp, by simp, by simp⟩ ?_
    rintro m T M' ⟨rfl, h1, h3, h0⟩
    simp [h1, h3, h0]
    obtain rfl := List.eq_nil_of_length_eq_zero hlx
    exact ⟨hx, ho, rfl, fun i s hs _ => hs⟩
  · obtain ⟨id, off, r, rfl, hr, ho⟩ := ho hp
    have hid := (List.getElem?_eq_some_iff.1 hr).1
    obtain ⟨hz5, hlen⟩ := hx.cells hr hp (by omega)
    have hb' : b ≤ id := hb _ rfl hp
    obtain ⟨cs, own, t, e, esz⟩ := r
    simp only at hz5 hlen ho
    subst hz5 ho
    have hM : M = M.set id (.live ⟨cs.take off ++ cellsL tempoR (markTempoL z 0) ++ cs.drop (off + 0 * 3), true, t, e, 3⟩) := by
      rw [set_self]
      simp [markTempoL, cellsL_nil, hr]
    first | (refine ctr_fn Try.func62 rfl Try.ntmps62 Try.results62 rfl rfl (by simp) ?_) | (refine ctr_fnC Try.func62 rfl Try.ntmps62 Try.results62 rfl (by simp) ?_)
    simp
    refine awLoop_T (fun m T M' => ∃ j : Nat, j + m = n ∧ M' = M.set id (.live ⟨cs.take off ++ cellsL tempoR (markTempoL z j) ++ cs.drop (off + j * 3), true, t, e, 3⟩) ∧ look T 5 = some (iv j) ∧ look T 1 = some (iv (z + j * 3)) ∧ look T 0 = some (.slice (some ⟨id, off, none⟩) n c)) n ⟨0, by omega, hM, by simp, by simp, by simp⟩ ?_
    rintro m T M' ⟨j, hm, rfl, h5, h1, h0⟩
    have hlm : (markTempoL z j).length = j := by simp [markTempoL]
    by_cases hlt : j < n
    · have hsp := splice_mid tempoR (cs := cs) (off := off) (a := markTempo z j) hlm (by omega)
      have hlc : (cs.take off ++ cellsL tempoR (markTempoL z j) ++ cs.drop (off + j * 3)).length = cs.length := by
        simp only [List.length_append, List.length_take, List.length_drop, cellsL_len, hlm]; omega
      generalize cs.take off ++ cellsL tempoR (markTempoL z j) ++ cs.drop (off + j * 3) = Cs at hsp hlc ⊢
      simp (disch := first | omega | (simp <;> omega)) [h5, h1, h0, hlt, wrap_in, rowEsz_set hid, put_set hid hb']
      refine lpI (m - 1) (by omega) ?_
      refine ⟨j + 1, by omega, ?_, by simp, by simp; omega, by simp [h0]⟩
      rw [markTempoL_succ, ← hsp]
      rfl
    · obtain rfl : j = n := by omega
      have hS := Sl.set (R := tempoR) (M := M) (pre := cs.take off) (post := cs.drop (off + j * 3)) (o := true) (t := t) (e := e) hid (List.length_take_of_le (by omega)) hlm
      have hO : Ownd (M.set id (.live ⟨cs.take off ++ cellsL tempoR (markTempoL z j) ++ cs.drop (off + j * 3), true, t, e, 3⟩)) (some ⟨id, off, none⟩) j := fun _ => ⟨_, _, _, rfl, List.getElem?_set_self hid, rfl⟩
      have hT : Turned (some ⟨id, off, none⟩) j M (M.set id (.live ⟨cs.take off ++ cellsL tempoR (markTempoL z j) ++ cs.drop (off + j * 3), true, t, e, 3⟩)) := set_turned hp
      generalize M.set id (.live ⟨cs.take off ++ cellsL tempoR (markTempoL z j) ++ cs.drop (off + j * 3), true, t, e, 3⟩) = M' at hS hO hT ⊢
      simp [h5, h1, h0]
      exact ⟨hS, hO, hT⟩
/-! The same, as the laws use them. -/
theorem sz_TempoS_over {M : Mem} {v : Value} {lo hi : Nat} {l : List Tempo} {z : Int} (h : RdL tempoR lo hi M v l) (hz : 0 ≤ z) (hz1 : z ≤ 1048576) (hl : z < l.length) : Det Try.prog M.length 54 [v, iv z] M (iv (-1)) M := by
  obtain ⟨A, n, c, rfl, hn, hS, _⟩ := h
  have := szTempoS_a (M := M) (A := A) (n := n) (c := c) z hz hz1 (by unfold maxLen; omega)
  rwa [if_pos (by have := hS.1; omega)] at this
theorem sz_TempoS {M : Mem} {v : Value} {lo hi : Nat} {l : List Tempo} {z : Int} (h : RdL tempoR lo hi M v l) (hz : 0 ≤ z) (hz1 : z ≤ 1048576) (hl : l.length ≤ z) : Det Try.prog M.length 54 [v, iv z] M (iv (z - l.length)) M := by
  obtain ⟨A, n, c, rfl, hn, hS, _⟩ := h
  have := szTempoS_a (M := M) (A := A) (n := n) (c := c) z hz hz1 (by unfold maxLen; omega)
  rw [if_neg (by have := hS.1; omega)] at this
  rwa [hS.1]
theorem to_TempoS {M : Mem} {v : Value} {lo hi : Nat} {l : List Tempo} (h : RdL tempoR lo hi M v l) (hl : l.length ≤ 1048576) : Ctr Try.prog M.length 56 [v] M fun v' M' => OwL tempoR M.length M'.length M' v' l ∧ Keeps M M' := by
  obtain ⟨A, n, c, rfl, hn, hS, _⟩ := h
  exact (toTempoS_a hS (by have := hS.1; omega)).mono fun v' M' h => h.ow
theorem eq_TempoS {M : Mem} {v w : Value} {lo hi lo' hi' : Nat} {x y : List Tempo} (hx : OwL tempoR lo hi M v x) (hy : RdL tempoR lo' hi' M w y) : Det Try.prog M.length 60 [v, w] M (.bool (decide (x = y))) M := by
  obtain ⟨A, n, c, rfl, hn, hS, _⟩ := hx
  obtain ⟨B, m, d, rfl, hm, hT, _⟩ := hy
  exact eqTempoS_a hS hT hn
theorem mark_TempoS {M : Mem} {b : Nat} {v : Value} {lo hi : Nat} {l : List Tempo} {z : Int} (h : OwL tempoR lo hi M v l) (hb : b ≤ lo) (hz : 0 ≤ z) (hz1 : z ≤ 1152921504606846976) :
    Ctr Try.prog b 62 [v, iv z] M fun r M' => r = iv (z + l.length * 3) ∧ OwL tempoR lo hi M' v (markTempoL z l.length) ∧ Turn lo hi M M' := by
  obtain ⟨A, n, c, rfl, hn, hS, hi', ho⟩ := h
  exact (markTempoS_a z hS ho (fun a e hp => by have := hi' a e hp; omega) hn hz hz1).mono fun r M' ⟨h1, h2, h3, h4⟩ => ⟨by rw [h1, hS.1], ⟨A, n, c, rfl, hn, by rw [hS.1]; exact h2, hi', h3⟩, Nat.le_of_eq h4.1.symm, fun i s hs hd => h4.2 i s hs fun a e hp => by have := hi' a e hp; omega⟩
end Go.Proofs.Ytgaiejaegimilaa

namespace Go.Proofs.Ytgaiejaegimilaa
open Go.RowKit
set_option linter.unusedVariables false
set_option linter.unusedSimpArgs false
set_option maxRecDepth 100000
attribute [local simp] List.getElem?_cons_zero
attribute [local irreducible] awCond awCall awLoop awDraw ow retQ retC resQ Keeps
theorem sz_TempoMap_over {M : Mem} {v : Value} {lo hi : Nat} {l : List Tempo} {z : Int} (h : RdL tempoR lo hi M v l) (hz : 0 ≤ z) (hz1 : z ≤ 1048576) (hl : z < l.length) : Det Try.prog M.length 15 [.agg #[v], iv z] M (iv (-1)) M := by
  first | (refine det_fn Try.func15 rfl Try.ntmps15 Try.results15 rfl rfl rfl (by simp) ?_) | (refine det_fnC Try.func15 rfl Try.ntmps15 Try.results15 rfl rfl (by simp) ?_)
  simp
  refine awCall_det' (sz_TempoS_over (h.keeps (keeps_app _)) hz hz1 hl) (by simp) ?_
  simp [keeps_app]
theorem sz_TempoMap {M : Mem} {v : Value} {lo hi : Nat} {l : List Tempo} {z : Int} (h : RdL tempoR lo hi M v l) (hz : 0 ≤ z) (hz1 : z ≤ 1048576) (hl : l.length ≤ z) : Det Try.prog M.length 15 [.agg #[v], iv z] M (iv (z - l.length)) M := by
  first | (refine det_fn Try.func15 rfl Try.ntmps15 Try.results15 rfl rfl rfl (by simp) ?_) | (refine det_fnC Try.func15 rfl Try.ntmps15 Try.results15 rfl rfl (by simp) ?_)
  simp
  refine awCall_det' (sz_TempoS (h.keeps (keeps_app _)) hz hz1 hl) (by simp) ?_
  have h0 : ¬ z - l.length < 0 := by omega
  simp [keeps_app, h0]
theorem to_TempoMap_d {M : Mem} {v : Value} {lo hi : Nat} {l : List Tempo} (h : RdL tempoR lo hi M v l) (hl : l.length ≤ 1048576) : ∃ u N, Det Try.prog M.length 17 [.agg #[v]] M (.agg #[u]) (M ++ N) ∧ OwL tempoR M.length (M ++ N).length (M ++ N) u l := by
  obtain ⟨A, n, c, rfl, hn, hS, _⟩ := h
  have hl' := hS.1
  refine ⟨.slice (some ⟨M.length + 3, 0, none⟩) n n, [.live ⟨[.slice A n c], true, true, 36, 1⟩, .live ⟨[.slice (some ⟨M.length + 3, 0, none⟩) n n], true, true, 43, 1⟩, .live ⟨[.slice (some ⟨M.length + 3, 0, none⟩) n n], true, true, 43, 1⟩, .live ⟨cellsL tempoR l, true, true, 148, 3⟩], ?_, ?_⟩
  · refine Ctr.det ?_
    first | (refine ctr_fn Try.func17 rfl Try.ntmps17 Try.results17 rfl rfl (by simp) ?_) | (refine ctr_fnC Try.func17 rfl Try.ntmps17 Try.results17 rfl (by simp) ?_)
    simp
    refine awCall_det' ((toTempoS_d (hS.keeps (keeps_app _)) (by omega))) (by simp) ?_
    simp
  · refine ⟨_, n, n, rfl, by omega, ⟨hl', fun _ => ⟨M.length + 3, 0, rfl, by simp [rowEsz], fun j x hx => by simp [cellAt, hx]⟩⟩, fun a e _ => by injection e with e; subst e; simp, fun _ => ⟨_, _, ⟨cellsL tempoR l, true, true, 148, 3⟩, rfl, by simp, rfl⟩⟩
theorem eq_TempoMap {M : Mem} {v w : Value} {lo hi lo' hi' : Nat} {x y : List Tempo} (hx : OwL tempoR lo hi M v x) (hy : RdL tempoR lo' hi' M w y) : Det Try.prog M.length 20 [.agg #[v], .agg #[w]] M (.bool (decide (x = y))) M := by
  first | (refine det_fn Try.func20 rfl Try.ntmps20 Try.results20 rfl rfl rfl (by simp) ?_) | (refine det_fnC Try.func20 rfl Try.ntmps20 Try.results20 rfl rfl (by simp) ?_)
  simp
  refine awCall_det' (eq_TempoS (hx.keeps (keeps_app _)) (hy.keeps (keeps_app _))) (by simp) ?_
  by_cases e : x = y
  · simp [keeps_app, e]
  · simp [keeps_app, e]
theorem mark_TempoMap {M : Mem} {b : Nat} {v : Value} {lo hi : Nat} {l : List Tempo} {z : Int} (h : OwL tempoR lo hi M v l) (hb : b ≤ lo) (hz : 0 ≤ z) (hz1 : z ≤ 1152921504606846976) :
    Ctr Try.prog b 22 [.agg #[v], iv z] M fun r M' => r = iv (z + l.length * 3) ∧ OwL tempoR lo hi M' v (markTempoL z l.length) ∧ Turn lo hi M M' := by
  first | (refine ctr_fn Try.func22 rfl Try.ntmps22 Try.results22 rfl rfl (by simp) ?_) | (refine ctr_fnC Try.func22 rfl Try.ntmps22 Try.results22 rfl (by simp) ?_)
  simp
  refine awCall_ctr (mark_TempoS (h.keeps (keeps_app _)) hb hz hz1) ?_
  rintro _ M' ⟨rfl, o, ht⟩
  simp
  exact ⟨o, ht.app⟩
end Go.Proofs.Ytgaiejaegimilaa

namespace Go.Proofs.Ytgaiejaegimilaa
open Go.RowKit
set_option linter.unusedVariables false
set_option linter.unusedSimpArgs false
set_option maxRecDepth 100000
attribute [local simp] List.getElem?_cons_zero
attribute [local irreducible] awCond awCall awLoop awDraw ow retQ retC resQ Keeps
def Tempo.beat (t : Tempo) : Frac := ⟨t.bn, t.bd⟩
/-- A position behind another one, by a difference of beats times some samples; and a code. -/
def onF (frm beat : Frac) (s : Int) (at_ : Frac) : Frac × Int :=
  if (subF beat frm).2 ≠ 0 then (at_, (subF beat frm).2) else
  if (mulF (subF beat frm).1 ⟨s, 1⟩).2 ≠ 0 then (at_, (mulF (subF beat frm).1 ⟨s, 1⟩).2) else addF at_ (mulF (subF beat frm).1 ⟨s, 1⟩).1
def onY (frm beat : Frac) (s : Int) (at_ : Frac) : Frac := (addF at_ (mulF (subF beat frm).1 ⟨s, 1⟩).1).1
def onOk (frm beat : Frac) (s : Int) (at_ : Frac) : Bool := decide ((subF beat frm).2 = 0) && decide ((mulF (subF beat frm).1 ⟨s, 1⟩).2 = 0) && decide ((addF at_ (mulF (subF beat frm).1 ⟨s, 1⟩).1).2 = 0)
theorem onOk_iff {frm beat at_ : Frac} {s : Int} : onOk frm beat s at_ = true ↔ (onF frm beat s at_).2 = 0 := by
  unfold onOk onF
  simp only [Bool.and_eq_true, decide_eq_true_eq]
  constructor
  · rintro ⟨⟨h1, h2⟩, h3⟩
    rw [if_neg (by omega), if_neg (by omega)]
    exact h3
  · intro h
    split at h
    · rename_i h1; exact absurd h h1
    · rename_i h1
      split at h
      · rename_i h2; exact absurd h h2
      · rename_i h2
        exact ⟨⟨by omega, by omega⟩, h⟩
theorem onY_eq {frm beat at_ : Frac} {s : Int} (h : (onF frm beat s at_).2 = 0) : onY frm beat s at_ = (onF frm beat s at_).1 := by
  unfold onY
  unfold onF at h ⊢
  split at h
  · rename_i h1; exact absurd h h1
  · rename_i h1
    rw [if_neg h1]
    split at h
    · rename_i h2; exact absurd h h2
    · rename_i h2
      rw [if_neg h2]
theorem mkF_code {n d : Int} (hd : d ≠ 0) : (mkF n d).2 = 0 ∨ (mkF n d).2 = 2 := by
  unfold mkF
  rw [if_neg hd]
  split
  · exact .inr rfl
  · exact .inl rfl
theorem addF_code {a b : Frac} (ha : fracB a = true) (hb : fracB b = true) : (addF a b).2 = 0 ∨ (addF a b).2 = 2 := by
  obtain ⟨-, -, h, -⟩ := frac_bd ha hb
  unfold addF
  rw [if_pos ⟨ha, hb⟩]
  exact mkF_code (by omega)
theorem subF_code {a b : Frac} (ha : fracB a = true) (hb : fracB b = true) : (subF a b).2 = 0 ∨ (subF a b).2 = 2 := by
  obtain ⟨-, -, h, -⟩ := frac_bd ha hb
  unfold subF
  rw [if_pos ⟨ha, hb⟩]
  exact mkF_code (by omega)
theorem mulF_code {a b : Frac} (ha : fracB a = true) (hb : fracB b = true) : (mulF a b).2 = 0 ∨ (mulF a b).2 = 2 := by
  obtain ⟨-, -, h, -⟩ := frac_bd ha hb
  unfold mulF
  rw [if_pos ⟨ha, hb⟩]
  exact mkF_code (by omega)
theorem subF_ok {a b : Frac} (h : (subF a b).2 = 0) : fracB (subF a b).1 = true := by
  unfold subF at h ⊢
  split at h
  · rename_i hab
    rw [if_pos hab]
    exact mkF_ok h
  · cases h
theorem mulF_ok {a b : Frac} (h : (mulF a b).2 = 0) : fracB (mulF a b).1 = true := by
  unfold mulF at h ⊢
  split at h
  · rename_i hab
    rw [if_pos hab]
    exact mkF_ok h
  · cases h
theorem onF_ok {frm beat at_ : Frac} {s : Int} (h : (onF frm beat s at_).2 = 0) : fracB (onF frm beat s at_).1 = true := by
  unfold onF at h ⊢
  split at h
  · rename_i h1; exact absurd h h1
  · rename_i h1
    rw [if_neg h1]
    split at h
    · rename_i h2; exact absurd h h2
    · rename_i h2
      rw [if_neg h2]
      exact addF_ok h
theorem onF_code {frm beat at_ : Frac} {s : Int} (h1 : fracB frm = true) (h2 : fracB beat = true) (h3 : fracB at_ = true) (hs : 1 ≤ s ∧ s ≤ 1000) : (onF frm beat s at_).2 = 0 ∨ (onF frm beat s at_).2 = 2 := by
  have hc := subF_code h2 h1
  unfold onF
  split
  · rename_i h; simp only; omega
  · rename_i h
    have hd := subF_ok (a := beat) (b := frm) (by omega)
    have hc2 := mulF_code hd (whole_ok (n := s) (by omega) (by omega))
    split
    · rename_i h'; simp only; omega
    · rename_i h'
      exact addF_code h3 (mulF_ok (by omega))
theorem mkF_zero {d : Int} (hd : 0 < d) : mkF 0 d = (⟨0, 1⟩, 0) := by
  unfold mkF
  rw [if_neg (by omega)]
  have e : (0 : Int).natAbs.gcd d.natAbs = d.natAbs := by simp
  rw [e]
  have e2 : d.natAbs / d.natAbs = 1 := Nat.div_self (by omega)
  have hd' : ¬ d < 0 := by omega
  simp [e2, hd']
theorem zero_ok : fracB ⟨0, 1⟩ = true := by decide
/-- At a beat of one's own nothing is added. -/
theorem onF_self {b at_ : Frac} {s : Int} (hb : fracB b = true) (ha : fracB at_ = true) (hs : 1 ≤ s ∧ s ≤ 1000) : onF b b s at_ = (at_, 0) := by
  obtain ⟨-, -, h3, -⟩ := frac_bd hb hb
  have e1 : subF b b = (⟨0, 1⟩, 0) := by
    unfold subF
    rw [if_pos ⟨hb, hb⟩, Int.sub_self]
    exact mkF_zero (by omega)
  have hw := whole_ok (n := s) (by omega) (by omega)
  have e2 : mulF ⟨0, 1⟩ ⟨s, 1⟩ = (⟨0, 1⟩, 0) := by
    unfold mulF
    rw [if_pos ⟨zero_ok, hw⟩]
    simp only [Int.zero_mul, Int.mul_one]
    exact mkF_zero (by omega)
  have e3 : addF at_ ⟨0, 1⟩ = (at_, 0) := by
    unfold addF
    rw [if_pos ⟨ha, zero_ok⟩]
    simp only [Int.zero_mul, Int.mul_one, Int.add_zero]
    exact mkF_self ha
  unfold onF
  rw [e1]
  simp only
  rw [if_neg (by omega), e2]
  simp only
  rw [if_neg (by omega)]
  exact e3
/-- The position of a tempo. -/
def posK (l : List Tempo) : Nat → Option Frac
  | 0 => some ⟨0, 1⟩
  | k + 1 => (posK l k).bind fun at_ => if (onF (el l k).beat (el l (k + 1)).beat (el l k).s at_).2 = 0 then some (onF (el l k).beat (el l (k + 1)).beat (el l k).s at_).1 else none
theorem posK_ok (l : List Tempo) : ∀ {k : Nat} {f : Frac}, posK l k = some f → fracB f = true
  | 0, f, h => by
    injection h with h
    subst h
    exact zero_ok
  | k + 1, f, h => by
    obtain ⟨a, ha, h⟩ := Option.bind_eq_some_iff.1 h
    split at h
    · injection h with h
      rename_i hc
      rw [← h]
      exact onF_ok hc
    · cases h
theorem posK_back (l : List Tempo) {k : Nat} (h : (posK l (k + 1)).isSome = true) : (posK l k).isSome = true := by
  cases hk : posK l k with
  | none => simp [posK, hk] at h
  | some a => rfl
def tempoB (t : Tempo) : Bool := beatB t.beat && inB t.s 1 1000
/-- Tempos in order, of which the first is at 0. -/
def tempA (l : List Tempo) : Bool := inB l.length 1 8 && l.all tempoB && decide ((el l 0).bn = 0) && decide (∀ i, i < l.length → 0 < i → cmpF (el l (i - 1)).beat (el l i).beat < 0)
def tempB (l : List Tempo) : Bool := tempA l && decide (∀ k, k < l.length → (posK l k).isSome = true)
def posAll (l : List Tempo) : List Frac := (List.range l.length).map fun k => (posK l k).getD ⟨0, 1⟩
theorem tempoB_iff {t : Tempo} : tempoB t = true ↔ beatB t.beat = true ∧ 1 ≤ t.s ∧ t.s ≤ 1000 := by
  simp only [tempoB, Bool.and_eq_true, inB_iff]
theorem tempA_iff {l : List Tempo} : tempA l = true ↔ (1 ≤ l.length ∧ l.length ≤ 8) ∧ (∀ i, i < l.length → tempoB (el l i) = true) ∧ (el l 0).bn = 0 ∧ ∀ i, i < l.length → 0 < i → cmpF (el l (i - 1)).beat (el l i).beat < 0 := by
  simp only [tempA, Bool.and_eq_true, decide_eq_true_eq, inB_iff, and_assoc, List.all_eq_true]
  constructor
  · rintro ⟨h1, h2, h3, h4, h5⟩
    exact ⟨by omega, by omega, fun i hi => h3 _ (el_mem hi), h4, h5⟩
  · rintro ⟨h1, h2, h3, h4, h5⟩
    refine ⟨by omega, by omega, fun x hx => ?_, h4, h5⟩
    obtain ⟨i, hi, rfl⟩ := List.getElem_of_mem hx
    rw [el_eq hi]
    exact h3 i hi
/-- The tempo of a beat. -/
def idxT (l : List Tempo) (b : Frac) : Nat → Nat
  | 0 => 0
  | i + 1 => if cmpF (el l i).beat b ≤ 0 then i else idxT l b i
theorem cmpF_le {a b : Frac} : cmpF a b ≤ 0 ↔ a.n * b.d ≤ b.n * a.d := by
  unfold cmpF
  split
  · constructor <;> intro h <;> omega
  · split
    · constructor <;> intro h <;> omega
    · constructor <;> intro h <;> omega
theorem cmpF_lt {a b : Frac} : cmpF a b < 0 ↔ a.n * b.d < b.n * a.d := by
  unfold cmpF
  split
  · constructor <;> intro h <;> omega
  · split
    · constructor <;> intro h <;> omega
    · constructor <;> intro h <;> omega
theorem frac_lt {a b : Frac} : a.n * b.d < b.n * a.d ↔ a.n * b.d < b.n * a.d := Iff.rfl
/-- The order of fractions, over one in the middle. -/
theorem cmpF_trans {a b c : Frac} (ha : 1 ≤ a.d) (hb : 1 ≤ b.d) (hc : 1 ≤ c.d) (h1 : cmpF a b < 0) (h2 : cmpF b c ≤ 0) : cmpF a c < 0 := by
  rw [cmpF_lt] at h1 ⊢
  rw [cmpF_le] at h2
  have e1 : a.n * b.d * c.d < b.n * a.d * c.d := Int.mul_lt_mul_of_pos_right h1 (by omega)
  have e2 : b.n * c.d * a.d ≤ c.n * b.d * a.d := Int.mul_le_mul_of_nonneg_right h2 (by omega)
  have e3 : b.n * a.d * c.d = b.n * c.d * a.d := by rw [Int.mul_assoc, Int.mul_comm a.d, ← Int.mul_assoc]
  have e4 : (a.n * c.d) * b.d < (c.n * a.d) * b.d := by
    have x1 : a.n * c.d * b.d = a.n * b.d * c.d := by rw [Int.mul_assoc, Int.mul_comm c.d, ← Int.mul_assoc]
    have x2 : c.n * a.d * b.d = c.n * b.d * a.d := by rw [Int.mul_assoc, Int.mul_comm a.d, ← Int.mul_assoc]
    omega
  exact Int.lt_of_mul_lt_mul_right e4 (by omega)
/-- The first tempo that is the last one, or whose next one is behind the beat: it is the tempo of the beat. -/
theorem idx_last {l : List Tempo} {b : Frac} (hl : tempA l = true) (hb : 1 ≤ b.d) {k : Nat} (hk : k < l.length) (h1 : ∀ i, i ≤ k → 0 < i → cmpF (el l i).beat b ≤ 0) (h0 : cmpF (el l 0).beat b ≤ 0) (h2 : k + 1 = l.length ∨ ¬ cmpF (el l (k + 1)).beat b ≤ 0) : idxT l b l.length = k := by
  obtain ⟨⟨l1, l2⟩, ha, -, hs⟩ := tempA_iff.1 hl
  have pos : ∀ i, i < l.length → 1 ≤ (el l i).beat.d := fun i hi => (fracB_iff.1 (beatB_iff.1 (tempoB_iff.1 (ha i hi)).1).1).1.1
  have far : ∀ i, k < i → i < l.length → ¬ cmpF (el l i).beat b ≤ 0 := by
    intro i hi hil
    have : ∀ d, k + 1 + d < l.length → ¬ cmpF (el l (k + 1 + d)).beat b ≤ 0 := by
      intro d
      induction d with
      | zero =>
        intro hd
        rcases h2 with h2 | h2
        · omega
        · exact h2
      | succ d ih =>
        intro hd hc
        refine ih (by omega) ?_
        have := cmpF_trans (pos (k + 1 + d) (by omega)) (pos (k + 1 + (d + 1)) hd) hb (by have := hs (k + 1 + (d + 1)) hd (by omega); rwa [show k + 1 + (d + 1) - 1 = k + 1 + d by omega] at this) hc
        omega
    have := this (i - (k + 1)) (by omega)
    rwa [show k + 1 + (i - (k + 1)) = i by omega] at this
  have hkk : cmpF (el l k).beat b ≤ 0 := by
    rcases Nat.eq_zero_or_pos k with h | h
    · rw [h]; exact h0
    · exact h1 k (Nat.le_refl _) h
  have : ∀ d, k + 1 + d ≤ l.length → idxT l b (k + 1 + d) = k := by
    intro d
    induction d with
    | zero => intro _; show (if cmpF (el l k).beat b ≤ 0 then k else _) = k; rw [if_pos hkk]
    | succ d ih =>
      intro hd
      show (if cmpF (el l (k + 1 + d)).beat b ≤ 0 then k + 1 + d else idxT l b (k + 1 + d)) = k
      rw [if_neg (far _ (by omega) (by omega))]
      exact ih (by omega)
  have := this (l.length - (k + 1)) (by omega)
  rwa [show k + 1 + (l.length - (k + 1)) = l.length by omega] at this
theorem idx_le {l : List Tempo} {b : Frac} : ∀ n, 0 < n → idxT l b n < n
  | 0, h => by omega
  | n + 1, _ => by
    unfold idxT
    split
    · omega
    · rcases Nat.eq_zero_or_pos n with h | h
      · subst h; simp [idxT]
      · have := idx_le (l := l) (b := b) n h; omega
end Go.Proofs.Ytgaiejaegimilaa

namespace Go.Proofs.Ytgaiejaegimilaa
open Go.RowKit
set_option linter.unusedVariables false
set_option linter.unusedSimpArgs false
set_option maxRecDepth 100000
attribute [local simp] List.getElem?_cons_zero
attribute [local irreducible] awCond awCall awLoop awDraw ow retQ retC resQ Keeps
theorem Same.app' (B : Nat) (M L : Mem) : Same B M (M ++ L) := ⟨by simp, fun i s _ hs => by rw [List.getElem?_append_left (List.getElem?_eq_some_iff.1 hs).1]; exact hs⟩
theorem Same.tr {B : Nat} {M M1 M2 : Mem} (h : Same B M M1) (h' : Same B M1 M2) : Same B M M2 := ⟨Nat.le_trans h.1 h'.1, fun i s hi hs => h'.2 i s hi (h.2 i s hi hs)⟩
theorem Same.setb {B id : Nat} {M : Mem} {s : Slot} (h : B ≤ id) : Same B M (M.set id s) := ⟨by simp, fun i t hi ht => by rw [List.getElem?_set_ne (by omega)]; exact ht⟩
theorem Same.keepsA {M M' : Mem} (h : Same M.length M M') : Keeps M M' := by
  unfold Keeps
  exact fun i s hs => h.2 i s (List.getElem?_eq_some_iff.1 hs).1 hs
theorem Acc.set_apart {α : Type} {q : Nat} {R : RecV α q} {e : TypeId} {B i : Nat} {M : Mem} {v : Value} {l : List α} {s : Slot} (h : Acc R e B M v l) (ha : Apart v i) : Acc R e B (M.set i s) v l := by
  obtain ⟨A, n, c, rfl, h2, h3⟩ := h
  refine ⟨A, n, c, rfl, h2, ?_⟩
  rcases h3 with h3 | ⟨id, t, rfl, h5, h6⟩
  · exact .inl h3
  · have hne : i ≠ id := ha _ _ _ _ rfl rfl
    exact .inr ⟨id, t, rfl, h5, by rw [List.getElem?_set_ne hne]; exact h6⟩
theorem l17On_a {M : Mem} (frm beat at_ : Frac) (s : Int) : Det Try.prog M.length 116 [frm.v, beat.v, iv s, at_.v] M (.tuple #[(onY frm beat s at_).v, .bool (onOk frm beat s at_)]) M := by
  first | (refine det_fn Try.func116 rfl Try.ntmps116 Try.results116 rfl rfl rfl (by simp) ?_) | (refine det_fnC Try.func116 rfl Try.ntmps116 Try.results116 rfl rfl (by simp) ?_)
  simp
  refine awCall_det' (SubFrac_s beat frm) (by simp) ?_
  simp [fr_build]
  refine awCall_det' (MulFrac_s (subF beat frm).1 ⟨s, 1⟩) (by simp) ?_
  simp
  refine awCall_det' (AddFrac_s at_ (mulF (subF beat frm).1 ⟨s, 1⟩).1) (by simp) ?_
  unfold onOk onY
  by_cases h1 : (subF beat frm).2 = 0
  · by_cases h2 : (mulF (subF beat frm).1 ⟨s, 1⟩).2 = 0
    · simp [h1, h2, keeps_app]
    · simp [h1, h2, keeps_app]
  · simp [h1, keeps_app]
theorem tempB_len {l : List Tempo} (h : inB l.length 1 8 = false) : tempB l = false := by simp [tempB, tempA, h]
theorem tempB_iff {l : List Tempo} : tempB l = true ↔ tempA l = true ∧ ∀ k, k < l.length → (posK l k).isSome = true := by
  simp only [tempB, Bool.and_eq_true, decide_eq_true_eq]
theorem tempB_no {l : List Tempo} (h : tempB l = true → False) : tempB l = false := by
  cases hb : tempB l with
  | false => rfl
  | true => exact (h hb).elim
theorem posAll_len (l : List Tempo) : (posAll l).length = l.length := by simp [posAll]
theorem posAll_el {l : List Tempo} {k : Nat} {a : Frac} (hk : k < l.length) (h : posK l k = some a) : el (posAll l) k = a := by
  rw [← el_eq (l := posAll l) (by rw [posAll_len]; exact hk)]
  simp [posAll, h]
theorem posAll_take {l : List Tempo} {k : Nat} {a : Frac} (hk : k < l.length) (h : posK l k = some a) : (posAll l).take (k + 1) = (posAll l).take k ++ [a] := by
  rw [take_el (by rw [posAll_len]; exact hk), posAll_el hk h]
theorem tempo_cellsN {M : Mem} {id off : Nat} {t : Tempo} (h : Cl M id off t.row) : cellsAt M id off 2 = some [iv t.bn, iv t.bd] :=
  cellsAt_of (fun j x hx => h j x (by
    rcases j with _ | _ | j
    · exact hx
    · exact hx
    · simp at hx)) rfl (by omega)
theorem at_build (x : Int) : Instr.fill (fun x => [(0, 1), (1, 1)][x]?) #[iv 0, iv 0] [(1, iv x)] = some #[iv 0, iv x] := by rfl
theorem cells_hrq {M : Mem} {id n : Nat} {r : Row} (h : M[id]? = some (.live r)) (hn : n = r.cells.length) : cellsAt M id 0 n = some r.cells := by
  subst hn
  simp [cellsAt, h]
/-- How far the reading of a map has come. -/
structure TP (l : List Tempo) (k : Nat) (a : Frac) : Prop where
  tempo : ∀ i, i < k → tempoB (el l i) = true
  first : 0 < k → (el l 0).bn = 0
  sort : ∀ i, i < k → 0 < i → cmpF (el l (i - 1)).beat (el l i).beat < 0
  pos : ∀ i, i < k → (posK l i).isSome = true
  at_ : posK l (k - 1) = some a
theorem TP.done {l : List Tempo} {a : Frac} (h : TP l l.length a) (hl : inB l.length 1 8 = true) : tempB l = true :=
  tempB_iff.2 ⟨tempA_iff.2 ⟨by have := inB_iff.1 hl; omega, h.tempo, h.first (by have := inB_iff.1 hl; omega), h.sort⟩, h.pos⟩
def PosR (M : Mem) (l : List Tempo) (n : Nat) (r : Value) (M' : Mem) : Prop := ∃ v, r = .tuple #[v, .bool (tempB l)] ∧ (tempB l = true → ∃ A c, v = .slice A n c ∧ Sl fracR M' A n (posAll l)) ∧ Keeps M M'
theorem PosR.no {M M' : Mem} {l : List Tempo} {n : Nat} {v : Value} (hk : Keeps M M') (e : tempB l = false) : PosR M l n (.tuple #[v, .bool false]) M' := by
  refine ⟨v, by rw [e], ?_, hk⟩
  intro h
  rw [e] at h
  cases h
theorem PosR.yes {M M' : Mem} {l : List Tempo} {n : Nat} {A : Option Addr} {c : Nat} (hk : Keeps M M') (e : tempB l = true) (hs : Sl fracR M' A n (posAll l)) : PosR M l n (.tuple #[.slice A n c, .bool true]) M' :=
  ⟨_, by rw [e], fun _ => ⟨A, c, rfl, hs⟩, hk⟩
theorem posK_on {l : List Tempo} {k : Nat} {a : Frac} (hk : 0 < k) (h : posK l (k - 1) = some a) : posK l k = if onOk (el l (k - 1)).beat (el l k).beat (el l (k - 1)).s a = true then some (onY (el l (k - 1)).beat (el l k).beat (el l (k - 1)).s a) else none := by
  obtain ⟨j, rfl⟩ : ∃ j, k = j + 1 := ⟨k - 1, by omega⟩
  simp only [Nat.add_sub_cancel] at h ⊢
  show (posK l j).bind _ = _
  rw [h]
  simp only [Option.bind_some]
  by_cases hc : (onF (el l j).beat (el l (j + 1)).beat (el l j).s a).2 = 0
  · rw [if_pos hc, if_pos (onOk_iff.2 hc), onY_eq hc]
  · rw [if_neg hc, if_neg (fun h => hc (onOk_iff.1 h))]
set_option maxHeartbeats 4000000 in
theorem l17Positions_a {M : Mem} {A : Option Addr} {n c id0 off0 : Nat} {l : List Tempo} (h : Sl tempoR M A n l) (hr : cellAt M id0 off0 = some (.slice A n c)) (hn : n ≤ 1099511627776) :
    Ctr Try.prog M.length 97 [.pointer (some ⟨id0, off0, none⟩)] M (PosR M l n) := by
  have hl := h.1
  first | (refine ctr_fn Try.func97 rfl Try.ntmps97 Try.results97 rfl rfl (by simp) ?_) | (refine ctr_fnC Try.func97 rfl Try.ntmps97 Try.results97 rfl (by simp) ?_)
  simp [hr]
  refine awCall_det' (l00In_a _ _ _) (by simp) ?_
  by_cases hin : inB (n : Int) 1 8 = true
  case neg =>
    have e : tempB l = false := tempB_len (by rw [hl]; simpa using hin)
    simp [hin]
    exact PosR.no (Keeps.refl _) e
  have hinb := inB_iff.1 hin
  simp [hin, at_build]
  have hacc : Acc fracR 58 M.length (M ++ [.live ⟨[], true, true, 58, 2⟩, .live ⟨[iv 0, iv 1], true, true, 58, 2⟩]) (.slice (some ⟨M.length, 0, none⟩) 0 0) [] := ⟨_, _, _, rfl, rfl, .inr ⟨M.length, true, rfl, Nat.le_refl _, by simp [cellsL_nil]⟩⟩
  refine awLoop_T (fun m T M' => ∃ (k : Nat) (v : Value) (a : Frac), k + m = n ∧ Same M.length M M' ∧ TP l k a ∧ Acc fracR 58 M.length M' v ((posAll l).take k) ∧ Apart v (M.length + 1) ∧ M'[M.length + 1]? = some (.live ⟨[iv a.n, iv a.d], true, true, 58, 2⟩) ∧ look T 6 = some (iv k) ∧ look T 4 = some v ∧ look T 5 = some (.pointer (some ⟨M.length + 1, 0, none⟩)) ∧ look T 0 = some (.pointer (some ⟨id0, off0, none⟩))) n
    ⟨0, _, ⟨0, 1⟩, by omega, Same.app' _ _ _, ⟨(fun i hi => by omega), (fun h => by omega), (fun i hi => by omega), (fun i hi => by omega), rfl⟩, by simpa using hacc, (fun A n' c' ad e ea => by injection e with e1; subst e1; injection ea with ea; subst ea; show M.length + 1 ≠ M.length; omega), by simp, by simp, by simp, by simp, by simp⟩ ?_
  rintro m T M1 ⟨k, v, a, hm, hsm, hP, hA, hap, hra, t6, t4, t5, t0⟩
  have n1 := hsm.1
  have hK := hsm.keepsA
  have hr1 := cellAt_keeps hK hr
  by_cases hlt : k < n
  · obtain ⟨id, off, rfl, he, hc⟩ := (h.keeps hK).at_ hlt
    have hld := tempo_load hc
    simp (disch := omega) [t6, t4, t5, t0, hr1, hlt, he, hld]
    refine awCall_det' (l02Ok_a (el l k).beat) (by simp; omega) ?_
    by_cases f1 : fracB (el l k).beat = true
    case neg =>
      have e : tempB l = false := tempB_no fun hb => f1 (beatB_iff.1 (tempoB_iff.1 ((tempA_iff.1 (tempB_iff.1 hb).1).2.1 k (by omega))).1).1
      simp [f1]
      exact PosR.no (hK.app _) e
    simp [f1]
    refine awCall_det' (l17Beat_a (el l k).beat f1) (by simp; omega) ?_
    by_cases f2 : beatB (el l k).beat = true
    case neg =>
      have e : tempB l = false := tempB_no fun hb => f2 (tempoB_iff.1 ((tempA_iff.1 (tempB_iff.1 hb).1).2.1 k (by omega))).1
      simp [f2]
      exact PosR.no (hK.app _) e
    simp [f2]
    refine awCall_det' (l00In_a _ _ _) (by simp; omega) ?_
    by_cases f3 : inB (el l k).s 1 1000 = true
    case neg =>
      have e : tempB l = false := tempB_no fun hb => f3 (inB_iff.2 (tempoB_iff.1 ((tempA_iff.1 (tempB_iff.1 hb).1).2.1 k (by omega))).2)
      simp [f3]
      exact PosR.no (hK.app _) e
    have f3b := inB_iff.1 f3
    have htk : tempoB (el l k) = true := tempoB_iff.2 ⟨f2, f3b⟩
    simp [f3]
    -- the first one is at 0
    by_cases hk0 : k = 0
    · subst hk0
      by_cases f4 : (el l 0).bn = 0
      case neg =>
        have e : tempB l = false := tempB_no fun hb => f4 (tempA_iff.1 (tempB_iff.1 hb).1).2.2.1
        simp [t6, f4]
        exact PosR.no (hK.app _) e
      have x0 : ∀ L : Mem, cellsAt (M1 ++ L) (M.length + 1) 0 2 = some [iv a.n, iv a.d] := fun L => cellsAt_app (cells_hrq hra rfl) L
      simp [t6, t4, t5, t0, f4, x0]
      have ea : a = ⟨0, 1⟩ := by have := hP.at_; simp [posK] at this; exact this.symm
      refine Acc.append2 (R := fracR) (e := 58) (by_ := 16) (a := a) (hA.keeps (keeps_app _)) (Nat.le_refl _) (by simp; omega) (by omega) (by simp) (by kernel_rfl) (by simp [srcOf, fracR, Frac.row]) (by rfl) (by simp) (by unfold maxLen; simp) ?_
      intro v' M2 hA2 s2 ap2
      obtain ⟨hra2, hap2⟩ := ap2 (M.length + 1) _ hap (by simp only [St.M_mk]; rw [List.getElem?_append_left (List.getElem?_eq_some_iff.1 hra).1]; exact hra)
      simp (disch := omega) [t6, t4, t5, t0, wrap_in]
      refine lpI (m - 1) (by omega) ⟨1, v', a, by omega, (hsm.tr (Same.app' _ _ _)).tr (by simpa using s2), ⟨(fun i hi => by obtain rfl : i = 0 := (by omega); exact htk), fun _ => f4, (fun i hi h0 => by omega), (fun i hi => by obtain rfl : i = 0 := (by omega); rfl), hP.at_⟩, by rw [posAll_take (by omega) hP.at_]; exact hA2, hap2, hra2, by simp, by simp, by simp [t5], by simp [t0]⟩
    · have hk0' : ¬ (k : Int) = 0 := by omega
      have hkp : 0 < k := by omega
      have hkp' : (0 : Int) < k := by omega
      have hr2 := fun L => cellAt_app hr1 L
      have he2 : ∀ L : Mem, rowEsz (M1 ++ L) id = some 3 := fun L => rowEsz_keeps (keeps_app L) he
      obtain ⟨_, _, ee, -, hcp⟩ := (h.keeps hK).at_ (show k - 1 < n by omega)
      cases ee
      have hldp := fun L => cellsAt_app (tempo_load hcp) L
      have et : ((k : Int) - 1).toNat = k - 1 := by omega
      simp (disch := omega) [t6, t4, t5, t0, hk0, hk0', hkp, hkp', hr2, he2, hldp, et, wrap_in]
      refine ⟨by omega, ?_⟩
      have hbk : fracB (el l (k - 1)).beat = true := (beatB_iff.1 (tempoB_iff.1 (hP.tempo (k - 1) (by omega))).1).1
      refine awCall_det' (compare_s (el l (k - 1)).beat (el l k).beat hbk f1) (by simp; omega) ?_
      by_cases f4 : cmpF (el l (k - 1)).beat (el l k).beat < 0
      case neg =>
        have e : tempB l = false := tempB_no fun hb => f4 ((tempA_iff.1 (tempB_iff.1 hb).1).2.2.2 k (by omega) hkp)
        have f4' : 0 ≤ cmpF (el l (k - 1)).beat (el l k).beat := by omega
        simp [f4, f4']
        exact PosR.no (hK.app _) e
      have f4' : ¬ 0 ≤ cmpF (el l (k - 1)).beat (el l k).beat := by omega
      have x0 : ∀ L : Mem, cellsAt (M1 ++ L) (M.length + 1) 0 2 = some [iv a.n, iv a.d] := fun L => cellsAt_app (cells_hrq hra rfl) L
      simp (disch := omega) [t6, t4, t5, t0, f4, f4', x0, wrap_in]
      have hon := posK_on hkp hP.at_
      refine awCall_det' (l17On_a (el l (k - 1)).beat (el l k).beat a (el l (k - 1)).s) (by simp; omega) ?_
      generalize onY (el l (k - 1)).beat (el l k).beat (el l (k - 1)).s a = a2 at hon ⊢
      by_cases f5 : onOk (el l (k - 1)).beat (el l k).beat (el l (k - 1)).s a = true
      case neg =>
        rw [if_neg f5] at hon
        have e : tempB l = false := tempB_no fun hb => by have := (tempB_iff.1 hb).2 k (by omega); rw [hon] at this; cases this
        simp (disch := omega) [f5]
        exact PosR.no (hK.app _) e
      rw [if_pos f5] at hon
      have hra' : ∀ L : Mem, (M1 ++ L)[M.length + 1]? = some (.live ⟨[iv a.n, iv a.d], true, true, 58, 2⟩) := fun L => by rw [List.getElem?_append_left (List.getElem?_eq_some_iff.1 hra).1]; exact hra
      simp (disch := omega) [t6, t4, t5, t0, f5, wrap_in]
      rw [put_whole (hra' _) (by omega) (by simp) (by simp)]
      simp only [ow_some]
      have hlen1 : M.length + 1 < M1.length := (List.getElem?_eq_some_iff.1 hra).1
      generalize hM2 : (M1 ++ _ : Mem) = M2
      have hS2 : Same M.length M1 M2 := by rw [← hM2]; exact Same.app' _ _ _
      have hA2 : Acc fracR 58 M.length M2 v ((posAll l).take k) := by rw [← hM2]; exact hA.keeps (keeps_app _)
      have hlen2 : M1.length ≤ M2.length := hS2.1
      have hr2 : (M2.set (M.length + 1) (.live ⟨[iv a2.n, iv a2.d], true, true, 58, 2⟩))[M.length + 1]? = some (.live ⟨[iv a2.n, iv a2.d], true, true, 58, 2⟩) := by rw [List.getElem?_set_self (by omega)]
      have hA3 := hA2.set_apart (s := .live ⟨[iv a2.n, iv a2.d], true, true, 58, 2⟩) hap
      have hS3 : Same M.length M1 (M2.set (M.length + 1) (.live ⟨[iv a2.n, iv a2.d], true, true, 58, 2⟩)) := hS2.tr (Same.setb (by omega))
      generalize M2.set (M.length + 1) (.live ⟨[iv a2.n, iv a2.d], true, true, 58, 2⟩) = M3 at hr2 hA3 hS3 ⊢
      have hc3 : cellsAt M3 (M.length + 1) 0 2 = some [iv a2.n, iv a2.d] := cells_hrq hr2 rfl
      simp (disch := omega) [t6, t4, t5, t0, hc3, wrap_in]
      have hlen3 := hS3.1
      refine Acc.append2 (R := fracR) (e := 58) (by_ := 16) (a := a2) (hA3.keeps (keeps_app _)) (Nat.le_refl _) (by simp; omega) (by omega) (by simp) (by kernel_rfl) (by simp [srcOf, fracR, Frac.row]) (by rfl) (by simp; omega) (by unfold maxLen; simp; omega) ?_
      intro v' M4 hA4 s4 ap4
      obtain ⟨hra4, hap4⟩ := ap4 (M.length + 1) _ hap (by simp only [St.M_mk]; rw [List.getElem?_append_left (List.getElem?_eq_some_iff.1 hr2).1]; exact hr2)
      refine lpI (m - 1) (by omega) ⟨k + 1, v', a2, by omega, ((hsm.tr hS3).tr (Same.app' _ _ _)).tr (by simpa using s4), ⟨?_, (fun _ => hP.first hkp), ?_, ?_, by rw [Nat.add_sub_cancel]; exact hon⟩, by rw [posAll_take (by omega) hon]; exact hA4, hap4, hra4, by simp, by simp, by simp [t5], by simp [t0]⟩
      · intro i hi
        by_cases hik : i = k
        · rw [hik]; exact htk
        · exact hP.tempo i (by omega)
      · intro i hi h0
        by_cases hik : i = k
        · rw [hik]; exact f4
        · exact hP.sort i (by omega) h0
      · intro i hi
        by_cases hik : i = k
        · rw [hik, hon]; rfl
        · exact hP.pos i (by omega)
  · obtain rfl : k = n := by omega
    simp [t6, t4, t0, hr1]
    rw [List.take_of_length_le (by rw [posAll_len]; omega)] at hA
    obtain ⟨A', q, c', rfl, hq, hsl, -⟩ := hA.sl
    rw [posAll_len] at hq
    obtain rfl : q = k := by omega
    have e : tempB l = true := TP.done (by rw [hl]; exact hP) (by rw [hl]; exact hin)
    exact PosR.yes hK e hsl
end Go.Proofs.Ytgaiejaegimilaa
