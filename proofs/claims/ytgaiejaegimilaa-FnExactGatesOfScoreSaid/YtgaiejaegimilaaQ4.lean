/- Fractions: sums, differences, products, order and beats, in both packages. No conditions. -/
import Derived.Test.YtgaiejaegimilaaQ3
namespace Go.Proofs.Ytgaiejaegimilaa
open Go.RowKit
set_option linter.unusedVariables false
set_option linter.unusedSimpArgs false
set_option maxRecDepth 100000
attribute [local simp] List.getElem?_cons_zero
attribute [local irreducible] awCond awCall awLoop awDraw ow retQ retC resQ Keeps
set_option maxHeartbeats 1000000 in
theorem MakeFrac_s {M : Mem} (n d : Int) (hn1 : -9223372036854775807 ≤ n) (hn2 : n ≤ 9223372036854775807) (hd1 : -9223372036854775807 ≤ d) (hd2 : d ≤ 9223372036854775807) : Det Try.prog M.length 70 [iv n, iv d] M (.tuple #[(mkF n d).1.v, iv (mkF n d).2]) M := by
  first | (refine det_fn Try.func70 rfl Try.ntmps70 Try.results70 rfl rfl rfl (by simp) ?_) | (refine det_fnC Try.func70 rfl Try.ntmps70 Try.results70 rfl rfl (by simp) ?_)
  simp
  by_cases h0 : d = 0
  · simp [h0, mkF, keeps_app]
  simp [h0]
  refine awCall_det' (mag_s n (by omega) (by omega)) (by simp) ?_
  try simp
  refine awCall_det' (mag_s d (by omega) (by omega)) (by simp) ?_
  try simp
  refine awCall_det' (gcd_s _ _ (by omega) (by omega)) (by simp) ?_
  have hg : 0 < n.natAbs.gcd d.natAbs := Nat.gcd_pos_of_pos_right _ (by omega)
  have hmk : mkF n d = if 1000000000 < qN n.natAbs (n.natAbs.gcd d.natAbs) ∨ 1000000 < qN d.natAbs (n.natAbs.gcd d.natAbs) then (⟨0, 0⟩, 2) else
      (⟨if (decide (n < 0) != decide (d < 0)) = true then -((qN n.natAbs (n.natAbs.gcd d.natAbs) : Nat) : Int) else ((qN n.natAbs (n.natAbs.gcd d.natAbs) : Nat) : Int), ((qN d.natAbs (n.natAbs.gcd d.natAbs) : Nat) : Int)⟩, 0) := by unfold mkF qN; rw [if_neg h0]
  rw [hmk]
  clear hmk
  have ba : n.natAbs < 9223372036854775808 := by omega
  have bc : d.natAbs < 9223372036854775808 := by omega
  generalize n.natAbs.gcd d.natAbs = g at *
  generalize n.natAbs = a at *
  generalize d.natAbs = c at *
  have hA := qN_le a g
  have hB := qN_le c g
  have hg0 : ¬ g = 0 := by omega
  simp [hg0, tdiv_q]
  rw [div_q, u64_in (x := ((qN a g : Nat) : Int)) (by omega) (by omega)]
  try simp [hg0, tdiv_q]
  rw [div_q, u64_in (x := ((qN c g : Nat) : Int)) (by omega) (by omega)]
  generalize qN a g = p at *
  generalize qN c g = q at *
  by_cases l1 : 1000000000 < p
  · have l1' : (1000000000 : Int) < p := by omega
    simp [l1, l1', fr_build0, keeps_app]
  · have l1' : ¬ (1000000000 : Int) < p := by omega
    by_cases l2 : 1000000 < q
    · have l2' : (1000000 : Int) < q := by omega
      simp [l1, l1', l2, l2', fr_build0, keeps_app]
    · have l2' : ¬ (1000000 : Int) < q := by omega
      by_cases k1 : n < 0
      · by_cases k2 : d < 0
        · simp (disch := omega) [l1, l1', l2, l2', k1, k2, wrap_in, fr_build, keeps_app]
        · simp (disch := omega) [l1, l1', l2, l2', k1, k2, wrap_in, fr_build, keeps_app]
      · by_cases k2 : d < 0
        · simp (disch := omega) [l1, l1', l2, l2', k1, k2, wrap_in, fr_build, keeps_app]
        · simp (disch := omega) [l1, l1', l2, l2', k1, k2, wrap_in, fr_build, keeps_app]
theorem fill_two {k : Nat} {z : List Value} {x y : Array Value} (hk : 0 < k) (hz : z.length = k) (hx : x.size = k) (hy : y.size = k) : Instr.fill (fun i => some (i * k, k)) (zrow z 2).toArray [(0, .agg x), (1, .agg y)] = some (x ++ y) := by
  have := Go.Great.fill_whole hk [.agg x, .agg y] (zrow z 2).toArray (by simp [hx, hy]) (by simp [zrow, hz]; omega)
  have e : (x.toList ++ y.toList).toArray = x ++ y := by apply Array.ext'; simp
  rw [← e]
  simpa using this
theorem fr_two (a b c d : Int) : Instr.fill (fun i => some (i * 2, 2)) (zrow [iv 0, iv 0] 2).toArray [(0, .agg #[iv a, iv b]), (1, .agg #[iv c, iv d])] = some #[iv a, iv b, iv c, iv d] := fill_two (by omega) rfl rfl rfl
theorem areFracs_i {M : Mem} {A : Option Addr} {n c : Nat} {l : List Frac} (h : Sl fracR M A n l) (hn : n ≤ 1099511627776) : Det Try.prog M.length 133 [.slice A n c] M (.bool (l.all fracB)) M := by
  have hl := h.1
  first | (refine det_fn Try.func133 rfl Try.ntmps133 Try.results133 rfl rfl rfl (by simp) ?_) | (refine det_fnC Try.func133 rfl Try.ntmps133 Try.results133 rfl rfl (by simp) ?_)
  simp
  refine awLoop_T (fun m T M' => ∃ k : Nat, k + m = n ∧ Keeps M M' ∧ (l.take k).all fracB = true ∧ look T 7 = some (iv k) ∧ look T 6 = some (iv n) ∧ look T 5 = some (.slice A n c)) n ⟨0, by omega, Keeps.refl _, by simp, by simp, by simp, by simp⟩ ?_
  rintro m T M' ⟨k, hm, hK, ha, h7, h6, h5⟩
  have hKl := hK.len
  by_cases hlt : k < n
  · obtain ⟨id, off, rfl, he, hc⟩ := (h.keeps hK).at_ hlt
    have hld := frac_load hc
    simp (disch := omega) [h7, h6, h5, hlt, he, hld]
    refine awCall_det' (isFrac_i (el l k)) (by simp; omega) ?_
    by_cases hb : fracB (el l k) = true
    · simp (disch := omega) [hb, h7, h6, h5, wrap_in]
      refine lpI (m - 1) (by omega) ⟨k + 1, by omega, hK.app _, by rw [take_el (by omega), List.all_append, ha]; simp [hb], by simp, by simp [h6], by simp [h5]⟩
    · have hno : l.all fracB = false := by
        rw [List.all_eq_false]
        exact ⟨el l k, el_mem (by omega), hb⟩
      simp [hb, hno, hK.app]
  · obtain rfl : k = n := by omega
    rw [List.take_of_length_le (by omega)] at ha
    simp [h7, h6, h5, ha, hK]
theorem AddFrac_i {M : Mem} (a b : Frac) : Det Try.prog M.length 95 [a.v, b.v] M (.tuple #[(addF a b).1.v, iv (addF a b).2]) M := by
  first | (refine det_fn Try.func95 rfl Try.ntmps95 Try.results95 rfl rfl rfl (by simp) ?_) | (refine det_fnC Try.func95 rfl Try.ntmps95 Try.results95 rfl rfl (by simp) ?_)
  simp [fr_two]
  have hsl : ∀ r1 r2 r3 : Slot, Sl fracR (M ++ [r1, r2, r3, .live ⟨[iv a.n, iv a.d, iv b.n, iv b.d], true, true, 58, 2⟩]) (some ⟨M.length + 3, 0, none⟩) 2 [a, b] := fun r1 r2 r3 =>
    ⟨rfl, fun _ => ⟨M.length + 3, 0, rfl, by simp [rowEsz], fun j x hx => by
      have hx' : [iv a.n, iv a.d, iv b.n, iv b.d][j]? = some x := hx
      simp [cellAt, hx']⟩⟩
  refine awCall_det' (areFracs_i (hsl _ _ _) (by omega)) (by simp) ?_
  by_cases ha : fracB a = true
  · by_cases hb : fracB b = true
    · obtain ⟨b1, b2, b3, b4⟩ := frac_bd ha hb
      simp (disch := omega) [ha, hb, wrap_in]
      refine awCall_det' (MakeFrac_i _ _ (by omega) (by omega) (by omega) (by omega)) (by simp) ?_
      have e : addF a b = mkF (a.n * b.d + b.n * a.d) (a.d * b.d) := by simp [addF, ha, hb]
      rw [e]
      simp [keeps_app]
    · have e : addF a b = (⟨0, 0⟩, 1) := by simp [addF, hb]
      simp [hb, e, fr_build0, keeps_app]
  · have e : addF a b = (⟨0, 0⟩, 1) := by simp [addF, ha]
    simp [ha, e, fr_build0, keeps_app]
theorem AddFrac_s {M : Mem} (a b : Frac) : Det Try.prog M.length 31 [a.v, b.v] M (.tuple #[(addF a b).1.v, iv (addF a b).2]) M := by
  first | (refine det_fn Try.func31 rfl Try.ntmps31 Try.results31 rfl rfl rfl (by simp) ?_) | (refine det_fnC Try.func31 rfl Try.ntmps31 Try.results31 rfl rfl (by simp) ?_)
  simp
  refine awCall_det' (l02Ok_a a) (by simp) ?_
  by_cases ha : fracB a = true
  · simp [ha]
    refine awCall_det' (l02Ok_a b) (by simp) ?_
    by_cases hb : fracB b = true
    · obtain ⟨b1, b2, b3, b4⟩ := frac_bd ha hb
      simp (disch := omega) [hb, wrap_in]
      refine awCall_det' (MakeFrac_s _ _ (by omega) (by omega) (by omega) (by omega)) (by simp) ?_
      have e : addF a b = mkF (a.n * b.d + b.n * a.d) (a.d * b.d) := by simp [addF, ha, hb]
      rw [e]
      simp [keeps_app]
    · have e : addF a b = (⟨0, 0⟩, 1) := by simp [addF, hb]
      simp [hb, e, fr_build0, keeps_app]
  · have e : addF a b = (⟨0, 0⟩, 1) := by simp [addF, ha]
    simp [ha, e, fr_build0, keeps_app]
theorem SubFrac_i {M : Mem} (a b : Frac) : Det Try.prog M.length 137 [a.v, b.v] M (.tuple #[(subF a b).1.v, iv (subF a b).2]) M := by
  first | (refine det_fn Try.func137 rfl Try.ntmps137 Try.results137 rfl rfl rfl (by simp) ?_) | (refine det_fnC Try.func137 rfl Try.ntmps137 Try.results137 rfl rfl (by simp) ?_)
  simp [fr_two]
  have hsl : ∀ r1 r2 r3 : Slot, Sl fracR (M ++ [r1, r2, r3, .live ⟨[iv a.n, iv a.d, iv b.n, iv b.d], true, true, 58, 2⟩]) (some ⟨M.length + 3, 0, none⟩) 2 [a, b] := fun r1 r2 r3 =>
    ⟨rfl, fun _ => ⟨M.length + 3, 0, rfl, by simp [rowEsz], fun j x hx => by
      have hx' : [iv a.n, iv a.d, iv b.n, iv b.d][j]? = some x := hx
      simp [cellAt, hx']⟩⟩
  refine awCall_det' (areFracs_i (hsl _ _ _) (by omega)) (by simp) ?_
  by_cases ha : fracB a = true
  · by_cases hb : fracB b = true
    · obtain ⟨b1, b2, b3, b4⟩ := frac_bd ha hb
      simp (disch := omega) [ha, hb, wrap_in]
      refine awCall_det' (MakeFrac_i _ _ (by omega) (by omega) (by omega) (by omega)) (by simp) ?_
      have e : subF a b = mkF (a.n * b.d - b.n * a.d) (a.d * b.d) := by simp [subF, ha, hb]
      rw [e]
      simp [keeps_app]
    · have e : subF a b = (⟨0, 0⟩, 1) := by simp [subF, hb]
      simp [hb, e, fr_build0, keeps_app]
  · have e : subF a b = (⟨0, 0⟩, 1) := by simp [subF, ha]
    simp [ha, e, fr_build0, keeps_app]
theorem SubFrac_s {M : Mem} (a b : Frac) : Det Try.prog M.length 142 [a.v, b.v] M (.tuple #[(subF a b).1.v, iv (subF a b).2]) M := by
  first | (refine det_fn Try.func142 rfl Try.ntmps142 Try.results142 rfl rfl rfl (by simp) ?_) | (refine det_fnC Try.func142 rfl Try.ntmps142 Try.results142 rfl rfl (by simp) ?_)
  simp
  refine awCall_det' (l02Ok_a a) (by simp) ?_
  by_cases ha : fracB a = true
  · simp [ha]
    refine awCall_det' (l02Ok_a b) (by simp) ?_
    by_cases hb : fracB b = true
    · obtain ⟨b1, b2, b3, b4⟩ := frac_bd ha hb
      simp (disch := omega) [hb, wrap_in]
      refine awCall_det' (MakeFrac_s _ _ (by omega) (by omega) (by omega) (by omega)) (by simp) ?_
      have e : subF a b = mkF (a.n * b.d - b.n * a.d) (a.d * b.d) := by simp [subF, ha, hb]
      rw [e]
      simp [keeps_app]
    · have e : subF a b = (⟨0, 0⟩, 1) := by simp [subF, hb]
      simp [hb, e, fr_build0, keeps_app]
  · have e : subF a b = (⟨0, 0⟩, 1) := by simp [subF, ha]
    simp [ha, e, fr_build0, keeps_app]
theorem MulFrac_i {M : Mem} (a b : Frac) : Det Try.prog M.length 138 [a.v, b.v] M (.tuple #[(mulF a b).1.v, iv (mulF a b).2]) M := by
  first | (refine det_fn Try.func138 rfl Try.ntmps138 Try.results138 rfl rfl rfl (by simp) ?_) | (refine det_fnC Try.func138 rfl Try.ntmps138 Try.results138 rfl rfl (by simp) ?_)
  simp [fr_two]
  have hsl : ∀ r1 r2 r3 : Slot, Sl fracR (M ++ [r1, r2, r3, .live ⟨[iv a.n, iv a.d, iv b.n, iv b.d], true, true, 58, 2⟩]) (some ⟨M.length + 3, 0, none⟩) 2 [a, b] := fun r1 r2 r3 =>
    ⟨rfl, fun _ => ⟨M.length + 3, 0, rfl, by simp [rowEsz], fun j x hx => by
      have hx' : [iv a.n, iv a.d, iv b.n, iv b.d][j]? = some x := hx
      simp [cellAt, hx']⟩⟩
  refine awCall_det' (areFracs_i (hsl _ _ _) (by omega)) (by simp) ?_
  by_cases ha : fracB a = true
  · by_cases hb : fracB b = true
    · obtain ⟨b1, b2, b3, b4⟩ := frac_bd ha hb
      simp (disch := omega) [ha, hb, wrap_in]
      refine awCall_det' (MakeFrac_i _ _ (by omega) (by omega) (by omega) (by omega)) (by simp) ?_
      have e : mulF a b = mkF (a.n * b.n) (a.d * b.d) := by simp [mulF, ha, hb]
      rw [e]
      simp [keeps_app]
    · have e : mulF a b = (⟨0, 0⟩, 1) := by simp [mulF, hb]
      simp [hb, e, fr_build0, keeps_app]
  · have e : mulF a b = (⟨0, 0⟩, 1) := by simp [mulF, ha]
    simp [ha, e, fr_build0, keeps_app]
theorem MulFrac_s {M : Mem} (a b : Frac) : Det Try.prog M.length 143 [a.v, b.v] M (.tuple #[(mulF a b).1.v, iv (mulF a b).2]) M := by
  first | (refine det_fn Try.func143 rfl Try.ntmps143 Try.results143 rfl rfl rfl (by simp) ?_) | (refine det_fnC Try.func143 rfl Try.ntmps143 Try.results143 rfl rfl (by simp) ?_)
  simp
  refine awCall_det' (l02Ok_a a) (by simp) ?_
  by_cases ha : fracB a = true
  · simp [ha]
    refine awCall_det' (l02Ok_a b) (by simp) ?_
    by_cases hb : fracB b = true
    · obtain ⟨b1, b2, b3, b4⟩ := frac_bd ha hb
      simp (disch := omega) [hb, wrap_in]
      refine awCall_det' (MakeFrac_s _ _ (by omega) (by omega) (by omega) (by omega)) (by simp) ?_
      have e : mulF a b = mkF (a.n * b.n) (a.d * b.d) := by simp [mulF, ha, hb]
      rw [e]
      simp [keeps_app]
    · have e : mulF a b = (⟨0, 0⟩, 1) := by simp [mulF, hb]
      simp [hb, e, fr_build0, keeps_app]
  · have e : mulF a b = (⟨0, 0⟩, 1) := by simp [mulF, ha]
    simp [ha, e, fr_build0, keeps_app]
theorem compare_i {M : Mem} (a b : Frac) (ha : fracB a = true) (hb : fracB b = true) : Det Try.prog M.length 101 [a.v, b.v] M (iv (cmpF a b)) M := by
  obtain ⟨b1, b2, b3, b4⟩ := frac_bd ha hb
  first | (refine det_fn Try.func101 rfl Try.ntmps101 Try.results101 rfl rfl rfl (by simp) ?_) | (refine det_fnC Try.func101 rfl Try.ntmps101 Try.results101 rfl rfl (by simp) ?_)
  simp (disch := omega) [wrap_in]
  unfold cmpF
  generalize a.n * b.d = x at *
  generalize b.n * a.d = y at *
  rcases Int.lt_trichotomy x y with h | h | h
  · have h1' : x - y < 0 := by omega
    simp [h1', keeps_app]
  · subst h
    simp [keeps_app]
  · have h1 : ¬ x < y := by omega
    have h2 : ¬ x - y < 0 := by omega
    have h3 : 0 < x - y := by omega
    rw [if_neg h2, if_pos h3]
    simp only [decide_eq_false h2, awCond_false]
    simp [h, keeps_app]
theorem compare_s {M : Mem} (a b : Frac) (ha : fracB a = true) (hb : fracB b = true) : Det Try.prog M.length 131 [a.v, b.v] M (iv (cmpF a b)) M := by
  obtain ⟨b1, b2, b3, b4⟩ := frac_bd ha hb
  first | (refine det_fn Try.func131 rfl Try.ntmps131 Try.results131 rfl rfl rfl (by simp) ?_) | (refine det_fnC Try.func131 rfl Try.ntmps131 Try.results131 rfl rfl (by simp) ?_)
  simp (disch := omega) [wrap_in]
  unfold cmpF
  generalize a.n * b.d = x at *
  generalize b.n * a.d = y at *
  rcases Int.lt_trichotomy x y with h | h | h
  · have h1' : x - y < 0 := by omega
    simp [h, h1', keeps_app]
  · subst h
    simp [keeps_app]
  · have h1 : ¬ x < y := by omega
    have h2 : ¬ x - y < 0 := by omega
    have h3 : 0 < x - y := by omega
    rw [if_neg h2, if_pos h3]
    simp only [decide_eq_false h1, awCond_false]
    simp [h, keeps_app]
def beatB (f : Frac) : Bool := fracB f && decide (0 ≤ f.n) && decide (f.n ≤ 1000 * f.d)
theorem whole_ok {n : Int} (h1 : -1000000000 ≤ n) (h2 : n ≤ 1000000000) : fracB ⟨n, 1⟩ = true := fracB_iff.2 ⟨by simp only; omega, by simp only; omega, Nat.gcd_one_right _⟩
theorem whole_i {M : Mem} (n : Int) : Det Try.prog M.length 136 [iv n] M (Frac.v ⟨n, 1⟩) M := by
  first | (refine det_fn Try.func136 rfl Try.ntmps136 Try.results136 rfl rfl rfl (by simp) ?_) | (refine det_fnC Try.func136 rfl Try.ntmps136 Try.results136 rfl rfl (by simp) ?_)
  simp [fr_build, keeps_app]
theorem isBeat_i {M : Mem} (f : Frac) : Det Try.prog M.length 100 [f.v] M (.bool (beatB f)) M := by
  first | (refine det_fn Try.func100 rfl Try.ntmps100 Try.results100 rfl rfl rfl (by simp) ?_) | (refine det_fnC Try.func100 rfl Try.ntmps100 Try.results100 rfl rfl (by simp) ?_)
  simp
  refine awDraw_E 10 [[],[0],[1,0],[2,1,0],[3,2,1,0],[4,3,2,1,0],[2,1,0,5,4,3],[6,2,1,0,5,4,3],[7,6,2,1,0,5,4,3],[7,6,2,1,0,5,4,3],[8,7,6,2,1,0,5,4,3,9],[10,8,7,6,2,1,0,5,4,3,9],[7,6,2,1,0,5,4,3,11,10,8,9],[12,7,6,2,1,0,5,4,3,11,10,8,9]] (by kernel_rfl) (by kernel_rfl) ?_
  simp
  refine awCall_det' (isFrac_i f) (by simp) ?_
  by_cases h1 : fracB f = true
  · have hb := fracB_iff.1 h1
    simp [h1]
    by_cases h2 : 0 ≤ f.n
    · simp [h2]
      refine awCall_det' (whole_i 1000) (by simp) ?_
      simp
      refine awCall_det' (compare_i f ⟨1000, 1⟩ h1 (whole_ok (by omega) (by omega))) (by simp) ?_
      have e : decide (cmpF f ⟨1000, 1⟩ ≤ 0) = decide (f.n ≤ 1000 * f.d) := by
        unfold cmpF
        simp only
        by_cases h3 : f.n ≤ 1000 * f.d
        · rw [decide_eq_true h3]
          split
          · rfl
          · rw [if_neg (by omega)]; rfl
        · rw [decide_eq_false h3, if_neg (by omega), if_pos (by omega)]
          rfl
      simp [e, beatB, h1, h2, keeps_app]
    · have e : beatB f = false := by simp [beatB, h2]
      simp [h2, e, keeps_app]
  · have e : beatB f = false := by simp [beatB, h1]
    simp [h1, e, keeps_app]
theorem l17Beat_a {M : Mem} (f : Frac) (h1 : fracB f = true) : Det Try.prog M.length 118 [f.v] M (.bool (beatB f)) M := by
  have hb := fracB_iff.1 h1
  first | (refine det_fn Try.func118 rfl Try.ntmps118 Try.results118 rfl rfl rfl (by simp) ?_) | (refine det_fnC Try.func118 rfl Try.ntmps118 Try.results118 rfl rfl (by simp) ?_)
  simp
  by_cases h2 : 0 ≤ f.n
  · simp (disch := omega) [h2, wrap_in, beatB, h1, keeps_app]
  · have e : beatB f = false := by simp [beatB, h2]
    simp [h2, e, keeps_app]
def floorF (f : Frac) : Int := if fracB f = true then f.n / f.d else 0
theorem floor_tdiv (a b : Int) (hb : 0 < b) : (if a.tmod b < 0 then a.tdiv b - 1 else a.tdiv b) = a / b := by
  have h3 := Int.mul_tdiv_add_tmod a b
  have h4 := Int.tmod_lt_of_pos a hb
  have h5 := Int.lt_tmod_of_pos a hb
  split
  · rename_i h
    have e : a = (a.tmod b + b) + b * (a.tdiv b - 1) := by rw [Int.mul_sub, Int.mul_one]; omega
    conv => rhs; rw [e]
    rw [Int.add_mul_ediv_left _ _ (by omega), Int.ediv_eq_zero_of_lt (by omega) (by omega)]
    omega
  · rename_i h
    have e : a = a.tmod b + b * a.tdiv b := by omega
    conv => rhs; rw [e]
    rw [Int.add_mul_ediv_left _ _ (by omega), Int.ediv_eq_zero_of_lt (by omega) (by omega)]
    omega
theorem tdiv_in {a b : Int} (ha : -1000000000 ≤ a) (ha2 : a ≤ 1000000000) (hb : 0 < b) : -1000000000 ≤ a.tdiv b ∧ a.tdiv b ≤ 1000000000 := by
  have h : (a.tdiv b).natAbs ≤ a.natAbs := by rw [Int.natAbs_tdiv]; exact Nat.div_le_self _ _
  omega
theorem floorDiv_i {M : Mem} (a b : Int) (ha : -1000000000 ≤ a) (ha2 : a ≤ 1000000000) (hb : 0 < b) : Det Try.prog M.length 159 [iv a, iv b] M (iv (a / b)) M := by
  have h := tdiv_in ha ha2 hb
  have hb0 : ¬ b = 0 := by omega
  first | (refine det_fn Try.func159 rfl Try.ntmps159 Try.results159 rfl rfl rfl (by simp) ?_) | (refine det_fnC Try.func159 rfl Try.ntmps159 Try.results159 rfl rfl (by simp) ?_)
  simp (disch := omega) [hb0, wrap_in]
  rw [← floor_tdiv a b hb]
  by_cases h2 : a.tmod b < 0
  · simp (disch := omega) [h2, wrap_in, Keeps.refl]
  · simp (disch := omega) [h2, wrap_in, Keeps.refl]
theorem floorDiv_s {M : Mem} (a b : Int) (ha : -1000000000 ≤ a) (ha2 : a ≤ 1000000000) (hb : 0 < b) : Det Try.prog M.length 72 [iv a, iv b] M (iv (a / b)) M := by
  have h := tdiv_in ha ha2 hb
  have hb0 : ¬ b = 0 := by omega
  first | (refine det_fn Try.func72 rfl Try.ntmps72 Try.results72 rfl rfl rfl (by simp) ?_) | (refine det_fnC Try.func72 rfl Try.ntmps72 Try.results72 rfl rfl (by simp) ?_)
  simp (disch := omega) [hb0, wrap_in]
  rw [← floor_tdiv a b hb]
  by_cases h2 : a.tmod b < 0
  · simp (disch := omega) [h2, wrap_in, Keeps.refl]
  · simp (disch := omega) [h2, wrap_in, Keeps.refl]
theorem FloorFrac_i {M : Mem} (f : Frac) : Det Try.prog M.length 140 [f.v] M (iv (floorF f)) M := by
  first | (refine det_fn Try.func140 rfl Try.ntmps140 Try.results140 rfl rfl rfl (by simp) ?_) | (refine det_fnC Try.func140 rfl Try.ntmps140 Try.results140 rfl rfl (by simp) ?_)
  simp
  refine awCall_det' (isFrac_i f) (by simp) ?_
  by_cases h1 : fracB f = true
  · have hb := fracB_iff.1 h1
    simp [h1]
    refine awCall_det' (floorDiv_i f.n f.d (by omega) (by omega) (by omega)) (by simp) ?_
    simp [floorF, h1, keeps_app]
  · simp [h1, floorF, keeps_app]
end Go.Proofs.Ytgaiejaegimilaa
