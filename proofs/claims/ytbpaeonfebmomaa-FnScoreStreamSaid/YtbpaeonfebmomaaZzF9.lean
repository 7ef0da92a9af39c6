/- Parts of the proof, together: Fractions: valid ones, sums and products, in both packages. Floors of quotients, in both packages. Fractions: sums, differences, products, order and beats, in both packages. Note: records in memory, and the laws' helpers on them. Score: a struct that holds a slice of records. Notes and scores: valid ones, in both packages. No conditions. -/
import Derived.Test.YtbpaeonfebmomaaZzF8
import Derived.Test.YtbpaeonfebmomaaZzF7
import Derived.Laws.StructEq
namespace Go.Proofs.Ytbpaeonfebmomaa
open Go.RowKit
set_option linter.unusedVariables false
set_option linter.unusedSimpArgs false
set_option maxRecDepth 100000
attribute [local simp] List.getElem?_cons_zero
attribute [local irreducible] awCond awCall awLoop awDraw ow retQ retC resQ Keeps
theorem isFrac_i {M : Mem} (f : Frac) : Det Try.prog M.length 97 [f.v] M (.bool (fracB f)) M := by
  first | (refine det_fn Try.func97 rfl Try.ntmps97 Try.results97 rfl rfl rfl (by simp) ?_) | (refine det_fnC Try.func97 rfl Try.ntmps97 Try.results97 rfl rfl (by simp) ?_)
  simp
  refine awDraw_E 15 [[],[0],[1,0],[2,1,0],[3,2,1,0],[4,3,2,1,0],[5,4,3,2,1,0],[3,2,1,0,6,5,4],[7,3,2,1,0,6,5,4],[8,7,3,2,1,0,6,5,4],[9,8,7,3,2,1,0,6,5,4],[10,9,8,7,3,2,1,0,6,5,4],[8,7,3,2,1,0,6,5,4],[12,8,7,3,2,1,0,6,5,4],[13,12,8,7,3,2,1,0,6,5,4],[11,10,9,8,7,3,2,1,0,6,5,4,14,13,12],[15,11,10,9,8,7,3,2,1,0,6,5,4,14,13,12],[8,7,3,2,1,0,6,5,4,16,15,11,10,9,14,13,12],[17,8,7,3,2,1,0,6,5,4,16,15,11,10,9,14,13,12]] (by kernel_rfl) (by kernel_rfl) ?_
  simp
  refine awCall_det' (within_a _ _ _) (by simp) ?_
  by_cases h1 : inB f.d 1 1000000 = true
  · have b1 := inB_iff.1 h1
    simp [h1]
    refine awCall_det' (within_a _ _ _) (by simp) ?_
    by_cases h2 : inB f.n (-1000000000) 1000000000 = true
    · have b2 := inB_iff.1 h2
      simp [h2]
      refine awCall_det' (mag_i _ (by omega) (by omega)) (by simp) ?_
      have e : IntKind.u64.wrap f.d = ((f.d.natAbs : Nat) : Int) := by rw [u64_in (by omega) (by omega)]; omega
      simp [e]
      refine awCall_det' (gcd_i _ _ (by omega) (by omega)) (by simp) ?_
      have eb : fracB f = decide (f.n.natAbs.gcd f.d.natAbs = 1) := by simp [fracB, h1, h2]
      rw [eb]
      by_cases h3 : f.n.natAbs.gcd f.d.natAbs = 1
      · simp [h3, keeps_app]
      · have h3' : ¬ ((f.n.natAbs.gcd f.d.natAbs : Nat) : Int) = 1 := by omega
        simp [h3, h3', keeps_app]
    · have eb : fracB f = false := by simp [fracB, h2]
      simp [h2, eb, keeps_app]
  · have eb : fracB f = false := by simp [fracB, h1]
    simp [h1, eb, keeps_app]
theorem l02Ok_a {M : Mem} (f : Frac) : Det Try.prog M.length 58 [f.v] M (.bool (fracB f)) M := by
  first | (refine det_fn Try.func58 rfl Try.ntmps58 Try.results58 rfl rfl rfl (by simp) ?_) | (refine det_fnC Try.func58 rfl Try.ntmps58 Try.results58 rfl rfl (by simp) ?_)
  simp
  refine awDraw_E 15 [[],[0],[1,0],[2,1,0],[3,2,1,0],[4,3,2,1,0],[5,4,3,2,1,0],[3,2,1,0,6,5,4],[7,3,2,1,0,6,5,4],[8,7,3,2,1,0,6,5,4],[9,8,7,3,2,1,0,6,5,4],[10,9,8,7,3,2,1,0,6,5,4],[8,7,3,2,1,0,6,5,4],[12,8,7,3,2,1,0,6,5,4],[13,12,8,7,3,2,1,0,6,5,4],[11,10,9,8,7,3,2,1,0,6,5,4,14,13,12],[15,11,10,9,8,7,3,2,1,0,6,5,4,14,13,12],[8,7,3,2,1,0,6,5,4,16,15,11,10,9,14,13,12],[17,8,7,3,2,1,0,6,5,4,16,15,11,10,9,14,13,12]] (by kernel_rfl) (by kernel_rfl) ?_
  simp
  refine awCall_det' (l00In_a _ _ _) (by simp) ?_
  by_cases h1 : inB f.d 1 1000000 = true
  · have b1 := inB_iff.1 h1
    simp [h1]
    refine awCall_det' (l00In_a _ _ _) (by simp) ?_
    by_cases h2 : inB f.n (-1000000000) 1000000000 = true
    · have b2 := inB_iff.1 h2
      simp [h2]
      refine awCall_det' (mag_s _ (by omega) (by omega)) (by simp) ?_
      have e : IntKind.u64.wrap f.d = ((f.d.natAbs : Nat) : Int) := by rw [u64_in (by omega) (by omega)]; omega
      simp [e]
      refine awCall_det' (gcd_s _ _ (by omega) (by omega)) (by simp) ?_
      have eb : fracB f = decide (f.n.natAbs.gcd f.d.natAbs = 1) := by simp [fracB, h1, h2]
      rw [eb]
      by_cases h3 : f.n.natAbs.gcd f.d.natAbs = 1
      · simp [h3, keeps_app]
      · have h3' : ¬ ((f.n.natAbs.gcd f.d.natAbs : Nat) : Int) = 1 := by omega
        simp [h3, h3', keeps_app]
    · have eb : fracB f = false := by simp [fracB, h2]
      simp [h2, eb, keeps_app]
  · have eb : fracB f = false := by simp [fracB, h1]
    simp [h1, eb, keeps_app]
theorem fr_build0 : Instr.fill (fun x => [(0, 1), (1, 1)][x]?) #[iv 0, iv 0] [] = some #[iv 0, iv 0] := by rfl
theorem fr_build (a b : Int) : Instr.fill (fun x => [(0, 1), (1, 1)][x]?) #[iv 0, iv 0] [(0, iv a), (1, iv b)] = some #[iv a, iv b] := by rfl
def qN (x y : Nat) : Nat := x / y
theorem qN_le (x y : Nat) : qN x y ≤ x := Nat.div_le_self _ _
theorem tdiv_q (x y : Nat) : ((x : Int)).tdiv y = ((qN x y : Nat) : Int) := tdiv_nat x y
theorem div_q (x y : Nat) : (x : Int) / y = ((qN x y : Nat) : Int) := rfl
/-- Two quotients by the same number, assigned at once. -/
structure RM (n0 : Nat) (T0 : List (Nat × Value)) (M : Mem) (a c g : Nat) (X : Nat → Bool) (S : St) : Prop where
  n : S.n = n0
  M : S.M = M
  t6 : look S.T 6 = some (uv (if X 6 = true then qN a g else a : Nat))
  t7 : look S.T 7 = some (uv (if X 7 = true then qN c g else c : Nat))
  t8 : look S.T 8 = some (uv g)
  c0 : X 0 = true → look S.T 20 = some (uv a)
  c1 : X 1 = true → look S.T 21 = some (uv g)
  c2 : X 2 = true → look S.T 22 = some (uv (qN a g : Nat))
  c3 : X 3 = true → look S.T 23 = some (uv c)
  c4 : X 4 = true → look S.T 24 = some (uv g)
  c5 : X 5 = true → look S.T 25 = some (uv (qN c g : Nat))
  d6 : X 6 = true → X 0 = true
  d7 : X 7 = true → X 3 = true
  rest : ∀ t, t ≠ 6 → t ≠ 7 → (t < 20 ∨ 25 < t) → look S.T t = look T0 t
def RMv (a c g : Nat) : Nat → Nat × Nat
  | 0 => (20, a)
  | 1 => (21, g)
  | 2 => (22, qN a g)
  | 3 => (23, c)
  | 4 => (24, g)
  | 5 => (25, qN c g)
  | 6 => (6, qN a g)
  | _ => (7, qN c g)
theorem RM.step {n0 : Nat} {T0 T : List (Nat × Value)} {M : Mem} {a c g k : Nat} {X : Nat → Bool} (h : RM n0 T0 M a c g X ⟨n0, T, M⟩) (hk : k < 8) (h6 : k = 6 → X 0 = true) (h7 : k = 7 → X 3 = true) : RM n0 T0 M a c g (upX X k) ⟨n0, ((RMv a c g k).1, uv (RMv a c g k).2) :: T, M⟩ := by
  obtain ⟨-, -, t6, t7, t8, c0, c1, c2, c3, c4, c5, d6, d7, rest⟩ := h
  simp only at t6 t7 t8 c0 c1 c2 c3 c4 c5 rest
  have up : ∀ {j : Nat}, upX X k j = true → j ≠ k → X j = true := fun {j} hj e => by rwa [upX_ne e] at hj
  have up2 : ∀ {j : Nat}, X j = true → upX X k j = true := fun {j} hj => by
    by_cases e : j = k
    · subst e; simp
    · rwa [upX_ne e]
  have dst : ∀ t : Nat, t ≠ (RMv a c g k).1 → look (((RMv a c g k).1, uv (RMv a c g k).2) :: T) t = look T t := fun t ht => look_other ht
  have same : look (((RMv a c g k).1, uv (RMv a c g k).2) :: T) (RMv a c g k).1 = some (uv (RMv a c g k).2) := look_same
  have hd : (RMv a c g k).1 = (if k < 6 then 20 + k else k) := by
    rcases k with _ | _ | _ | _ | _ | _ | _ | _ | k <;> first | omega | rfl
  have cl : ∀ (j t : Nat) (x : Nat), j < 6 → t = 20 + j → (RMv a c g j) = (t, x) → (X j = true → look T t = some (uv x)) → (upX X k j = true → look (((RMv a c g k).1, uv (RMv a c g k).2) :: T) t = some (uv x)) := by
    intro j t x hj ht hv hc hx
    by_cases e : j = k
    · subst e
      rw [hv]
      exact look_same
    · rw [dst t (by rw [hd]; split <;> omega)]
      exact hc (up hx e)
  refine ⟨rfl, rfl, ?_, ?_, ?_, cl 0 20 a (by omega) rfl rfl c0, cl 1 21 g (by omega) rfl rfl c1, cl 2 22 (qN a g) (by omega) rfl rfl c2, cl 3 23 c (by omega) rfl rfl c3, cl 4 24 g (by omega) rfl rfl c4, cl 5 25 (qN c g) (by omega) rfl rfl c5, fun hx => ?_, fun hx => ?_, fun t n6 n7 ht => ?_⟩
  · by_cases e : 6 = k
    · subst e; simp [RMv]
    · rw [dst 6 (by rw [hd]; split <;> omega), upX_ne e]; exact t6
  · by_cases e : 7 = k
    · subst e; simp [RMv]
    · rw [dst 7 (by rw [hd]; split <;> omega), upX_ne e]; exact t7
  · rw [dst 8 (by rw [hd]; split <;> omega)]; exact t8
  · by_cases e : 6 = k
    · exact up2 (h6 e.symm)
    · exact up2 (d6 (up hx e))
  · by_cases e : 7 = k
    · exact up2 (h7 e.symm)
    · exact up2 (d7 (up hx e))
  · show look (((RMv a c g k).1, uv (RMv a c g k).2) :: T) t = look T0 t
    rw [dst t (by rw [hd]; split <;> omega)]; exact rest t n6 n7 ht
set_option maxHeartbeats 1000000 in
theorem MakeFrac_i {M : Mem} (n d : Int) (hn1 : -9223372036854775807 ≤ n) (hn2 : n ≤ 9223372036854775807) (hd1 : -9223372036854775807 ≤ d) (hd2 : d ≤ 9223372036854775807) : Det Try.prog M.length 65 [iv n, iv d] M (.tuple #[(mkF n d).1.v, iv (mkF n d).2]) M := by
  first | (refine det_fn Try.func65 rfl Try.ntmps65 Try.results65 rfl rfl rfl (by simp) ?_) | (refine det_fnC Try.func65 rfl Try.ntmps65 Try.results65 rfl rfl (by simp) ?_)
  simp
  by_cases h0 : d = 0
  · simp [h0, mkF, keeps_app]
  simp [h0]
  refine awCall_det' (mag_i n (by omega) (by omega)) (by simp) ?_
  try simp
  refine awCall_det' (mag_i d (by omega) (by omega)) (by simp) ?_
  try simp
  refine awCall_det' (gcd_i _ _ (by omega) (by omega)) (by simp) ?_
  have hg : 0 < n.natAbs.gcd d.natAbs := Nat.gcd_pos_of_pos_right _ (by omega)
  have hmk : mkF n d = if 1000000000 < qN n.natAbs (n.natAbs.gcd d.natAbs) ∨ 1000000 < qN d.natAbs (n.natAbs.gcd d.natAbs) then (⟨0, 0⟩, 2) else
      (⟨if (decide (n < 0) != decide (d < 0)) = true then -((qN n.natAbs (n.natAbs.gcd d.natAbs) : Nat) : Int) else ((qN n.natAbs (n.natAbs.gcd d.natAbs) : Nat) : Int), ((qN d.natAbs (n.natAbs.gcd d.natAbs) : Nat) : Int)⟩, 0) := by unfold mkF qN; rw [if_neg h0]
  rw [hmk]
  clear hmk
  have ba : n.natAbs < 9223372036854775808 := by omega
  have bc : d.natAbs < 9223372036854775808 := by omega
  generalize n.natAbs.gcd d.natAbs = g at *
  generalize n.natAbs = a at *
  generalize d.natAbs = c at *
  have hA := qN_le a g
  have hB := qN_le c g
  have hg0 : ¬ g = 0 := by omega
  try simp
  have hbd : ∀ n : Nat, Region.binds Region.Mode.any ⟨n, Ground.data⟩ = true := fun _ => by rfl
  refine awDraw_I (RM _ _ _ a c g) (by kernel_rfl) (by kernel_rfl) ⟨rfl, rfl, by simp, by simp, by simp, fun h => by simp at h, fun h => by simp at h, fun h => by simp at h, fun h => by simp at h, fun h => by simp at h, fun h => by simp at h, fun h => by simp at h, fun h => by simp at h, fun t _ _ _ => rfl⟩ ?_ ?_
  · rintro X ⟨n', T, M'⟩ k o hI ho hX hd
    have hk : k < 8 := by have := (List.getElem?_eq_some_iff.1 ho).1; simpa using this
    obtain ⟨en, eM, t6, t7, t8, c0, c1, c2, c3, c4, c5, d6, d7, rest⟩ := id hI
    simp only at en eM t6 t7 t8 c0 c1 c2 c3 c4 c5
    subst en
    subst eM
    rcases k with _ | _ | _ | _ | _ | _ | _ | _ | k
    all_goals first | omega | (simp at ho; subst ho; simp [hbd] at hd; try simp at hX)
    · have x6 : X 6 = false := by
        cases h6 : X 6 with
        | false => rfl
        | true => rw [d6 h6] at hX; cases hX
      rw [x6] at t6
      simp at t6
      simp [t6]
      exact hI.step (k := 0) (by omega) (fun h => by omega) (fun h => by omega)
    · simp [t8]
      exact hI.step (k := 1) (by omega) (fun h => by omega) (fun h => by omega)
    · simp [c0 hd.1, c1 hd.2, hg0, tdiv_q]
      rw [div_q, u64_in (x := ((qN a g : Nat) : Int)) (by omega) (by omega)]
      exact hI.step (k := 2) (by omega) (fun h => by omega) (fun h => by omega)
    · have x7 : X 7 = false := by
        cases h7 : X 7 with
        | false => rfl
        | true => rw [d7 h7] at hX; cases hX
      rw [x7] at t7
      simp at t7
      simp [t7]
      exact hI.step (k := 3) (by omega) (fun h => by omega) (fun h => by omega)
    · simp [t8]
      exact hI.step (k := 4) (by omega) (fun h => by omega) (fun h => by omega)
    · simp [c3 hd.1, c4 hd.2.1, hg0, tdiv_q]
      rw [div_q, u64_in (x := ((qN c g : Nat) : Int)) (by omega) (by omega)]
      exact hI.step (k := 5) (by omega) (fun h => by omega) (fun h => by omega)
    · have x0 : X 0 = true := hd.2.1 (by rfl)
      simp [c2 hd.1]
      exact hI.step (k := 6) (by omega) (fun _ => x0) (fun h => by omega)
    · have x3 : X 3 = true := hd.2.2.2.2.2.1 (by rfl)
      simp [c5 hd.1]
      exact hI.step (k := 7) (by omega) (fun h => by omega) (fun _ => x3)
  · rintro X ⟨n', T, M'⟩ hX ⟨en, eM, t6, t7, t8, c0, c1, c2, c3, c4, c5, d6, d7, rest⟩
    simp only [hX 6 (by simp), hX 7 (by simp), if_true] at t6 t7 en eM
    subst en
    subst eM
    have r0 : look T 0 = _ := rest 0 (by omega) (by omega) (by omega)
    have r1 : look T 1 = _ := rest 1 (by omega) (by omega) (by omega)
    have r4 : look T 4 = _ := rest 4 (by omega) (by omega) (by omega)
    simp at r0 r1 r4
    simp [t6, t7, r0, r1, r4]
    generalize qN a g = p at *
    generalize qN c g = q at *
    by_cases l1 : 1000000000 < p
    · have l1' : (1000000000 : Int) < p := by omega
      simp [l1, l1', t6, t7, r0, r1, r4, fr_build0, keeps_app]
    · have l1' : ¬ (1000000000 : Int) < p := by omega
      by_cases l2 : 1000000 < q
      · have l2' : (1000000 : Int) < q := by omega
        simp [l1, l1', l2, l2', t6, t7, r0, r1, r4, fr_build0, keeps_app]
      · have l2' : ¬ (1000000 : Int) < q := by omega
        by_cases k1 : n < 0
        · by_cases k2 : d < 0
          · simp (disch := omega) [l1, l1', l2, l2', t6, t7, r0, r1, r4, k1, k2, wrap_in, fr_build, keeps_app]
          · simp (disch := omega) [l1, l1', l2, l2', t6, t7, r0, r1, r4, k1, k2, wrap_in, fr_build, keeps_app]
        · by_cases k2 : d < 0
          · simp (disch := omega) [l1, l1', l2, l2', t6, t7, r0, r1, r4, k1, k2, wrap_in, fr_build, keeps_app]
          · simp (disch := omega) [l1, l1', l2, l2', t6, t7, r0, r1, r4, k1, k2, wrap_in, fr_build, keeps_app]
end Go.Proofs.Ytbpaeonfebmomaa

namespace Go.Proofs.Ytbpaeonfebmomaa
open Go.RowKit
set_option linter.unusedVariables false
set_option linter.unusedSimpArgs false
set_option maxRecDepth 100000
attribute [local simp] List.getElem?_cons_zero
attribute [local irreducible] awCond awCall awLoop awDraw ow retQ retC resQ Keeps
theorem floor_tdiv (a b : Int) (hb : 0 < b) : (if a.tmod b < 0 then a.tdiv b - 1 else a.tdiv b) = a / b := by
  have h3 := Int.mul_tdiv_add_tmod a b
  have h4 := Int.tmod_lt_of_pos a hb
  have h5 := Int.lt_tmod_of_pos a hb
  split
  · rename_i h
    have e : a = (a.tmod b + b) + b * (a.tdiv b - 1) := by rw [Int.mul_sub, Int.mul_one]; omega
    conv => rhs; rw [e]
    rw [Int.add_mul_ediv_left _ _ (by omega), Int.ediv_eq_zero_of_lt (by omega) (by omega)]
    omega
  · rename_i h
    have e : a = a.tmod b + b * a.tdiv b := by omega
    conv => rhs; rw [e]
    rw [Int.add_mul_ediv_left _ _ (by omega), Int.ediv_eq_zero_of_lt (by omega) (by omega)]
    omega
theorem tdiv_in {a b : Int} (ha : -1000000000 ≤ a) (ha2 : a ≤ 1000000000) (hb : 0 < b) : -1000000000 ≤ a.tdiv b ∧ a.tdiv b ≤ 1000000000 := by
  have h : (a.tdiv b).natAbs ≤ a.natAbs := by rw [Int.natAbs_tdiv]; exact Nat.div_le_self _ _
  omega
end Go.Proofs.Ytbpaeonfebmomaa

namespace Go.Proofs.Ytbpaeonfebmomaa
open Go.RowKit
set_option linter.unusedVariables false
set_option linter.unusedSimpArgs false
set_option maxRecDepth 100000
attribute [local simp] List.getElem?_cons_zero
attribute [local irreducible] awCond awCall awLoop awDraw ow retQ retC resQ Keeps
set_option maxHeartbeats 1000000 in
theorem MakeFrac_s {M : Mem} (n d : Int) (hn1 : -9223372036854775807 ≤ n) (hn2 : n ≤ 9223372036854775807) (hd1 : -9223372036854775807 ≤ d) (hd2 : d ≤ 9223372036854775807) : Det Try.prog M.length 41 [iv n, iv d] M (.tuple #[(mkF n d).1.v, iv (mkF n d).2]) M := by
  first | (refine det_fn Try.func41 rfl Try.ntmps41 Try.results41 rfl rfl rfl (by simp) ?_) | (refine det_fnC Try.func41 rfl Try.ntmps41 Try.results41 rfl rfl (by simp) ?_)
  simp
  by_cases h0 : d = 0
  · simp [h0, mkF, keeps_app]
  simp [h0]
  refine awCall_det' (mag_s n (by omega) (by omega)) (by simp) ?_
  try simp
  refine awCall_det' (mag_s d (by omega) (by omega)) (by simp) ?_
  try simp
  refine awCall_det' (gcd_s _ _ (by omega) (by omega)) (by simp) ?_
  have hg : 0 < n.natAbs.gcd d.natAbs := Nat.gcd_pos_of_pos_right _ (by omega)
  have hmk : mkF n d = if 1000000000 < qN n.natAbs (n.natAbs.gcd d.natAbs) ∨ 1000000 < qN d.natAbs (n.natAbs.gcd d.natAbs) then (⟨0, 0⟩, 2) else
      (⟨if (decide (n < 0) != decide (d < 0)) = true then -((qN n.natAbs (n.natAbs.gcd d.natAbs) : Nat) : Int) else ((qN n.natAbs (n.natAbs.gcd d.natAbs) : Nat) : Int), ((qN d.natAbs (n.natAbs.gcd d.natAbs) : Nat) : Int)⟩, 0) := by unfold mkF qN; rw [if_neg h0]
  rw [hmk]
  clear hmk
  have ba : n.natAbs < 9223372036854775808 := by omega
  have bc : d.natAbs < 9223372036854775808 := by omega
  generalize n.natAbs.gcd d.natAbs = g at *
  generalize n.natAbs = a at *
  generalize d.natAbs = c at *
  have hA := qN_le a g
  have hB := qN_le c g
  have hg0 : ¬ g = 0 := by omega
  simp [hg0, tdiv_q]
  rw [div_q, u64_in (x := ((qN a g : Nat) : Int)) (by omega) (by omega)]
  try simp [hg0, tdiv_q]
  rw [div_q, u64_in (x := ((qN c g : Nat) : Int)) (by omega) (by omega)]
  generalize qN a g = p at *
  generalize qN c g = q at *
  by_cases l1 : 1000000000 < p
  · have l1' : (1000000000 : Int) < p := by omega
    simp [l1, l1', fr_build0, keeps_app]
  · have l1' : ¬ (1000000000 : Int) < p := by omega
    by_cases l2 : 1000000 < q
    · have l2' : (1000000 : Int) < q := by omega
      simp [l1, l1', l2, l2', fr_build0, keeps_app]
    · have l2' : ¬ (1000000 : Int) < q := by omega
      by_cases k1 : n < 0
      · by_cases k2 : d < 0
        · simp (disch := omega) [l1, l1', l2, l2', k1, k2, wrap_in, fr_build, keeps_app]
        · simp (disch := omega) [l1, l1', l2, l2', k1, k2, wrap_in, fr_build, keeps_app]
      · by_cases k2 : d < 0
        · simp (disch := omega) [l1, l1', l2, l2', k1, k2, wrap_in, fr_build, keeps_app]
        · simp (disch := omega) [l1, l1', l2, l2', k1, k2, wrap_in, fr_build, keeps_app]
theorem fill_two {k : Nat} {z : List Value} {x y : Array Value} (hk : 0 < k) (hz : z.length = k) (hx : x.size = k) (hy : y.size = k) : Instr.fill (fun i => some (i * k, k)) (zrow z 2).toArray [(0, .agg x), (1, .agg y)] = some (x ++ y) := by
  have := Go.Great.fill_whole hk [.agg x, .agg y] (zrow z 2).toArray (by simp [hx, hy]) (by simp [zrow, hz]; omega)
  have e : (x.toList ++ y.toList).toArray = x ++ y := by apply Array.ext'; simp
  rw [← e]
  simpa using this
theorem fr_two (a b c d : Int) : Instr.fill (fun i => some (i * 2, 2)) (zrow [iv 0, iv 0] 2).toArray [(0, .agg #[iv a, iv b]), (1, .agg #[iv c, iv d])] = some #[iv a, iv b, iv c, iv d] := fill_two (by omega) rfl rfl rfl
theorem areFracs_i {M : Mem} {A : Option Addr} {n c : Nat} {l : List Frac} (h : Sl fracR M A n l) (hn : n ≤ 1099511627776) : Det Try.prog M.length 80 [.slice A n c] M (.bool (l.all fracB)) M := by
  have hl := h.1
  first | (refine det_fn Try.func80 rfl Try.ntmps80 Try.results80 rfl rfl rfl (by simp) ?_) | (refine det_fnC Try.func80 rfl Try.ntmps80 Try.results80 rfl rfl (by simp) ?_)
  simp
  refine awLoop_T (fun m T M' => ∃ k : Nat, k + m = n ∧ Keeps M M' ∧ (l.take k).all fracB = true ∧ look T 7 = some (iv k) ∧ look T 6 = some (iv n) ∧ look T 5 = some (.slice A n c)) n ⟨0, by omega, Keeps.refl _, by simp, by simp, by simp, by simp⟩ ?_
  rintro m T M' ⟨k, hm, hK, ha, h7, h6, h5⟩
  have hKl := hK.len
  by_cases hlt : k < n
  · obtain ⟨id, off, rfl, he, hc⟩ := (h.keeps hK).at_ hlt
    have hld := frac_load hc
    simp (disch := omega) [h7, h6, h5, hlt, he, hld]
    refine awCall_det' (isFrac_i (el l k)) (by simp; omega) ?_
    by_cases hb : fracB (el l k) = true
    · simp (disch := omega) [hb, h7, h6, h5, wrap_in]
      refine lpI (m - 1) (by omega) ⟨k + 1, by omega, hK.app _, by rw [take_el (by omega), List.all_append, ha]; simp [hb], by simp, by simp [h6], by simp [h5]⟩
    · have hno : l.all fracB = false := by
        rw [List.all_eq_false]
        exact ⟨el l k, el_mem (by omega), hb⟩
      simp [hb, hno, hK.app]
  · obtain rfl : k = n := by omega
    rw [List.take_of_length_le (by omega)] at ha
    simp [h7, h6, h5, ha, hK]
theorem AddFrac_i {M : Mem} (a b : Frac) : Det Try.prog M.length 57 [a.v, b.v] M (.tuple #[(addF a b).1.v, iv (addF a b).2]) M := by
  first | (refine det_fn Try.func57 rfl Try.ntmps57 Try.results57 rfl rfl rfl (by simp) ?_) | (refine det_fnC Try.func57 rfl Try.ntmps57 Try.results57 rfl rfl (by simp) ?_)
  simp [fr_two]
  have hsl : ∀ r1 r2 r3 : Slot, Sl fracR (M ++ [r1, r2, r3, .live ⟨[iv a.n, iv a.d, iv b.n, iv b.d], true, true, 51, 2⟩]) (some ⟨M.length + 3, 0, none⟩) 2 [a, b] := fun r1 r2 r3 =>
    ⟨rfl, fun _ => ⟨M.length + 3, 0, rfl, by simp [rowEsz], fun j x hx => by
      have hx' : [iv a.n, iv a.d, iv b.n, iv b.d][j]? = some x := hx
      simp [cellAt, hx']⟩⟩
  refine awCall_det' (areFracs_i (hsl _ _ _) (by omega)) (by simp) ?_
  by_cases ha : fracB a = true
  · by_cases hb : fracB b = true
    · obtain ⟨b1, b2, b3, b4⟩ := frac_bd ha hb
      simp (disch := omega) [ha, hb, wrap_in]
      refine awCall_det' (MakeFrac_i _ _ (by omega) (by omega) (by omega) (by omega)) (by simp) ?_
      have e : addF a b = mkF (a.n * b.d + b.n * a.d) (a.d * b.d) := by simp [addF, ha, hb]
      rw [e]
      simp [keeps_app]
    · have e : addF a b = (⟨0, 0⟩, 1) := by simp [addF, hb]
      simp [hb, e, fr_build0, keeps_app]
  · have e : addF a b = (⟨0, 0⟩, 1) := by simp [addF, ha]
    simp [ha, e, fr_build0, keeps_app]
theorem AddFrac_s {M : Mem} (a b : Frac) : Det Try.prog M.length 29 [a.v, b.v] M (.tuple #[(addF a b).1.v, iv (addF a b).2]) M := by
  first | (refine det_fn Try.func29 rfl Try.ntmps29 Try.results29 rfl rfl rfl (by simp) ?_) | (refine det_fnC Try.func29 rfl Try.ntmps29 Try.results29 rfl rfl (by simp) ?_)
  simp
  refine awCall_det' (l02Ok_a a) (by simp) ?_
  by_cases ha : fracB a = true
  · simp [ha]
    refine awCall_det' (l02Ok_a b) (by simp) ?_
    by_cases hb : fracB b = true
    · obtain ⟨b1, b2, b3, b4⟩ := frac_bd ha hb
      simp (disch := omega) [hb, wrap_in]
      refine awCall_det' (MakeFrac_s _ _ (by omega) (by omega) (by omega) (by omega)) (by simp) ?_
      have e : addF a b = mkF (a.n * b.d + b.n * a.d) (a.d * b.d) := by simp [addF, ha, hb]
      rw [e]
      simp [keeps_app]
    · have e : addF a b = (⟨0, 0⟩, 1) := by simp [addF, hb]
      simp [hb, e, fr_build0, keeps_app]
  · have e : addF a b = (⟨0, 0⟩, 1) := by simp [addF, ha]
    simp [ha, e, fr_build0, keeps_app]












































































theorem compare_i {M : Mem} (a b : Frac) (ha : fracB a = true) (hb : fracB b = true) : Det Try.prog M.length 59 [a.v, b.v] M (iv (cmpF a b)) M := by
  obtain ⟨b1, b2, b3, b4⟩ := frac_bd ha hb
  first | (refine det_fn Try.func59 rfl Try.ntmps59 Try.results59 rfl rfl rfl (by simp) ?_) | (refine det_fnC Try.func59 rfl Try.ntmps59 Try.results59 rfl rfl (by simp) ?_)
  simp (disch := omega) [wrap_in]
  unfold cmpF
  generalize a.n * b.d = x at *
  generalize b.n * a.d = y at *
  rcases Int.lt_trichotomy x y with h | h | h
  · have h1' : x - y < 0 := by omega
    simp [h1', keeps_app]
  · subst h
    simp [keeps_app]
  · have h1 : ¬ x < y := by omega
    have h2 : ¬ x - y < 0 := by omega
    have h3 : 0 < x - y := by omega
    rw [if_neg h2, if_pos h3]
    simp only [decide_eq_false h2, awCond_false]
    simp [h, keeps_app]
theorem compare_s {M : Mem} (a b : Frac) (ha : fracB a = true) (hb : fracB b = true) : Det Try.prog M.length 79 [a.v, b.v] M (iv (cmpF a b)) M := by
  obtain ⟨b1, b2, b3, b4⟩ := frac_bd ha hb
  first | (refine det_fn Try.func79 rfl Try.ntmps79 Try.results79 rfl rfl rfl (by simp) ?_) | (refine det_fnC Try.func79 rfl Try.ntmps79 Try.results79 rfl rfl (by simp) ?_)
  simp (disch := omega) [wrap_in]
  unfold cmpF
  generalize a.n * b.d = x at *
  generalize b.n * a.d = y at *
  rcases Int.lt_trichotomy x y with h | h | h
  · have h1' : x - y < 0 := by omega
    simp [h, h1', keeps_app]
  · subst h
    simp [keeps_app]
  · have h1 : ¬ x < y := by omega
    have h2 : ¬ x - y < 0 := by omega
    have h3 : 0 < x - y := by omega
    rw [if_neg h2, if_pos h3]
    simp only [decide_eq_false h1, awCond_false]
    simp [h, keeps_app]
def beatB (f : Frac) : Bool := fracB f && decide (0 ≤ f.n) && decide (f.n ≤ 1000 * f.d)
theorem whole_ok {n : Int} (h1 : -1000000000 ≤ n) (h2 : n ≤ 1000000000) : fracB ⟨n, 1⟩ = true := fracB_iff.2 ⟨by simp only; omega, by simp only; omega, Nat.gcd_one_right _⟩
theorem whole_i {M : Mem} (n : Int) : Det Try.prog M.length 103 [iv n] M (Frac.v ⟨n, 1⟩) M := by
  first | (refine det_fn Try.func103 rfl Try.ntmps103 Try.results103 rfl rfl rfl (by simp) ?_) | (refine det_fnC Try.func103 rfl Try.ntmps103 Try.results103 rfl rfl (by simp) ?_)
  simp [fr_build, keeps_app]
theorem isBeat_i {M : Mem} (f : Frac) : Det Try.prog M.length 94 [f.v] M (.bool (beatB f)) M := by
  first | (refine det_fn Try.func94 rfl Try.ntmps94 Try.results94 rfl rfl rfl (by simp) ?_) | (refine det_fnC Try.func94 rfl Try.ntmps94 Try.results94 rfl rfl (by simp) ?_)
  simp
  refine awDraw_E 10 [[],[0],[1,0],[2,1,0],[3,2,1,0],[4,3,2,1,0],[2,1,0,5,4,3],[6,2,1,0,5,4,3],[7,6,2,1,0,5,4,3],[7,6,2,1,0,5,4,3],[8,7,6,2,1,0,5,4,3,9],[10,8,7,6,2,1,0,5,4,3,9],[7,6,2,1,0,5,4,3,11,10,8,9],[12,7,6,2,1,0,5,4,3,11,10,8,9]] (by kernel_rfl) (by kernel_rfl) ?_
  simp
  refine awCall_det' (isFrac_i f) (by simp) ?_
  by_cases h1 : fracB f = true
  · have hb := fracB_iff.1 h1
    simp [h1]
    by_cases h2 : 0 ≤ f.n
    · simp [h2]
      refine awCall_det' (whole_i 1000) (by simp) ?_
      simp
      refine awCall_det' (compare_i f ⟨1000, 1⟩ h1 (whole_ok (by omega) (by omega))) (by simp) ?_
      have e : decide (cmpF f ⟨1000, 1⟩ ≤ 0) = decide (f.n ≤ 1000 * f.d) := by
        unfold cmpF
        simp only
        by_cases h3 : f.n ≤ 1000 * f.d
        · rw [decide_eq_true h3]
          split
          · rfl
          · rw [if_neg (by omega)]; rfl
        · rw [decide_eq_false h3, if_neg (by omega), if_pos (by omega)]
          rfl
      simp [e, beatB, h1, h2, keeps_app]
    · have e : beatB f = false := by simp [beatB, h2]
      simp [h2, e, keeps_app]
  · have e : beatB f = false := by simp [beatB, h1]
    simp [h1, e, keeps_app]
theorem l17Beat_a {M : Mem} (f : Frac) (h1 : fracB f = true) : Det Try.prog M.length 72 [f.v] M (.bool (beatB f)) M := by
  have hb := fracB_iff.1 h1
  first | (refine det_fn Try.func72 rfl Try.ntmps72 Try.results72 rfl rfl rfl (by simp) ?_) | (refine det_fnC Try.func72 rfl Try.ntmps72 Try.results72 rfl rfl (by simp) ?_)
  simp
  by_cases h2 : 0 ≤ f.n
  · simp (disch := omega) [h2, wrap_in, beatB, h1, keeps_app]
  · have e : beatB f = false := by simp [beatB, h2]
    simp [h2, e, keeps_app]
def floorF (f : Frac) : Int := if fracB f = true then f.n / f.d else 0










end Go.Proofs.Ytbpaeonfebmomaa

namespace Go.Proofs.Ytbpaeonfebmomaa
open Go.RowKit
set_option linter.unusedVariables false
set_option linter.unusedSimpArgs false
set_option maxRecDepth 100000
attribute [local simp] List.getElem?_cons_zero
attribute [local irreducible] awCond awCall awLoop awDraw ow retQ retC resQ Keeps
structure Note where
  (an ad ln ld k u o : Int)
deriving Inhabited, DecidableEq
def Note.row (c : Note) : List Value := [iv c.an, iv c.ad, iv c.ln, iv c.ld, iv c.k, iv c.u, iv c.o]
def noteR : RecV Note 7 := ⟨Note.row, fun _ => rfl⟩
abbrev Note.v (c : Note) : Value := .agg #[iv c.an, iv c.ad, iv c.ln, iv c.ld, iv c.k, iv c.u, iv c.o]
theorem note_cells {M : Mem} {id off : Nat} {g : Note} (h : Cl M id off g.row) : cellAt M id off = some (iv g.an) ∧ cellAt M id (off + 1) = some (iv g.ad) ∧ cellAt M id (off + 2) = some (iv g.ln) ∧ cellAt M id (off + 3) = some (iv g.ld) ∧ cellAt M id (off + 4) = some (iv g.k) ∧ cellAt M id (off + 5) = some (iv g.u) ∧ cellAt M id (off + 6) = some (iv g.o) :=
  ⟨h 0 _ rfl, h 1 _ rfl, h 2 _ rfl, h 3 _ rfl, h 4 _ rfl, h 5 _ rfl, h 6 _ rfl⟩
theorem note_load {M : Mem} {id off : Nat} {g : Note} (h : Cl M id off g.row) : cellsAt M id off 7 = some [iv g.an, iv g.ad, iv g.ln, iv g.ld, iv g.k, iv g.u, iv g.o] := cellsAt_of h rfl (by omega)
theorem note_eq {a b : Note} : a = b ↔ a.an = b.an ∧ a.ad = b.ad ∧ a.ln = b.ln ∧ a.ld = b.ld ∧ a.k = b.k ∧ a.u = b.u ∧ a.o = b.o := by
  cases a; cases b; simp
def noteI : Ints noteR := ⟨fun zs => ⟨gi zs 0, gi zs 1, gi zs 2, gi zs 3, gi zs 4, gi zs 5, gi zs 6⟩, fun zs h => by
  obtain ⟨x0, x1, x2, x3, x4, x5, x6, rfl⟩ : ∃ x0 x1 x2 x3 x4 x5 x6, zs = [x0, x1, x2, x3, x4, x5, x6] := by
    match zs, h with
    | [x0, x1, x2, x3, x4, x5, x6], _ => exact ⟨x0, x1, x2, x3, x4, x5, x6, rfl⟩
  rfl⟩

/-- Equality of records, as the language has it. -/
theorem note_same (a b : Note) : aggEq Try.prog 53 #[iv a.an, iv a.ad, iv a.ln, iv a.ld, iv a.k, iv a.u, iv a.o] #[iv b.an, iv b.ad, iv b.ln, iv b.ld, iv b.k, iv b.u, iv b.o] = some (decide (a = b)) := by
  refine aggEq_of (by kernel_rfl) rfl rfl fun w => ?_
  unfold Op.equal
  rw [show Op.maxDepth = 9999 + 1 from rfl]
  rw [run_equalIn_agg _ _ _ _ _ Try.underlying53 (by kernel_rfl)]
  simp [go_sem]
  repeat' split
  all_goals simp_all [note_eq]
theorem note_eql (a b : Note) : binV Try.prog .eql 53 (.agg #[iv a.an, iv a.ad, iv a.ln, iv a.ld, iv a.k, iv a.u, iv a.o]) (.agg #[iv b.an, iv b.ad, iv b.ln, iv b.ld, iv b.k, iv b.u, iv b.o]) = some (.bool (decide (a = b))) := by
  simp only [binV, eqV, Try.underlying53, note_same, Option.map_some]
theorem note_neq (a b : Note) : binV Try.prog .neq 53 (.agg #[iv a.an, iv a.ad, iv a.ln, iv a.ld, iv a.k, iv a.u, iv a.o]) (.agg #[iv b.an, iv b.ad, iv b.ln, iv b.ld, iv b.k, iv b.u, iv b.o]) = some (.bool (!decide (a = b))) := by
  simp only [binV, eqV, Try.underlying53, note_same, Option.map_some]
@[simp] theorem note_fill (x0 x1 x2 x3 x4 x5 x6 : Int) : Instr.fill (fun i => some (i * 7, 7)) (zrow [iv 0, iv 0, iv 0, iv 0, iv 0, iv 0, iv 0] 1).toArray [(0, .agg #[iv x0, iv x1, iv x2, iv x3, iv x4, iv x5, iv x6])] = some #[iv x0, iv x1, iv x2, iv x3, iv x4, iv x5, iv x6] := fill_agg (by omega) rfl rfl
theorem eqNote_a {M : Mem} (a b : Note) : Det Try.prog M.length 75 [a.v, b.v] M (.bool (decide (a = b))) M := by
  first | (refine det_fn Try.func75 rfl Try.ntmps75 Try.results75 rfl rfl rfl (by simp) ?_) | (refine det_fnC Try.func75 rfl Try.ntmps75 Try.results75 rfl rfl (by simp) ?_)
  simp
  refine awCall_det' (eqFrac_a ⟨a.an, a.ad⟩ ⟨b.an, b.ad⟩) (by simp) ?_
  by_cases e0 : (⟨a.an, a.ad⟩ : Frac) = ⟨b.an, b.ad⟩
  case' neg => simp [e0, keeps_app]; intro e; subst e; exact absurd rfl e0
  simp only [frac_eq] at e0
  simp [e0]
  refine awCall_det' (eqFrac_a ⟨a.ln, a.ld⟩ ⟨b.ln, b.ld⟩) (by simp) ?_
  by_cases e1 : (⟨a.ln, a.ld⟩ : Frac) = ⟨b.ln, b.ld⟩
  case' neg => simp [e1, keeps_app]; intro e; subst e; exact absurd rfl e1
  simp only [frac_eq] at e1
  simp [e1]
  repeat' (first | (refine awCond_split ?_ ?_ <;> intro _) | (simp [keeps_app]))
  all_goals (simp_all [note_eq])
theorem eqNoteS_a {M : Mem} {A B : Option Addr} {n c m d : Nat} {x y : List Note} (hx : Sl noteR M A n x) (hy : Sl noteR M B m y) (hn : n ≤ 1099511627776) : Det Try.prog M.length 46 [.slice A n c, .slice B m d] M (.bool (decide (x = y))) M := by
  have hlx := hx.1
  have hly := hy.1
  first | (refine det_fn Try.func46 rfl Try.ntmps46 Try.results46 rfl rfl rfl (by simp) ?_) | (refine det_fnC Try.func46 rfl Try.ntmps46 Try.results46 rfl rfl (by simp) ?_)
  simp
  refine awCond_split ?_ ?_ <;> intro hnm
  · simp at hnm
    simp
    exact ⟨fun e => by subst e; omega, Keeps.refl _⟩
  · simp at hnm
    obtain rfl : n = m := by omega
    simp
    refine awLoop_T (fun m T M' => ∃ k : Nat, k + m = n ∧ M' = M ∧ look T 5 = some (iv k) ∧ look T 0 = some (.slice A n c) ∧ look T 1 = some (.slice B n d) ∧ x.take k = y.take k) n ⟨0, by omega, rfl, by simp, by simp, by simp, by simp⟩ ?_
    rintro m T M' ⟨k, hm, rfl, h4, h0, h1, hk⟩
    by_cases hlt : k < n
    · obtain ⟨id, off, rfl, he, hc⟩ := hx.at_ hlt
      obtain ⟨id', off', rfl, he', hc'⟩ := hy.at_ hlt
      simp (disch := omega) [h4, h0, h1, hlt, wrap_in]
      refine awDraw_E 8 [[],[],[0,1],[2,0,1],[],[],[4,5],[6,4,5],[3,2,0,1,7,6,4,5],[8,3,2,0,1,7,6,4,5]] (by kernel_rfl) (by kernel_rfl) ?_
      simp (disch := omega) [h4, h0, h1, hlt, wrap_in, note_load hc, note_load hc']
      refine awCall_det' (eqNote_a (el x k) (el y k)) (Nat.le_refl _) ?_
      simp
      refine awCond_split ?_ ?_ <;> intro he
      · simp at he
        simp
        exact ⟨fun e => he (by rw [e]), Keeps.refl _⟩
      · simp at he
        simp (disch := omega) [h4, h0, h1, wrap_in]
        refine lpI (m - 1) (by omega) ?_
        exact ⟨k + 1, by omega, rfl, by simp, by simp [h0], by simp [h1], by rw [take_el (by omega), take_el (by omega), hk, he]⟩
    · obtain rfl : k = n := by omega
      rw [List.take_of_length_le (by omega), List.take_of_length_le (by omega)] at hk
      simp [h4, h0, h1, hk, Keeps.refl]
def markNote (z : Int) (i : Nat) : Note := ⟨z + i * 7, z + i * 7 + 1, z + i * 7 + 1 + 1, z + i * 7 + 1 + 1 + 1, z + i * 7 + 1 + 1 + 1 + 1, z + i * 7 + 1 + 1 + 1 + 1 + 1, z + i * 7 + 1 + 1 + 1 + 1 + 1 + 1⟩
def markNoteL (z : Int) (n : Nat) : List Note := (List.range n).map (markNote z)
theorem markNoteL_succ (z : Int) (n : Nat) : markNoteL z (n + 1) = markNoteL z n ++ [markNote z n] := by simp [markNoteL, List.range_succ]
theorem markNoteS_a {M : Mem} {b : Nat} {A : Option Addr} {n c : Nat} {x : List Note} (z : Int) (hx : Sl noteR M A n x) (ho : Ownd M A n) (hb : ∀ a, A = some a → 0 < n → b ≤ a.block) (hn : n ≤ 1099511627776) (hz0 : 0 ≤ z) (hz : z ≤ 1152921504606846976) :
    Ctr Try.prog b 48 [.slice A n c, iv z] M fun v M' => v = iv (z + n * 7) ∧ Sl noteR M' A n (markNoteL z n) ∧ Ownd M' A n ∧ Turned A n M M' := by
  have hlx := hx.1
  rcases Nat.eq_zero_or_pos n with rfl | hp
  · first | (refine ctr_fn Try.func48 rfl Try.ntmps48 Try.results48 rfl rfl (by simp) ?_) | (refine ctr_fnC Try.func48 rfl Try.ntmps48 Try.results48 rfl (by simp) ?_)
    simp
    refine awLoop_T (fun m T M' => M' = M ∧ look T 1 = some (iv z) ∧ look T 5 = some (iv 0) ∧ look T 0 = some (.slice A 0 c)) 0 ⟨rfl, by simp, by simp, by simp⟩ ?_
    rintro m T M' ⟨rfl, h1, h3, h0⟩
    simp [h1, h3, h0]
    obtain rfl := List.eq_nil_of_length_eq_zero hlx
    exact ⟨hx, ho, rfl, fun i s hs _ => hs⟩
  · obtain ⟨id, off, r, rfl, hr, ho⟩ := ho hp
    have hid := (List.getElem?_eq_some_iff.1 hr).1
    obtain ⟨hz5, hlen⟩ := hx.cells hr hp (by omega)
    have hb' : b ≤ id := hb _ rfl hp
    obtain ⟨cs, own, t, e, esz⟩ := r
    simp only at hz5 hlen ho
    subst hz5 ho
    have hM : M = M.set id (.live ⟨cs.take off ++ cellsL noteR (markNoteL z 0) ++ cs.drop (off + 0 * 7), true, t, e, 7⟩) := by
      rw [set_self]
      simp [markNoteL, cellsL_nil, hr]
    first | (refine ctr_fn Try.func48 rfl Try.ntmps48 Try.results48 rfl rfl (by simp) ?_) | (refine ctr_fnC Try.func48 rfl Try.ntmps48 Try.results48 rfl (by simp) ?_)
    simp
    refine awLoop_T (fun m T M' => ∃ j : Nat, j + m = n ∧ M' = M.set id (.live ⟨cs.take off ++ cellsL noteR (markNoteL z j) ++ cs.drop (off + j * 7), true, t, e, 7⟩) ∧ look T 5 = some (iv j) ∧ look T 1 = some (iv (z + j * 7)) ∧ look T 0 = some (.slice (some ⟨id, off, none⟩) n c)) n ⟨0, by omega, hM, by simp, by simp, by simp⟩ ?_
    rintro m T M' ⟨j, hm, rfl, h5, h1, h0⟩
    have hlm : (markNoteL z j).length = j := by simp [markNoteL]
    by_cases hlt : j < n
    · have hsp := splice_mid noteR (cs := cs) (off := off) (a := markNote z j) hlm (by omega)
      have hlc : (cs.take off ++ cellsL noteR (markNoteL z j) ++ cs.drop (off + j * 7)).length = cs.length := by
        simp only [List.length_append, List.length_take, List.length_drop, cellsL_len, hlm]; omega
      generalize cs.take off ++ cellsL noteR (markNoteL z j) ++ cs.drop (off + j * 7) = Cs at hsp hlc ⊢
      simp (disch := first | omega | (simp <;> omega)) [h5, h1, h0, hlt, wrap_in, rowEsz_set hid, put_set hid hb']
      refine lpI (m - 1) (by omega) ?_
      refine ⟨j + 1, by omega, ?_, by simp, by simp; omega, by simp [h0]⟩
      rw [markNoteL_succ, ← hsp]
      rfl
    · obtain rfl : j = n := by omega
      have hS := Sl.set (R := noteR) (M := M) (pre := cs.take off) (post := cs.drop (off + j * 7)) (o := true) (t := t) (e := e) hid (List.length_take_of_le (by omega)) hlm
      have hO : Ownd (M.set id (.live ⟨cs.take off ++ cellsL noteR (markNoteL z j) ++ cs.drop (off + j * 7), true, t, e, 7⟩)) (some ⟨id, off, none⟩) j := fun _ => ⟨_, _, _, rfl, List.getElem?_set_self hid, rfl⟩
      have hT : Turned (some ⟨id, off, none⟩) j M (M.set id (.live ⟨cs.take off ++ cellsL noteR (markNoteL z j) ++ cs.drop (off + j * 7), true, t, e, 7⟩)) := set_turned hp
      generalize M.set id (.live ⟨cs.take off ++ cellsL noteR (markNoteL z j) ++ cs.drop (off + j * 7), true, t, e, 7⟩) = M' at hS hO hT ⊢
      simp [h5, h1, h0]
      exact ⟨hS, hO, hT⟩
theorem heldNoteS_a {M : Mem} {A : Option Addr} {n c : Nat} (z : Int) (hx : Sl noteR M A n (markNoteL z n)) (hn : n ≤ 1099511627776) (hz0 : 0 ≤ z) (hz : z ≤ 1152921504606846976) :
    Det Try.prog M.length 49 [.slice A n c, iv z] M (iv (z + n * 7)) M := by
  first | (refine det_fn Try.func49 rfl Try.ntmps49 Try.results49 rfl rfl rfl (by simp) ?_) | (refine det_fnC Try.func49 rfl Try.ntmps49 Try.results49 rfl rfl (by simp) ?_)
  simp
  refine awLoop_T (fun m T M' => ∃ j : Nat, j + m = n ∧ M' = M ∧ look T 5 = some (iv j) ∧ look T 1 = some (iv (z + j * 7)) ∧ look T 0 = some (.slice A n c)) n ⟨0, by omega, rfl, by simp, by simp, by simp⟩ ?_
  rintro m T M' ⟨j, hm, rfl, h5, h1, h0⟩
  by_cases hlt : j < n
  · obtain ⟨id, off, rfl, he, hc⟩ := hx.at_ hlt
    rw [show el (markNoteL z n) j = markNote z j by simp [markNoteL, el, hlt]] at hc
    obtain ⟨c0, c1, c2, c3, c4, c5, c6⟩ := note_cells hc
    simp (disch := omega) [h5, h1, h0, hlt, wrap_in, c0, c1, c2, c3, c4, c5, c6, markNote]
    refine lpI (m - 1) (by omega) ?_
    exact ⟨j + 1, by omega, rfl, by simp, by simp; omega, by simp [h0]⟩
  · obtain rfl : j = n := by omega
    simp [h5, h1, h0, Keeps.refl]
/-! The same, as the laws use them. -/
theorem eq_NoteS {M : Mem} {v w : Value} {lo hi lo' hi' : Nat} {x y : List Note} (hx : OwL noteR lo hi M v x) (hy : RdL noteR lo' hi' M w y) : Det Try.prog M.length 46 [v, w] M (.bool (decide (x = y))) M := by
  obtain ⟨A, n, c, rfl, hn, hS, _⟩ := hx
  obtain ⟨B, m, d, rfl, hm, hT, _⟩ := hy
  exact eqNoteS_a hS hT hn
theorem mark_NoteS {M : Mem} {b : Nat} {v : Value} {lo hi : Nat} {l : List Note} {z : Int} (h : OwL noteR lo hi M v l) (hb : b ≤ lo) (hz : 0 ≤ z) (hz1 : z ≤ 1152921504606846976) :
    Ctr Try.prog b 48 [v, iv z] M fun r M' => r = iv (z + l.length * 7) ∧ OwL noteR lo hi M' v (markNoteL z l.length) ∧ Turn lo hi M M' := by
  obtain ⟨A, n, c, rfl, hn, hS, hi', ho⟩ := h
  exact (markNoteS_a z hS ho (fun a e hp => by have := hi' a e hp; omega) hn hz hz1).mono fun r M' ⟨h1, h2, h3, h4⟩ => ⟨by rw [h1, hS.1], ⟨A, n, c, rfl, hn, by rw [hS.1]; exact h2, hi', h3⟩, Nat.le_of_eq h4.1.symm, fun i s hs hd => h4.2 i s hs fun a e hp => by have := hi' a e hp; omega⟩
theorem held_NoteS {M : Mem} {v : Value} {lo hi m : Nat} {z : Int} (h : OwL noteR lo hi M v (markNoteL z m)) (hz : 0 ≤ z) (hz1 : z ≤ 1152921504606846976) : Det Try.prog M.length 49 [v, iv z] M (iv (z + m * 7)) M := by
  obtain ⟨A, n, c, rfl, hn, hS, _⟩ := h
  have hm : m = n := by have := hS.1; simpa [markNoteL] using this
  subst hm
  exact heldNoteS_a z hS hn hz hz1
end Go.Proofs.Ytbpaeonfebmomaa

namespace Go.Proofs.Ytbpaeonfebmomaa
open Go.RowKit
set_option linter.unusedVariables false
set_option linter.unusedSimpArgs false
set_option maxRecDepth 100000
attribute [local simp] List.getElem?_cons_zero
attribute [local irreducible] awCond awCall awLoop awDraw ow retQ retC resQ Keeps
theorem eq_Score {M : Mem} {v w : Value} {lo hi lo' hi' : Nat} {x y : List Note} (hx : OwL noteR lo hi M v x) (hy : RdL noteR lo' hi' M w y) : Det Try.prog M.length 17 [.agg #[v], .agg #[w]] M (.bool (decide (x = y))) M := by
  first | (refine det_fn Try.func17 rfl Try.ntmps17 Try.results17 rfl rfl rfl (by simp) ?_) | (refine det_fnC Try.func17 rfl Try.ntmps17 Try.results17 rfl rfl (by simp) ?_)
  simp
  refine awCall_det' (eq_NoteS (hx.keeps (keeps_app _)) (hy.keeps (keeps_app _))) (by simp) ?_
  by_cases e : x = y
  · simp [keeps_app, e]
  · simp [keeps_app, e]
theorem mark_Score {M : Mem} {b : Nat} {v : Value} {lo hi : Nat} {l : List Note} {z : Int} (h : OwL noteR lo hi M v l) (hb : b ≤ lo) (hz : 0 ≤ z) (hz1 : z ≤ 1152921504606846976) :
    Ctr Try.prog b 20 [.agg #[v], iv z] M fun r M' => r = iv (z + l.length * 7) ∧ OwL noteR lo hi M' v (markNoteL z l.length) ∧ Turn lo hi M M' := by
  first | (refine ctr_fn Try.func20 rfl Try.ntmps20 Try.results20 rfl rfl (by simp) ?_) | (refine ctr_fnC Try.func20 rfl Try.ntmps20 Try.results20 rfl (by simp) ?_)
  simp
  refine awCall_ctr (mark_NoteS (h.keeps (keeps_app _)) hb hz hz1) ?_
  rintro _ M' ⟨rfl, o, ht⟩
  simp
  exact ⟨o, ht.app⟩
theorem held_Score {M : Mem} {v : Value} {lo hi m : Nat} {z : Int} (h : OwL noteR lo hi M v (markNoteL z m)) (hz : 0 ≤ z) (hz1 : z ≤ 1152921504606846976) : Det Try.prog M.length 21 [.agg #[v], iv z] M (iv (z + m * 7)) M := by
  first | (refine det_fn Try.func21 rfl Try.ntmps21 Try.results21 rfl rfl rfl (by simp) ?_) | (refine det_fnC Try.func21 rfl Try.ntmps21 Try.results21 rfl rfl (by simp) ?_)
  simp
  refine awCall_det' (held_NoteS (h.keeps (keeps_app _)) hz hz1) (by simp) ?_
  have h0 : ¬ z + m * 7 < 0 := by omega
  simp [keeps_app, h0]
end Go.Proofs.Ytbpaeonfebmomaa

namespace Go.Proofs.Ytbpaeonfebmomaa
open Go.RowKit
set_option linter.unusedVariables false
set_option linter.unusedSimpArgs false
set_option maxRecDepth 100000
attribute [local simp] List.getElem?_cons_zero
attribute [local irreducible] awCond awCall awLoop awDraw ow retQ retC resQ Keeps
def Note.at_ (n : Note) : Frac := ⟨n.an, n.ad⟩
def Note.len (n : Note) : Frac := ⟨n.ln, n.ld⟩
def noteB (n : Note) : Bool := beatB n.at_ && beatB n.len && decide (n.ln ≠ 0) && decide ((addF n.at_ n.len).2 = 0) && inB n.k 0 127 && inB n.u 1 127 && inB n.o 0 15
def ordN (a b : Note) : Int := if cmpF a.at_ b.at_ ≠ 0 then cmpF a.at_ b.at_ else if a.o ≠ b.o then a.o - b.o else a.k - b.k
theorem noteB_iff {n : Note} : noteB n = true ↔ beatB n.at_ = true ∧ beatB n.len = true ∧ n.ln ≠ 0 ∧ (addF n.at_ n.len).2 = 0 ∧ (0 ≤ n.k ∧ n.k ≤ 127) ∧ (1 ≤ n.u ∧ n.u ≤ 127) ∧ (0 ≤ n.o ∧ n.o ≤ 15) := by
  simp only [noteB, Bool.and_eq_true, decide_eq_true_eq, inB_iff, and_assoc]
theorem beatB_iff {f : Frac} : beatB f = true ↔ fracB f = true ∧ 0 ≤ f.n ∧ f.n ≤ 1000 * f.d := by
  simp only [beatB, Bool.and_eq_true, decide_eq_true_eq, and_assoc]
theorem cmpF_bd (a b : Frac) : -1 ≤ cmpF a b ∧ cmpF a b ≤ 1 := by
  unfold cmpF
  split
  · omega
  · split <;> omega
set_option maxHeartbeats 1000000 in
theorem isNote_i {M : Mem} (n : Note) : Det Try.prog M.length 66 [n.v] M (.bool (noteB n)) M := by
  first | (refine det_fn Try.func66 rfl Try.ntmps66 Try.results66 rfl rfl rfl (by simp) ?_) | (refine det_fnC Try.func66 rfl Try.ntmps66 Try.results66 rfl rfl (by simp) ?_)
  simp
  refine awCall_det' (isBeat_i n.at_) (by simp) ?_
  by_cases h1 : beatB n.at_ = true
  · simp [h1]
    refine awCall_det' (isBeat_i n.len) (by simp) ?_
    by_cases h2 : beatB n.len = true
    · simp [h2]
      by_cases h3 : n.ln = 0
      · have e : noteB n = false := by simp [noteB, h3]
        simp [h3, e, keeps_app]
      · simp [h3]
        refine awCall_det' (AddFrac_i n.at_ n.len) (by simp) ?_
        simp
        by_cases h4 : (addF n.at_ n.len).2 = 0
        · simp [h4]
          refine awCall_det' (isKey_a _) (by simp) ?_
          by_cases h5 : inB n.k 0 127 = true
          · simp [h5]
            refine awCall_det' (within_a _ _ _) (by simp) ?_
            by_cases h6 : inB n.u 1 127 = true
            · simp [h6]
              refine awCall_det' (within_a _ _ _) (by simp) ?_
              simp [noteB, h1, h2, h3, h4, h5, h6, keeps_app]
            · have e : noteB n = false := by simp [noteB, h6]
              simp [h6, e, keeps_app]
          · have e : noteB n = false := by simp [noteB, h5]
            simp [h5, e, keeps_app]
        · have e : noteB n = false := by simp [noteB, h4]
          simp [h4, e, keeps_app]
    · have e : noteB n = false := by simp [noteB, h2]
      simp [h2, e, keeps_app]
  · have e : noteB n = false := by simp [noteB, h1]
    simp [h1, e, keeps_app]
theorem l18Sum_a {M : Mem} (a b : Frac) : Det Try.prog M.length 73 [a.v, b.v] M (.tuple #[(addF a b).1.v, .bool (decide ((addF a b).2 = 0))]) M := by
  first | (refine det_fn Try.func73 rfl Try.ntmps73 Try.results73 rfl rfl rfl (by simp) ?_) | (refine det_fnC Try.func73 rfl Try.ntmps73 Try.results73 rfl rfl (by simp) ?_)
  simp
  refine awCall_det' (AddFrac_s a b) (by simp) ?_
  simp [keeps_app]
theorem note_cellsN {M : Mem} {id off : Nat} {n : Note} (h : Cl M id off n.row) : cellsAt M id off 2 = some [iv n.an, iv n.ad] ∧ cellsAt M id (off + 2) 2 = some [iv n.ln, iv n.ld] := by
  refine ⟨cellsAt_of (fun j x hx => ?_) rfl (by omega), cellsAt_of (fun j x hx => ?_) rfl (by omega)⟩
  · refine h j x ?_
    rcases j with _ | _ | j
    · exact hx
    · exact hx
    · simp at hx
  · have := h (2 + j) x (by
      rcases j with _ | _ | j
      · exact hx
      · exact hx
      · simp at hx)
    rwa [← Nat.add_assoc] at this
set_option maxHeartbeats 1000000 in
theorem l18Note_a {M : Mem} {id off : Nat} {n : Note} (hc : Cl M id off n.row) : Det Try.prog M.length 42 [.pointer (some ⟨id, off, none⟩)] M (.bool (noteB n)) M := by
  obtain ⟨c0, c1, c2, c3, c4, c5, c6⟩ := note_cells hc
  obtain ⟨d0, d2⟩ := note_cellsN hc
  first | (refine det_fn Try.func42 rfl Try.ntmps42 Try.results42 rfl rfl rfl (by simp) ?_) | (refine det_fnC Try.func42 rfl Try.ntmps42 Try.results42 rfl rfl (by simp) ?_)
  simp [c0, c1, c2, c3, c4, c5, c6, d0, d2]
  refine awCall_det' (l02Ok_a n.at_) (by simp) ?_
  by_cases f1 : fracB n.at_ = true
  · simp [f1, c0, c1, c2, c3, c4, c5, c6, d0, d2]
    refine awCall_det' (l17Beat_a n.at_ f1) (by simp) ?_
    by_cases h1 : beatB n.at_ = true
    · simp [h1, c0, c1, c2, c3, c4, c5, c6, d0, d2]
      refine awCall_det' (l02Ok_a n.len) (by simp) ?_
      by_cases f2 : fracB n.len = true
      · simp [f2, c0, c1, c2, c3, c4, c5, c6, d0, d2]
        refine awCall_det' (l17Beat_a n.len f2) (by simp) ?_
        by_cases h2 : beatB n.len = true
        · simp [h2, c0, c1, c2, c3, c4, c5, c6, d0, d2]
          by_cases h3 : n.ln = 0
          · have e : noteB n = false := by simp [noteB, h3]
            simp [h3, e, Keeps.refl]
          · simp [h3]
            refine awDraw_M 13 [[],[0],[1,0],[2,1,0],[],[4],[5,4],[6,5,4],[3,2,1,0,7,6,5,4],[8,3,2,1,0,7,6,5,4],[9,8,3,2,1,0,7,6,5,4],[9,8,3,2,1,0,7,6,5,4],[],[12,10,9,8,3,2,1,0,7,6,5,4],[11,9,8,3,2,1,0,7,6,5,4,13,12,10]] [11] (by kernel_rfl) (by decide +kernel) (by decide +kernel) ?_
            simp [c0, c1, c2, c3, c4, c5, c6, d0, d2]
            refine awCall_det' (l18Sum_a n.at_ n.len) (by simp) ?_
            simp
            have c4' := fun L => cellAt_app c4 L
            have c5' := fun L => cellAt_app c5 L
            have c6' := fun L => cellAt_app c6 L
            by_cases h4 : (addF n.at_ n.len).2 = 0
            · simp [h4, c4', c5', c6']
              refine awCall_det' (l00In_a _ _ _) (by simp) ?_
              by_cases h5 : inB n.k 0 127 = true
              · simp [h5, c4', c5', c6']
                refine awCall_det' (l00In_a _ _ _) (by simp) ?_
                by_cases h6 : inB n.u 1 127 = true
                · simp [h6, c4', c5', c6']
                  refine awCall_det' (l00In_a _ _ _) (by simp) ?_
                  simp [noteB, h1, h2, h3, h4, h5, h6, keeps_app]
                · have e : noteB n = false := by simp [noteB, h6]
                  simp [h6, e, keeps_app]
              · have e : noteB n = false := by simp [noteB, h5]
                simp [h5, e, keeps_app]
            · have e : noteB n = false := by simp [noteB, h4]
              simp [h4, e, keeps_app]
        · have e : noteB n = false := by simp [noteB, h2]
          simp [h2, e, Keeps.refl]
      · have e : noteB n = false := by simp [noteB, beatB, f2]
        simp [f2, e, Keeps.refl]
    · have e : noteB n = false := by simp [noteB, h1]
      simp [h1, e, Keeps.refl]
  · have e : noteB n = false := by simp [noteB, beatB, f1]
    simp [f1, e, Keeps.refl]
theorem compareNotes_i {M : Mem} (a b : Note) (ha : noteB a = true) (hb : noteB b = true) : Det Try.prog M.length 56 [a.v, b.v] M (iv (ordN a b)) M := by
  obtain ⟨a1, -, -, -, a5, a6, a7⟩ := noteB_iff.1 ha
  obtain ⟨b1, -, -, -, b5, b6, b7⟩ := noteB_iff.1 hb
  have f1 := (beatB_iff.1 a1).1
  have f2 := (beatB_iff.1 b1).1
  first | (refine det_fn Try.func56 rfl Try.ntmps56 Try.results56 rfl rfl rfl (by simp) ?_) | (refine det_fnC Try.func56 rfl Try.ntmps56 Try.results56 rfl rfl (by simp) ?_)
  simp
  refine awCall_det' (compare_i a.at_ b.at_ f1 f2) (by simp) ?_
  unfold ordN
  by_cases h1 : cmpF a.at_ b.at_ = 0
  · by_cases h2 : a.o = b.o
    · simp (disch := omega) [h1, h2, wrap_in, keeps_app]
    · simp (disch := omega) [h1, h2, wrap_in, keeps_app]
  · have := cmpF_bd a.at_ b.at_
    simp (disch := omega) [h1, wrap_in, keeps_app]
theorem l18Order_a {M : Mem} {id off id' off' : Nat} {a b : Note} (hca : Cl M id off a.row) (hcb : Cl M id' off' b.row) (ha : noteB a = true) (hb : noteB b = true) :
    Det Try.prog M.length 52 [.pointer (some ⟨id, off, none⟩), .pointer (some ⟨id', off', none⟩)] M (iv (ordN a b)) M := by
  obtain ⟨a1, -, -, -, a5, a6, a7⟩ := noteB_iff.1 ha
  obtain ⟨b1, -, -, -, b5, b6, b7⟩ := noteB_iff.1 hb
  have f1 := (beatB_iff.1 a1).1
  have f2 := (beatB_iff.1 b1).1
  obtain ⟨c0, c1, c2, c3, c4, c5, c6⟩ := note_cells hca
  obtain ⟨d0, d1, d2, d3, d4, d5, d6⟩ := note_cells hcb
  obtain ⟨e0, e2⟩ := note_cellsN hca
  obtain ⟨g0, g2⟩ := note_cellsN hcb
  first | (refine det_fn Try.func52 rfl Try.ntmps52 Try.results52 rfl rfl rfl (by simp) ?_) | (refine det_fnC Try.func52 rfl Try.ntmps52 Try.results52 rfl rfl (by simp) ?_)
  simp
  refine awDraw_E 8 [[],[0],[1,0],[2,1,0],[],[4],[5,4],[6,5,4],[3,2,1,0,7,6,5,4],[8,3,2,1,0,7,6,5,4]] (by kernel_rfl) (by kernel_rfl) ?_
  simp [e0, g0]
  refine awCall_det' (compare_s a.at_ b.at_ f1 f2) (by simp) ?_
  unfold ordN
  by_cases h1 : cmpF a.at_ b.at_ = 0
  · simp [h1]
    refine awDraw_E 8 [[],[0],[1,0],[2,1,0],[],[4],[5,4],[6,5,4],[3,2,1,0,7,6,5,4],[8,3,2,1,0,7,6,5,4]] (by kernel_rfl) (by kernel_rfl) ?_
    simp [c6, d6]
    by_cases h2 : a.o = b.o
    · simp [h2]
      refine awDraw_E 8 [[],[0],[1,0],[2,1,0],[],[4],[5,4],[6,5,4],[3,2,1,0,7,6,5,4],[8,3,2,1,0,7,6,5,4]] (by kernel_rfl) (by kernel_rfl) ?_
      simp (disch := omega) [c4, d4, h1, h2, wrap_in, Keeps.refl]
    · simp [h2]
      refine awDraw_E 8 [[],[0],[1,0],[2,1,0],[],[4],[5,4],[6,5,4],[3,2,1,0,7,6,5,4],[8,3,2,1,0,7,6,5,4]] (by kernel_rfl) (by kernel_rfl) ?_
      simp (disch := omega) [c6, d6, h1, h2, wrap_in, Keeps.refl]
  · have := cmpF_bd a.at_ b.at_
    simp (disch := omega) [h1, wrap_in, Keeps.refl]
theorem areNotes_i {M : Mem} {A : Option Addr} {n c : Nat} {l : List Note} (h : Sl noteR M A n l) (hn : n ≤ 1099511627776) : Det Try.prog M.length 55 [.slice A n c] M (.bool (l.all noteB)) M := by
  have hl := h.1
  first | (refine det_fn Try.func55 rfl Try.ntmps55 Try.results55 rfl rfl rfl (by simp) ?_) | (refine det_fnC Try.func55 rfl Try.ntmps55 Try.results55 rfl rfl (by simp) ?_)
  simp
  refine awLoop_T (fun m T M' => ∃ k : Nat, k + m = n ∧ Keeps M M' ∧ (l.take k).all noteB = true ∧ look T 7 = some (iv k) ∧ look T 6 = some (iv n) ∧ look T 5 = some (.slice A n c)) n ⟨0, by omega, Keeps.refl _, by simp, by simp, by simp, by simp⟩ ?_
  rintro m T M' ⟨k, hm, hK, ha, h7, h6, h5⟩
  have hKl := hK.len
  by_cases hlt : k < n
  · obtain ⟨id, off, rfl, he, hc⟩ := (h.keeps hK).at_ hlt
    have hld := note_load hc
    simp (disch := omega) [h7, h6, h5, hlt, he, hld]
    refine awCall_det' (isNote_i (el l k)) (by simp; omega) ?_
    by_cases hb : noteB (el l k) = true
    · simp (disch := omega) [hb, h7, h6, h5, wrap_in]
      refine lpI (m - 1) (by omega) ⟨k + 1, by omega, hK.app _, by rw [take_el (by omega), List.all_append, ha]; simp [hb], by simp, by simp [h6], by simp [h5]⟩
    · have hno : l.all noteB = false := by
        rw [List.all_eq_false]
        exact ⟨el l k, el_mem (by omega), hb⟩
      simp [hb, hno, hK.app]
  · obtain rfl : k = n := by omega
    rw [List.take_of_length_le (by omega)] at ha
    simp [h7, h6, h5, ha, hK]
def scoreB (l : List Note) : Bool := decide (l.length ≤ 60) && l.all noteB && decide (∀ i, i < l.length → 0 < i → ordN (el l (i - 1)) (el l i) < 0)
theorem all_el {l : List Note} (h : l.all noteB = true) {i : Nat} (hi : i < l.length) : noteB (el l i) = true := List.all_eq_true.1 h _ (el_mem hi)
theorem isScore_i {M : Mem} {A : Option Addr} {n c : Nat} {l : List Note} (h : Sl noteR M A n l) (hn : n ≤ 1099511627776) : Det Try.prog M.length 25 [.agg #[.slice A n c]] M (.bool (scoreB l)) M := by
  have hl := h.1
  first | (refine det_fn Try.func25 rfl Try.ntmps25 Try.results25 rfl rfl rfl (by simp) ?_) | (refine det_fnC Try.func25 rfl Try.ntmps25 Try.results25 rfl rfl (by simp) ?_)
  simp
  by_cases h1 : 60 < n
  · have h1' : (60 : Int) < n := by omega
    have e : scoreB l = false := by
      have : ¬ l.length ≤ 60 := by omega
      simp [scoreB, this]
    simp [h1, h1', e, keeps_app]
  have h1' : ¬ (60 : Int) < n := by omega
  simp [h1, h1']
  refine awCall_det' (areNotes_i (h.app _) (by omega)) (by simp) ?_
  by_cases h2 : l.all noteB = true
  · rw [h2]
    simp
    refine awLoop_T (fun m T M' => ∃ k : Nat, 0 < k ∧ (k + m = n ∨ (n = 0 ∧ k = 1 ∧ m = 0)) ∧ M' = M ++ [.live ⟨[.slice A n c], true, true, 26, 1⟩] ∧ (∀ i, i < k → 0 < i → ordN (el l (i - 1)) (el l i) < 0) ∧ look T 3 = some (iv k) ∧ look T 1 = some (.pointer (some ⟨M.length, 0, none⟩))) (n - 1) ⟨1, by omega, by omega, rfl, fun i hi h0 => by omega, by simp, by simp⟩ ?_
    rintro m T M' ⟨k, hk0, hm, rfl, hs, h3, h1''⟩
    by_cases hlt : k < n
    · obtain ⟨id, off, e1, he, hc⟩ := (h.app [.live ⟨[.slice A n c], true, true, 26, 1⟩]).at_ hlt
      obtain ⟨_, _, e2, -, hc'⟩ := (h.app [.live ⟨[.slice A n c], true, true, 26, 1⟩]).at_ (show k - 1 < n by omega)
      rw [e1] at e2
      cases e2
      subst e1
      have ld1 := note_load hc
      have ld2 := note_load hc'
      have et : ((k : Int) - 1).toNat = k - 1 := by omega
      simp [h3, h1'', hlt]
      refine awDraw_E 11 [[],[0],[],[2],[1,0,3,2],[4,1,0,3,2],[],[6],[],[7,6,8],[9,7,6,8],[5,4,1,0,3,2,10,9,7,6,8],[11,5,4,1,0,3,2,10,9,7,6,8]] (by kernel_rfl) (by kernel_rfl) ?_
      simp (disch := omega) [h3, h1'', hlt, he, ld1, ld2, wrap_in, et]
      try refine ⟨by omega, ?_⟩
      refine awCall_det' (compareNotes_i (el l (k - 1)) (el l k) (all_el h2 (by omega)) (all_el h2 (by omega))) (by simp) ?_
      by_cases h4 : 0 ≤ ordN (el l (k - 1)) (el l k)
      · have e : scoreB l = false := by
          unfold scoreB
          rw [decide_eq_false (p := ∀ i, _) (fun hh => by have := hh k (by omega) hk0; omega)]
          simp
        simp [h4, e, keeps_app]
      · simp (disch := omega) [h4, h3, h1'', wrap_in]
        refine lpI (m - 1) (by omega) ⟨k + 1, by omega, by omega, rfl, fun i hi h0 => ?_, by simp, by simp [h1'']⟩
        rcases Nat.lt_or_ge i k with h | h
        · exact hs i h h0
        · obtain rfl : i = k := by omega
          omega
    · have e : scoreB l = true := by
        unfold scoreB
        rw [decide_eq_true (show l.length ≤ 60 by omega), h2, decide_eq_true (fun i hi h0 => hs i (by omega) h0)]
        rfl
      simp [h3, h1'', hlt, e, keeps_app]
  · have e : scoreB l = false := by simp only [Bool.not_eq_true] at h2; simp [scoreB, h2]
    simp only [Bool.not_eq_true] at h2
    rw [h2]
    simp [e, keeps_app]
theorem l18Ok_a {M : Mem} {A : Option Addr} {n c id0 off0 : Nat} {l : List Note} (h : Sl noteR M A n l) (hr : cellAt M id0 off0 = some (.slice A n c)) (hn : n ≤ 1099511627776) : Det Try.prog M.length 28 [.pointer (some ⟨id0, off0, none⟩)] M (.bool (scoreB l)) M := by
  have hl := h.1
  first | (refine det_fn Try.func28 rfl Try.ntmps28 Try.results28 rfl rfl rfl (by simp) ?_) | (refine det_fnC Try.func28 rfl Try.ntmps28 Try.results28 rfl rfl (by simp) ?_)
  simp [hr]
  by_cases h1 : 60 < n
  · have h1' : (60 : Int) < n := by omega
    have e : scoreB l = false := by
      have : ¬ l.length ≤ 60 := by omega
      simp [scoreB, this]
    simp [h1, h1', e, Keeps.refl]
  have h1' : ¬ (60 : Int) < n := by omega
  simp [h1, h1']
  refine awLoop_T (fun m T M' => ∃ k : Nat, k + m = n ∧ M' = M ∧ (l.take k).all noteB = true ∧ (∀ i, i < k → 0 < i → ordN (el l (i - 1)) (el l i) < 0) ∧ look T 3 = some (iv k) ∧ look T 0 = some (.pointer (some ⟨id0, off0, none⟩))) n ⟨0, by omega, rfl, by simp, fun i hi h0 => by omega, by simp, by simp⟩ ?_
  rintro m T M' ⟨k, hm, rfl, ha, hs, h3, h0⟩
  by_cases hlt : k < n
  · obtain ⟨id, off, e1, he, hc⟩ := h.at_ hlt
    subst e1
    simp [h3, h0, hr, hlt]
    refine awDraw_E 25 [[],[0],[1,0],[2,1,0],[],[3,2,1,0,4],[5,3,2,1,0,4],[6,5,3,2,1,0,4],[7,6,5,3,2,1,0,4],[8,7,6,5,3,2,1,0,4],[9,8,7,6,5,3,2,1,0,4],[10,9,8,7,6,5,3,2,1,0,4],[11,10,9,8,7,6,5,3,2,1,0,4],[12,11,10,9,8,7,6,5,3,2,1,0,4],[13,12,11,10,9,8,7,6,5,3,2,1,0,4],[14,13,12,11,10,9,8,7,6,5,3,2,1,0,4],[11,10,9,8,7,6,5,3,2,1,0,4],[16,11,10,9,8,7,6,5,3,2,1,0,4],[15,14,13,12,11,10,9,8,7,6,5,3,2,1,0,4,17,16],[11,10,9,8,7,6,5,3,2,1,0,4],[19,11,10,9,8,7,6,5,3,2,1,0,4],[20,19,11,10,9,8,7,6,5,3,2,1,0,4],[21,20,19,11,10,9,8,7,6,5,3,2,1,0,4],[11,10,9,8,7,6,5,3,2,1,0,4],[22,21,20,19,11,10,9,8,7,6,5,3,2,1,0,4,23],[18,15,14,13,12,11,10,9,8,7,6,5,3,2,1,0,4,17,16,24,22,21,20,19,23],[25,18,15,14,13,12,11,10,9,8,7,6,5,3,2,1,0,4,17,16,24,22,21,20,19,23],[11,10,9,8,7,6,5,3,2,1,0,4,26,25,18,15,14,13,12,17,16,24,22,21,20,19,23],[8,7,6,5,3,2,1,0,4,27,11,10,9,26,25,18,15,14,13,12,17,16,24,22,21,20,19,23]] (by kernel_rfl) (by kernel_rfl) ?_
    simp (disch := omega) [h3, h0, hr, hlt, he]
    refine awCall_det' (l18Note_a hc) (by simp) ?_
    by_cases h2 : noteB (el l k) = true
    · have hta : (l.take (k + 1)).all noteB = true := by rw [take_el (by omega), List.all_append, ha]; simp [h2]
      by_cases hk0 : 0 < k
      · obtain ⟨_, _, e2, -, hc'⟩ := h.at_ (show k - 1 < n by omega)
        cases e2
        have et : ((k : Int) - 1).toNat = k - 1 := by omega
        have hk0' : (0 : Int) < k := by omega
        have hpv : noteB (el l (k - 1)) = true := by
          have := List.all_eq_true.1 ha (el (l.take k) (k - 1)) (el_mem (by rw [List.length_take]; omega))
          have e : el (l.take k) (k - 1) = el l (k - 1) := by
            conv => rhs; rw [← List.take_append_drop k l]
            rw [el_append_left (by rw [List.length_take]; omega)]
          rwa [e] at this
        simp (disch := omega) [h2, hk0, hk0', h3, h0, hr, he, et, wrap_in]
        refine ⟨⟨by omega, by omega⟩, hlt, ?_⟩
        refine awCall_det' (l18Order_a hc' hc hpv h2) (by simp) ?_
        by_cases h4 : 0 ≤ ordN (el l (k - 1)) (el l k)
        · have e : scoreB l = false := by
            unfold scoreB
            rw [decide_eq_false (p := ∀ i, _) (fun hh => by have := hh k (by omega) hk0; omega)]
            simp
          simp [h4, e, Keeps.refl]
        · simp (disch := omega) [h4, h3, h0, wrap_in]
          refine lpI (m - 1) (by omega) ⟨k + 1, by omega, rfl, hta, fun i hi h0 => ?_, by simp, by simp [h0]⟩
          rcases Nat.lt_or_ge i k with h | h
          · exact hs i h h0
          · obtain rfl : i = k := by omega
            omega
      · obtain rfl : k = 0 := by omega
        simp (disch := omega) [h2, h3, h0, wrap_in]
        refine lpI (m - 1) (by omega) ⟨1, by omega, rfl, hta, fun i hi h0 => by omega, by simp, by simp [h0]⟩
    · have e : scoreB l = false := by
        have : l.all noteB = false := by rw [List.all_eq_false]; exact ⟨el l k, el_mem (by omega), h2⟩
        simp [scoreB, this]
      simp [h2, e, Keeps.refl]
  · have e : scoreB l = true := by
      obtain rfl : k = n := by omega
      rw [List.take_of_length_le (by omega)] at ha
      unfold scoreB
      rw [decide_eq_true (show l.length ≤ 60 by omega), ha, decide_eq_true (fun i hi h0 => hs i (by omega) h0)]
      rfl
    simp [h3, h0, hr, hlt, e, Keeps.refl]
end Go.Proofs.Ytbpaeonfebmomaa
