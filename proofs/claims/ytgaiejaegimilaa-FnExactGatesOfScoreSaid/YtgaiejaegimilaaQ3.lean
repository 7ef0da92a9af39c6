/- Fractions: valid ones, sums and products, in both packages. No conditions. -/
import Derived.Test.YtgaiejaegimilaaQ2
namespace Go.Proofs.Ytgaiejaegimilaa
open Go.RowKit
set_option linter.unusedVariables false
set_option linter.unusedSimpArgs false
set_option maxRecDepth 100000
attribute [local simp] List.getElem?_cons_zero
attribute [local irreducible] awCond awCall awLoop awDraw ow retQ retC resQ Keeps
theorem isFrac_i {M : Mem} (f : Frac) : Det Try.prog M.length 135 [f.v] M (.bool (fracB f)) M := by
  first | (refine det_fn Try.func135 rfl Try.ntmps135 Try.results135 rfl rfl rfl (by simp) ?_) | (refine det_fnC Try.func135 rfl Try.ntmps135 Try.results135 rfl rfl (by simp) ?_)
  simp
  refine awDraw_E 15 [[],[0],[1,0],[2,1,0],[3,2,1,0],[4,3,2,1,0],[5,4,3,2,1,0],[3,2,1,0,6,5,4],[7,3,2,1,0,6,5,4],[8,7,3,2,1,0,6,5,4],[9,8,7,3,2,1,0,6,5,4],[10,9,8,7,3,2,1,0,6,5,4],[8,7,3,2,1,0,6,5,4],[12,8,7,3,2,1,0,6,5,4],[13,12,8,7,3,2,1,0,6,5,4],[11,10,9,8,7,3,2,1,0,6,5,4,14,13,12],[15,11,10,9,8,7,3,2,1,0,6,5,4,14,13,12],[8,7,3,2,1,0,6,5,4,16,15,11,10,9,14,13,12],[17,8,7,3,2,1,0,6,5,4,16,15,11,10,9,14,13,12]] (by kernel_rfl) (by kernel_rfl) ?_
  simp
  refine awCall_det' (within_a _ _ _) (by simp) ?_
  by_cases h1 : inB f.d 1 1000000 = true
  · have b1 := inB_iff.1 h1
    simp [h1]
    refine awCall_det' (within_a _ _ _) (by simp) ?_
    by_cases h2 : inB f.n (-1000000000) 1000000000 = true
    · have b2 := inB_iff.1 h2
      simp [h2]
      refine awCall_det' (mag_i _ (by omega) (by omega)) (by simp) ?_
      have e : IntKind.u64.wrap f.d = ((f.d.natAbs : Nat) : Int) := by rw [u64_in (by omega) (by omega)]; omega
      simp [e]
      refine awCall_det' (gcd_i _ _ (by omega) (by omega)) (by simp) ?_
      have eb : fracB f = decide (f.n.natAbs.gcd f.d.natAbs = 1) := by simp [fracB, h1, h2]
      rw [eb]
      by_cases h3 : f.n.natAbs.gcd f.d.natAbs = 1
      · simp [h3, keeps_app]
      · have h3' : ¬ ((f.n.natAbs.gcd f.d.natAbs : Nat) : Int) = 1 := by omega
        simp [h3, h3', keeps_app]
    · have eb : fracB f = false := by simp [fracB, h2]
      simp [h2, eb, keeps_app]
  · have eb : fracB f = false := by simp [fracB, h1]
    simp [h1, eb, keeps_app]
theorem l02Ok_a {M : Mem} (f : Frac) : Det Try.prog M.length 69 [f.v] M (.bool (fracB f)) M := by
  first | (refine det_fn Try.func69 rfl Try.ntmps69 Try.results69 rfl rfl rfl (by simp) ?_) | (refine det_fnC Try.func69 rfl Try.ntmps69 Try.results69 rfl rfl (by simp) ?_)
  simp
  refine awDraw_E 15 [[],[0],[1,0],[2,1,0],[3,2,1,0],[4,3,2,1,0],[5,4,3,2,1,0],[3,2,1,0,6,5,4],[7,3,2,1,0,6,5,4],[8,7,3,2,1,0,6,5,4],[9,8,7,3,2,1,0,6,5,4],[10,9,8,7,3,2,1,0,6,5,4],[8,7,3,2,1,0,6,5,4],[12,8,7,3,2,1,0,6,5,4],[13,12,8,7,3,2,1,0,6,5,4],[11,10,9,8,7,3,2,1,0,6,5,4,14,13,12],[15,11,10,9,8,7,3,2,1,0,6,5,4,14,13,12],[8,7,3,2,1,0,6,5,4,16,15,11,10,9,14,13,12],[17,8,7,3,2,1,0,6,5,4,16,15,11,10,9,14,13,12]] (by kernel_rfl) (by kernel_rfl) ?_
  simp
  refine awCall_det' (l00In_a _ _ _) (by simp) ?_
  by_cases h1 : inB f.d 1 1000000 = true
  · have b1 := inB_iff.1 h1
    simp [h1]
    refine awCall_det' (l00In_a _ _ _) (by simp) ?_
    by_cases h2 : inB f.n (-1000000000) 1000000000 = true
    · have b2 := inB_iff.1 h2
      simp [h2]
      refine awCall_det' (mag_s _ (by omega) (by omega)) (by simp) ?_
      have e : IntKind.u64.wrap f.d = ((f.d.natAbs : Nat) : Int) := by rw [u64_in (by omega) (by omega)]; omega
      simp [e]
      refine awCall_det' (gcd_s _ _ (by omega) (by omega)) (by simp) ?_
      have eb : fracB f = decide (f.n.natAbs.gcd f.d.natAbs = 1) := by simp [fracB, h1, h2]
      rw [eb]
      by_cases h3 : f.n.natAbs.gcd f.d.natAbs = 1
      · simp [h3, keeps_app]
      · have h3' : ¬ ((f.n.natAbs.gcd f.d.natAbs : Nat) : Int) = 1 := by omega
        simp [h3, h3', keeps_app]
    · have eb : fracB f = false := by simp [fracB, h2]
      simp [h2, eb, keeps_app]
  · have eb : fracB f = false := by simp [fracB, h1]
    simp [h1, eb, keeps_app]
theorem fr_build0 : Instr.fill (fun x => [(0, 1), (1, 1)][x]?) #[iv 0, iv 0] [] = some #[iv 0, iv 0] := by rfl
theorem fr_build (a b : Int) : Instr.fill (fun x => [(0, 1), (1, 1)][x]?) #[iv 0, iv 0] [(0, iv a), (1, iv b)] = some #[iv a, iv b] := by rfl
def qN (x y : Nat) : Nat := x / y
theorem qN_le (x y : Nat) : qN x y ≤ x := Nat.div_le_self _ _
theorem tdiv_q (x y : Nat) : ((x : Int)).tdiv y = ((qN x y : Nat) : Int) := tdiv_nat x y
theorem div_q (x y : Nat) : (x : Int) / y = ((qN x y : Nat) : Int) := rfl
/-- Two quotients by the same number, assigned at once. -/
structure RM (n0 : Nat) (T0 : List (Nat × Value)) (M : Mem) (a c g : Nat) (X : Nat → Bool) (S : St) : Prop where
  n : S.n = n0
  M : S.M = M
  t6 : look S.T 6 = some (uv (if X 6 = true then qN a g else a : Nat))
  t7 : look S.T 7 = some (uv (if X 7 = true then qN c g else c : Nat))
  t8 : look S.T 8 = some (uv g)
  c0 : X 0 = true → look S.T 20 = some (uv a)
  c1 : X 1 = true → look S.T 21 = some (uv g)
  c2 : X 2 = true → look S.T 22 = some (uv (qN a g : Nat))
  c3 : X 3 = true → look S.T 23 = some (uv c)
  c4 : X 4 = true → look S.T 24 = some (uv g)
  c5 : X 5 = true → look S.T 25 = some (uv (qN c g : Nat))
  d6 : X 6 = true → X 0 = true
  d7 : X 7 = true → X 3 = true
  rest : ∀ t, t ≠ 6 → t ≠ 7 → (t < 20 ∨ 25 < t) → look S.T t = look T0 t
def RMv (a c g : Nat) : Nat → Nat × Nat
  | 0 => (20, a)
  | 1 => (21, g)
  | 2 => (22, qN a g)
  | 3 => (23, c)
  | 4 => (24, g)
  | 5 => (25, qN c g)
  | 6 => (6, qN a g)
  | _ => (7, qN c g)
theorem RM.step {n0 : Nat} {T0 T : List (Nat × Value)} {M : Mem} {a c g k : Nat} {X : Nat → Bool} (h : RM n0 T0 M a c g X ⟨n0, T, M⟩) (hk : k < 8) (h6 : k = 6 → X 0 = true) (h7 : k = 7 → X 3 = true) : RM n0 T0 M a c g (upX X k) ⟨n0, ((RMv a c g k).1, uv (RMv a c g k).2) :: T, M⟩ := by
  obtain ⟨-, -, t6, t7, t8, c0, c1, c2, c3, c4, c5, d6, d7, rest⟩ := h
  simp only at t6 t7 t8 c0 c1 c2 c3 c4 c5 rest
  have up : ∀ {j : Nat}, upX X k j = true → j ≠ k → X j = true := fun {j} hj e => by rwa [upX_ne e] at hj
  have up2 : ∀ {j : Nat}, X j = true → upX X k j = true := fun {j} hj => by
    by_cases e : j = k
    · subst e; simp
    · rwa [upX_ne e]
  have dst : ∀ t : Nat, t ≠ (RMv a c g k).1 → look (((RMv a c g k).1, uv (RMv a c g k).2) :: T) t = look T t := fun t ht => look_other ht
  have same : look (((RMv a c g k).1, uv (RMv a c g k).2) :: T) (RMv a c g k).1 = some (uv (RMv a c g k).2) := look_same
  have hd : (RMv a c g k).1 = (if k < 6 then 20 + k else k) := by
    rcases k with _ | _ | _ | _ | _ | _ | _ | _ | k <;> first | omega | rfl
  have cl : ∀ (j t : Nat) (x : Nat), j < 6 → t = 20 + j → (RMv a c g j) = (t, x) → (X j = true → look T t = some (uv x)) → (upX X k j = true → look (((RMv a c g k).1, uv (RMv a c g k).2) :: T) t = some (uv x)) := by
    intro j t x hj ht hv hc hx
    by_cases e : j = k
    · subst e
      rw [hv]
      exact look_same
    · rw [dst t (by rw [hd]; split <;> omega)]
      exact hc (up hx e)
  refine ⟨rfl, rfl, ?_, ?_, ?_, cl 0 20 a (by omega) rfl rfl c0, cl 1 21 g (by omega) rfl rfl c1, cl 2 22 (qN a g) (by omega) rfl rfl c2, cl 3 23 c (by omega) rfl rfl c3, cl 4 24 g (by omega) rfl rfl c4, cl 5 25 (qN c g) (by omega) rfl rfl c5, fun hx => ?_, fun hx => ?_, fun t n6 n7 ht => ?_⟩
  · by_cases e : 6 = k
    · subst e; simp [RMv]
    · rw [dst 6 (by rw [hd]; split <;> omega), upX_ne e]; exact t6
  · by_cases e : 7 = k
    · subst e; simp [RMv]
    · rw [dst 7 (by rw [hd]; split <;> omega), upX_ne e]; exact t7
  · rw [dst 8 (by rw [hd]; split <;> omega)]; exact t8
  · by_cases e : 6 = k
    · exact up2 (h6 e.symm)
    · exact up2 (d6 (up hx e))
  · by_cases e : 7 = k
    · exact up2 (h7 e.symm)
    · exact up2 (d7 (up hx e))
  · show look (((RMv a c g k).1, uv (RMv a c g k).2) :: T) t = look T0 t
    rw [dst t (by rw [hd]; split <;> omega)]; exact rest t n6 n7 ht
set_option maxHeartbeats 1000000 in
theorem MakeFrac_i {M : Mem} (n d : Int) (hn1 : -9223372036854775807 ≤ n) (hn2 : n ≤ 9223372036854775807) (hd1 : -9223372036854775807 ≤ d) (hd2 : d ≤ 9223372036854775807) : Det Try.prog M.length 124 [iv n, iv d] M (.tuple #[(mkF n d).1.v, iv (mkF n d).2]) M := by
  first | (refine det_fn Try.func124 rfl Try.ntmps124 Try.results124 rfl rfl rfl (by simp) ?_) | (refine det_fnC Try.func124 rfl Try.ntmps124 Try.results124 rfl rfl (by simp) ?_)
  simp
  by_cases h0 : d = 0
  · simp [h0, mkF, keeps_app]
  simp [h0]
  refine awCall_det' (mag_i n (by omega) (by omega)) (by simp) ?_
  try simp
  refine awCall_det' (mag_i d (by omega) (by omega)) (by simp) ?_
  try simp
  refine awCall_det' (gcd_i _ _ (by omega) (by omega)) (by simp) ?_
  have hg : 0 < n.natAbs.gcd d.natAbs := Nat.gcd_pos_of_pos_right _ (by omega)
  have hmk : mkF n d = if 1000000000 < qN n.natAbs (n.natAbs.gcd d.natAbs) ∨ 1000000 < qN d.natAbs (n.natAbs.gcd d.natAbs) then (⟨0, 0⟩, 2) else
      (⟨if (decide (n < 0) != decide (d < 0)) = true then -((qN n.natAbs (n.natAbs.gcd d.natAbs) : Nat) : Int) else ((qN n.natAbs (n.natAbs.gcd d.natAbs) : Nat) : Int), ((qN d.natAbs (n.natAbs.gcd d.natAbs) : Nat) : Int)⟩, 0) := by unfold mkF qN; rw [if_neg h0]
  rw [hmk]
  clear hmk
  have ba : n.natAbs < 9223372036854775808 := by omega
  have bc : d.natAbs < 9223372036854775808 := by omega
  generalize n.natAbs.gcd d.natAbs = g at *
  generalize n.natAbs = a at *
  generalize d.natAbs = c at *
  have hA := qN_le a g
  have hB := qN_le c g
  have hg0 : ¬ g = 0 := by omega
  try simp
  have hbd : ∀ n : Nat, Region.binds Region.Mode.any ⟨n, Ground.data⟩ = true := fun _ => by rfl
  refine awDraw_I (RM _ _ _ a c g) (by kernel_rfl) (by kernel_rfl) ⟨rfl, rfl, by simp, by simp, by simp, fun h => by simp at h, fun h => by simp at h, fun h => by simp at h, fun h => by simp at h, fun h => by simp at h, fun h => by simp at h, fun h => by simp at h, fun h => by simp at h, fun t _ _ _ => rfl⟩ ?_ ?_
  · rintro X ⟨n', T, M'⟩ k o hI ho hX hd
    have hk : k < 8 := by have := (List.getElem?_eq_some_iff.1 ho).1; simpa using this
    obtain ⟨en, eM, t6, t7, t8, c0, c1, c2, c3, c4, c5, d6, d7, rest⟩ := id hI
    simp only at en eM t6 t7 t8 c0 c1 c2 c3 c4 c5
    subst en
    subst eM
    rcases k with _ | _ | _ | _ | _ | _ | _ | _ | k
    all_goals first | omega | (simp at ho; subst ho; simp [hbd] at hd; try simp at hX)
    · have x6 : X 6 = false := by
        cases h6 : X 6 with
        | false => rfl
        | true => rw [d6 h6] at hX; cases hX
      rw [x6] at t6
      simp at t6
      simp [t6]
      exact hI.step (k := 0) (by omega) (fun h => by omega) (fun h => by omega)
    · simp [t8]
      exact hI.step (k := 1) (by omega) (fun h => by omega) (fun h => by omega)
    · simp [c0 hd.1, c1 hd.2, hg0, tdiv_q]
      rw [div_q, u64_in (x := ((qN a g : Nat) : Int)) (by omega) (by omega)]
      exact hI.step (k := 2) (by omega) (fun h => by omega) (fun h => by omega)
    · have x7 : X 7 = false := by
        cases h7 : X 7 with
        | false => rfl
        | true => rw [d7 h7] at hX; cases hX
      rw [x7] at t7
      simp at t7
      simp [t7]
      exact hI.step (k := 3) (by omega) (fun h => by omega) (fun h => by omega)
    · simp [t8]
      exact hI.step (k := 4) (by omega) (fun h => by omega) (fun h => by omega)
    · simp [c3 hd.1, c4 hd.2.1, hg0, tdiv_q]
      rw [div_q, u64_in (x := ((qN c g : Nat) : Int)) (by omega) (by omega)]
      exact hI.step (k := 5) (by omega) (fun h => by omega) (fun h => by omega)
    · have x0 : X 0 = true := hd.2.1 (by rfl)
      simp [c2 hd.1]
      exact hI.step (k := 6) (by omega) (fun _ => x0) (fun h => by omega)
    · have x3 : X 3 = true := hd.2.2.2.2.2.1 (by rfl)
      simp [c5 hd.1]
      exact hI.step (k := 7) (by omega) (fun h => by omega) (fun _ => x3)
  · rintro X ⟨n', T, M'⟩ hX ⟨en, eM, t6, t7, t8, c0, c1, c2, c3, c4, c5, d6, d7, rest⟩
    simp only [hX 6 (by simp), hX 7 (by simp), if_true] at t6 t7 en eM
    subst en
    subst eM
    have r0 : look T 0 = _ := rest 0 (by omega) (by omega) (by omega)
    have r1 : look T 1 = _ := rest 1 (by omega) (by omega) (by omega)
    have r4 : look T 4 = _ := rest 4 (by omega) (by omega) (by omega)
    simp at r0 r1 r4
    simp [t6, t7, r0, r1, r4]
    generalize qN a g = p at *
    generalize qN c g = q at *
    by_cases l1 : 1000000000 < p
    · have l1' : (1000000000 : Int) < p := by omega
      simp [l1, l1', t6, t7, r0, r1, r4, fr_build0, keeps_app]
    · have l1' : ¬ (1000000000 : Int) < p := by omega
      by_cases l2 : 1000000 < q
      · have l2' : (1000000 : Int) < q := by omega
        simp [l1, l1', l2, l2', t6, t7, r0, r1, r4, fr_build0, keeps_app]
      · have l2' : ¬ (1000000 : Int) < q := by omega
        by_cases k1 : n < 0
        · by_cases k2 : d < 0
          · simp (disch := omega) [l1, l1', l2, l2', t6, t7, r0, r1, r4, k1, k2, wrap_in, fr_build, keeps_app]
          · simp (disch := omega) [l1, l1', l2, l2', t6, t7, r0, r1, r4, k1, k2, wrap_in, fr_build, keeps_app]
        · by_cases k2 : d < 0
          · simp (disch := omega) [l1, l1', l2, l2', t6, t7, r0, r1, r4, k1, k2, wrap_in, fr_build, keeps_app]
          · simp (disch := omega) [l1, l1', l2, l2', t6, t7, r0, r1, r4, k1, k2, wrap_in, fr_build, keeps_app]
end Go.Proofs.Ytgaiejaegimilaa
