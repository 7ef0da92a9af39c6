/- Parts of the proof, together: Fractions: both packages' functions. Fractions: valid ones, sums and products, in both packages. Fractions: sums, differences, products, order and beats, in both packages. Note: records in memory, and the laws' helpers on them. Score: a struct that holds a slice of records. No conditions. -/
import Derived.Test.YtimijeeihicohaaGreatZzPf19
import Derived.Test.YtimijeeihicohaaGreatZzPf15
import Derived.Test.YtimijeeihicohaaGreatZzPf9
import Derived.Laws.StructEq
namespace Go.Proofs.YtimijeeihicohaaGreat
open Go.RowKit
set_option linter.unusedVariables false
set_option linter.unusedSimpArgs false
set_option maxRecDepth 100000
attribute [local simp] List.getElem?_cons_zero
attribute [local irreducible] awCond awCall awLoop awDraw ow retQ retC resQ Keeps
structure RG (M : Mem) (a c : Nat) (X : Nat → Bool) (S : St) : Prop where
  n : S.n = 12
  M : S.M = M
  t0 : look S.T 0 = some (uv (if X 4 = true then c else a : Nat))
  t1 : look S.T 1 = some (uv (if X 5 = true then a % c else c : Nat))
  c0 : X 0 = true → look S.T 7 = some (uv c)
  c1 : X 1 = true → look S.T 8 = some (uv a)
  c2 : X 2 = true → look S.T 9 = some (uv c)
  c3 : X 3 = true → look S.T 10 = some (uv (a % c : Nat))
  d4 : X 4 = true → X 1 = true
  d5 : X 5 = true → X 0 = true ∧ X 2 = true
theorem gcd_i {M : Mem} (x y : Nat) (hx : x < 18446744073709551616) (hy : y < 18446744073709551616) : Det Tryz.prog M.length 213 [uv x, uv y] M (uv (x.gcd y : Nat)) M := by
  first | (refine det_fn Tryz.func213 rfl Tryz.ntmps213 Tryz.results213 rfl rfl rfl (by simp) ?_) | (refine det_fnC Tryz.func213 rfl Tryz.ntmps213 Tryz.results213 rfl rfl (by simp) ?_)
  simp
  refine awLoop_T (fun m T M' => ∃ a c : Nat, c = m ∧ a < 18446744073709551616 ∧ c < 18446744073709551616 ∧ a.gcd c = x.gcd y ∧ M' = M ∧ look T 0 = some (uv a) ∧ look T 1 = some (uv c)) y ⟨x, y, rfl, hx, hy, rfl, rfl, by simp, by simp⟩ ?_
  rintro m T M' ⟨a, c, rfl, ha, hc, hg, rfl, h0, h1⟩
  by_cases hc0 : c = 0
  · subst hc0
    rw [Nat.gcd_zero_right] at hg
    simp [h0, h1, hg, Keeps.refl]
  · have hc1 : ¬ (c : Int) = 0 := by omega
    simp [h0, h1, hc0, hc1]
    have hbd : ∀ n : Nat, Region.binds Region.Mode.any ⟨n, Ground.data⟩ = true := fun _ => by rfl
    refine awDraw_I (RG M' a c) (by kernel_rfl) (by kernel_rfl) ⟨rfl, rfl, by simp [h0], by simp [h1], fun h => by simp at h, fun h => by simp at h, fun h => by simp at h, fun h => by simp at h, fun h => by simp at h, fun h => by simp at h⟩ ?_ ?_
    · rintro X ⟨n', T, M⟩ k o ⟨en, eM, t0, t1, c0, c1, c2, c3, d4, d5⟩ ho hX hd
      have hk : k < 6 := by have := (List.getElem?_eq_some_iff.1 ho).1; simpa using this
      simp only at en eM t0 t1 c0 c1 c2 c3
      subst en
      rcases k with _ | _ | _ | _ | _ | _ | k
      all_goals first | omega | (simp at ho; subst ho; simp [hbd] at hd; try simp at hX)
      · have x5 : X 5 = false := by
          cases h5 : X 5 with
          | false => rfl
          | true => rw [(d5 h5).1] at hX; cases hX
        rw [x5] at t1
        simp at t1
        simp [t1]
        refine ⟨rfl, eM, by simpa [upX] using t0, by simp [t1, x5, upX], fun _ => by simp, fun h => by simpa using c1 (by simpa [upX] using h), fun h => by simpa using c2 (by simpa [upX] using h), fun h => by simpa using c3 (by simpa [upX] using h), fun h => by simpa [upX] using d4 (by simpa [upX] using h), fun h => by simp [upX] at h; simp [upX, (d5 h).2]⟩
      · have x4 : X 4 = false := by
          cases h4 : X 4 with
          | false => rfl
          | true => rw [d4 h4] at hX; cases hX
        rw [x4] at t0
        simp at t0
        simp [t0]
        refine ⟨rfl, eM, by simp [t0, x4, upX], by simpa [upX] using t1, fun h => by simpa using c0 (by simpa [upX] using h), fun _ => by simp, fun h => by simpa using c2 (by simpa [upX] using h), fun h => by simpa using c3 (by simpa [upX] using h), fun h => by simp [upX], fun h => by simpa [upX] using d5 (by simpa [upX] using h)⟩
      · have x5 : X 5 = false := by
          cases h5 : X 5 with
          | false => rfl
          | true => rw [(d5 h5).2] at hX; cases hX
        rw [x5] at t1
        simp at t1
        simp [t1]
        refine ⟨rfl, eM, by simpa [upX] using t0, by simp [t1, x5, upX], fun h => by simpa using c0 (by simpa [upX] using h), fun h => by simpa using c1 (by simpa [upX] using h), fun _ => by simp, fun h => by simpa using c3 (by simpa [upX] using h), fun h => by simpa [upX] using d4 (by simpa [upX] using h), fun h => by simp [upX] at h; simp [upX, (d5 h).1]⟩
      · have e1 := c1 hd.1
        have e2 := c2 hd.2
        simp [e1, e2, hc0, hc1, tmod_nat]
        refine ⟨rfl, eM, by simpa [upX] using t0, by simpa [upX] using t1, fun h => by simpa using c0 (by simpa [upX] using h), fun h => by simpa using c1 (by simpa [upX] using h), fun h => by simpa using c2 (by simpa [upX] using h), fun _ => by simp, fun h => by simpa [upX] using d4 (by simpa [upX] using h), fun h => by simpa [upX] using d5 (by simpa [upX] using h)⟩
      · have e0 := c0 hd.1
        have x1 : X 1 = true := hd.2.2.1 (by rfl)
        simp [e0]
        refine ⟨rfl, eM, by simp, by simpa [upX] using t1, fun h => by simpa using c0 (by simpa [upX] using h), fun h => by simpa using c1 (by simpa [upX] using h), fun h => by simpa using c2 (by simpa [upX] using h), fun h => by simpa using c3 (by simpa [upX] using h), fun _ => by simpa [upX] using x1, fun h => by simpa [upX] using d5 (by simpa [upX] using h)⟩
      · have e3 := c3 hd.1
        have x0 : X 0 = true := hd.2.2.1 (by rfl)
        have x2 : X 2 = true := hd.2.2.2.2.1 (by rfl)
        simp [e3]
        refine ⟨rfl, eM, by simpa [upX] using t0, by simp, fun h => by simpa using c0 (by simpa [upX] using h), fun h => by simpa using c1 (by simpa [upX] using h), fun h => by simpa using c2 (by simpa [upX] using h), fun h => by simpa using c3 (by simpa [upX] using h), fun h => by simpa [upX] using d4 (by simpa [upX] using h), fun _ => by simp [upX, x0, x2]⟩
    · rintro X ⟨n', T, M⟩ hX ⟨en, eM, t0, t1, c0, c1, c2, c3, d4, d5⟩
      have x4 := hX 4 (by simp)
      have x5 := hX 5 (by simp)
      simp only [x4, x5, if_true] at t0 t1 en eM
      subst en
      subst eM
      simp
      have hlt := Nat.mod_lt a (show 0 < c by omega)
      exact lpI (a % c) hlt ⟨c, a % c, rfl, hc, by omega, by rw [Nat.gcd_comm c, ← Nat.gcd_rec, Nat.gcd_comm, hg], rfl, t0, t1⟩
theorem gcd_s {M : Mem} (x y : Nat) (hx : x < 18446744073709551616) (hy : y < 18446744073709551616) : Det Tryz.prog M.length 202 [uv x, uv y] M (uv (x.gcd y : Nat)) M := by
  first | (refine det_fn Tryz.func202 rfl Tryz.ntmps202 Tryz.results202 rfl rfl rfl (by simp) ?_) | (refine det_fnC Tryz.func202 rfl Tryz.ntmps202 Tryz.results202 rfl rfl (by simp) ?_)
  simp
  refine awLoop_T (fun m T M' => ∃ a c : Nat, c = m ∧ a < 18446744073709551616 ∧ c < 18446744073709551616 ∧ a.gcd c = x.gcd y ∧ M' = M ∧ look T 0 = some (uv a) ∧ look T 1 = some (uv c)) y ⟨x, y, rfl, hx, hy, rfl, rfl, by simp, by simp⟩ ?_
  rintro m T M' ⟨a, c, rfl, ha, hc, hg, rfl, h0, h1⟩
  by_cases hc0 : c = 0
  · subst hc0
    rw [Nat.gcd_zero_right] at hg
    simp [h0, h1, hg, Keeps.refl]
  · have hc1 : ¬ (c : Int) = 0 := by omega
    have hc2 : 0 < c := by omega
    simp [h0, h1, hc0, hc1, hc2, tmod_nat]
    have hlt := Nat.mod_lt a (show 0 < c by omega)
    refine lpI (a % c) hlt ⟨c, a % c, rfl, hc, by omega, by rw [Nat.gcd_comm c, ← Nat.gcd_rec, Nat.gcd_comm, hg], rfl, by simp, by simp⟩
theorem mag_i {M : Mem} (n : Int) (h1 : -9223372036854775808 ≤ n) (h2 : n ≤ 9223372036854775807) : Det Tryz.prog M.length 214 [iv n] M (uv n.natAbs) M := by
  first | (refine det_fn Tryz.func214 rfl Tryz.ntmps214 Tryz.results214 rfl rfl rfl (by simp) ?_) | (refine det_fnC Tryz.func214 rfl Tryz.ntmps214 Tryz.results214 rfl rfl (by simp) ?_)
  simp
  by_cases h : n < 0
  · have e : IntKind.u64.wrap (-IntKind.u64.wrap n) = ((n.natAbs : Nat) : Int) := by rw [← Int.zero_sub, u64_mag h1 h]; omega
    simp [h, e, Keeps.refl]
  · have e : IntKind.u64.wrap n = ((n.natAbs : Nat) : Int) := by rw [u64_in (by omega) (by omega)]; omega
    simp [h, e, Keeps.refl]
theorem mag_s {M : Mem} (n : Int) (h1 : -9223372036854775808 ≤ n) (h2 : n ≤ 9223372036854775807) : Det Tryz.prog M.length 203 [iv n] M (uv n.natAbs) M := by
  first | (refine det_fn Tryz.func203 rfl Tryz.ntmps203 Tryz.results203 rfl rfl rfl (by simp) ?_) | (refine det_fnC Tryz.func203 rfl Tryz.ntmps203 Tryz.results203 rfl rfl (by simp) ?_)
  simp
  by_cases h : n < 0
  · have e : IntKind.u64.wrap (IntKind.u64.wrap (-(n + 1)) + 1) = ((n.natAbs : Nat) : Int) := by rw [u64_in (x := -(n + 1)) (by omega) (by omega), u64_in (by omega) (by omega)]; omega
    simp (disch := omega) [h, e, wrap_in, Keeps.refl]
  · have e : IntKind.u64.wrap n = ((n.natAbs : Nat) : Int) := by rw [u64_in (by omega) (by omega)]; omega
    simp [h, e, Keeps.refl]
end Go.Proofs.YtimijeeihicohaaGreat

namespace Go.Proofs.YtimijeeihicohaaGreat
open Go.RowKit
set_option linter.unusedVariables false
set_option linter.unusedSimpArgs false
set_option maxRecDepth 100000
attribute [local simp] List.getElem?_cons_zero
attribute [local irreducible] awCond awCall awLoop awDraw ow retQ retC resQ Keeps
theorem isFrac_i {M : Mem} (f : Frac) : Det Tryz.prog M.length 176 [f.v] M (.bool (fracB f)) M := by
  first | (refine det_fn Tryz.func176 rfl Tryz.ntmps176 Tryz.results176 rfl rfl rfl (by simp) ?_) | (refine det_fnC Tryz.func176 rfl Tryz.ntmps176 Tryz.results176 rfl rfl (by simp) ?_)
  simp
  refine awDraw_E 15 [[],[0],[1,0],[2,1,0],[3,2,1,0],[4,3,2,1,0],[5,4,3,2,1,0],[3,2,1,0,6,5,4],[7,3,2,1,0,6,5,4],[8,7,3,2,1,0,6,5,4],[9,8,7,3,2,1,0,6,5,4],[10,9,8,7,3,2,1,0,6,5,4],[8,7,3,2,1,0,6,5,4],[12,8,7,3,2,1,0,6,5,4],[13,12,8,7,3,2,1,0,6,5,4],[11,10,9,8,7,3,2,1,0,6,5,4,14,13,12],[15,11,10,9,8,7,3,2,1,0,6,5,4,14,13,12],[8,7,3,2,1,0,6,5,4,16,15,11,10,9,14,13,12],[17,8,7,3,2,1,0,6,5,4,16,15,11,10,9,14,13,12]] (by kernel_rfl) (by kernel_rfl) ?_
  simp
  refine awCall_det' (within_a _ _ _) (by simp) ?_
  by_cases h1 : inB f.d 1 1000000 = true
  · have b1 := inB_iff.1 h1
    simp [h1]
    refine awCall_det' (within_a _ _ _) (by simp) ?_
    by_cases h2 : inB f.n (-1000000000) 1000000000 = true
    · have b2 := inB_iff.1 h2
      simp [h2]
      refine awCall_det' (mag_i _ (by omega) (by omega)) (by simp) ?_
      have e : IntKind.u64.wrap f.d = ((f.d.natAbs : Nat) : Int) := by rw [u64_in (by omega) (by omega)]; omega
      simp [e]
      refine awCall_det' (gcd_i _ _ (by omega) (by omega)) (by simp) ?_
      have eb : fracB f = decide (f.n.natAbs.gcd f.d.natAbs = 1) := by simp [fracB, h1, h2]
      rw [eb]
      by_cases h3 : f.n.natAbs.gcd f.d.natAbs = 1
      · simp [h3, keeps_app]
      · have h3' : ¬ ((f.n.natAbs.gcd f.d.natAbs : Nat) : Int) = 1 := by omega
        simp [h3, h3', keeps_app]
    · have eb : fracB f = false := by simp [fracB, h2]
      simp [h2, eb, keeps_app]
  · have eb : fracB f = false := by simp [fracB, h1]
    simp [h1, eb, keeps_app]
theorem l02Ok_a {M : Mem} (f : Frac) : Det Tryz.prog M.length 162 [f.v] M (.bool (fracB f)) M := by
  first | (refine det_fn Tryz.func162 rfl Tryz.ntmps162 Tryz.results162 rfl rfl rfl (by simp) ?_) | (refine det_fnC Tryz.func162 rfl Tryz.ntmps162 Tryz.results162 rfl rfl (by simp) ?_)
  simp
  refine awDraw_E 15 [[],[0],[1,0],[2,1,0],[3,2,1,0],[4,3,2,1,0],[5,4,3,2,1,0],[3,2,1,0,6,5,4],[7,3,2,1,0,6,5,4],[8,7,3,2,1,0,6,5,4],[9,8,7,3,2,1,0,6,5,4],[10,9,8,7,3,2,1,0,6,5,4],[8,7,3,2,1,0,6,5,4],[12,8,7,3,2,1,0,6,5,4],[13,12,8,7,3,2,1,0,6,5,4],[11,10,9,8,7,3,2,1,0,6,5,4,14,13,12],[15,11,10,9,8,7,3,2,1,0,6,5,4,14,13,12],[8,7,3,2,1,0,6,5,4,16,15,11,10,9,14,13,12],[17,8,7,3,2,1,0,6,5,4,16,15,11,10,9,14,13,12]] (by kernel_rfl) (by kernel_rfl) ?_
  simp
  refine awCall_det' (l00In_a _ _ _) (by simp) ?_
  by_cases h1 : inB f.d 1 1000000 = true
  · have b1 := inB_iff.1 h1
    simp [h1]
    refine awCall_det' (l00In_a _ _ _) (by simp) ?_
    by_cases h2 : inB f.n (-1000000000) 1000000000 = true
    · have b2 := inB_iff.1 h2
      simp [h2]
      refine awCall_det' (mag_s _ (by omega) (by omega)) (by simp) ?_
      have e : IntKind.u64.wrap f.d = ((f.d.natAbs : Nat) : Int) := by rw [u64_in (by omega) (by omega)]; omega
      simp [e]
      refine awCall_det' (gcd_s _ _ (by omega) (by omega)) (by simp) ?_
      have eb : fracB f = decide (f.n.natAbs.gcd f.d.natAbs = 1) := by simp [fracB, h1, h2]
      rw [eb]
      by_cases h3 : f.n.natAbs.gcd f.d.natAbs = 1
      · simp [h3, keeps_app]
      · have h3' : ¬ ((f.n.natAbs.gcd f.d.natAbs : Nat) : Int) = 1 := by omega
        simp [h3, h3', keeps_app]
    · have eb : fracB f = false := by simp [fracB, h2]
      simp [h2, eb, keeps_app]
  · have eb : fracB f = false := by simp [fracB, h1]
    simp [h1, eb, keeps_app]
theorem fr_build0 : Instr.fill (fun x => [(0, 1), (1, 1)][x]?) #[iv 0, iv 0] [] = some #[iv 0, iv 0] := by rfl
theorem fr_build (a b : Int) : Instr.fill (fun x => [(0, 1), (1, 1)][x]?) #[iv 0, iv 0] [(0, iv a), (1, iv b)] = some #[iv a, iv b] := by rfl
def qN (x y : Nat) : Nat := x / y
theorem qN_le (x y : Nat) : qN x y ≤ x := Nat.div_le_self _ _
theorem tdiv_q (x y : Nat) : ((x : Int)).tdiv y = ((qN x y : Nat) : Int) := tdiv_nat x y
theorem div_q (x y : Nat) : (x : Int) / y = ((qN x y : Nat) : Int) := rfl
/-- Two quotients by the same number, assigned at once. -/
structure RM (n0 : Nat) (T0 : List (Nat × Value)) (M : Mem) (a c g : Nat) (X : Nat → Bool) (S : St) : Prop where
  n : S.n = n0
  M : S.M = M
  t6 : look S.T 6 = some (uv (if X 6 = true then qN a g else a : Nat))
  t7 : look S.T 7 = some (uv (if X 7 = true then qN c g else c : Nat))
  t8 : look S.T 8 = some (uv g)
  c0 : X 0 = true → look S.T 20 = some (uv a)
  c1 : X 1 = true → look S.T 21 = some (uv g)
  c2 : X 2 = true → look S.T 22 = some (uv (qN a g : Nat))
  c3 : X 3 = true → look S.T 23 = some (uv c)
  c4 : X 4 = true → look S.T 24 = some (uv g)
  c5 : X 5 = true → look S.T 25 = some (uv (qN c g : Nat))
  d6 : X 6 = true → X 0 = true
  d7 : X 7 = true → X 3 = true
  rest : ∀ t, t ≠ 6 → t ≠ 7 → (t < 20 ∨ 25 < t) → look S.T t = look T0 t
def RMv (a c g : Nat) : Nat → Nat × Nat
  | 0 => (20, a)
  | 1 => (21, g)
  | 2 => (22, qN a g)
  | 3 => (23, c)
  | 4 => (24, g)
  | 5 => (25, qN c g)
  | 6 => (6, qN a g)
  | _ => (7, qN c g)
theorem RM.step {n0 : Nat} {T0 T : List (Nat × Value)} {M : Mem} {a c g k : Nat} {X : Nat → Bool} (h : RM n0 T0 M a c g X ⟨n0, T, M⟩) (hk : k < 8) (h6 : k = 6 → X 0 = true) (h7 : k = 7 → X 3 = true) : RM n0 T0 M a c g (upX X k) ⟨n0, ((RMv a c g k).1, uv (RMv a c g k).2) :: T, M⟩ := by
  obtain ⟨-, -, t6, t7, t8, c0, c1, c2, c3, c4, c5, d6, d7, rest⟩ := h
  simp only at t6 t7 t8 c0 c1 c2 c3 c4 c5 rest
  have up : ∀ {j : Nat}, upX X k j = true → j ≠ k → X j = true := fun {j} hj e => by rwa [upX_ne e] at hj
  have up2 : ∀ {j : Nat}, X j = true → upX X k j = true := fun {j} hj => by
    by_cases e : j = k
    · subst e; simp
    · rwa [upX_ne e]
  have dst : ∀ t : Nat, t ≠ (RMv a c g k).1 → look (((RMv a c g k).1, uv (RMv a c g k).2) :: T) t = look T t := fun t ht => look_other ht
  have same : look (((RMv a c g k).1, uv (RMv a c g k).2) :: T) (RMv a c g k).1 = some (uv (RMv a c g k).2) := look_same
  have hd : (RMv a c g k).1 = (if k < 6 then 20 + k else k) := by
    rcases k with _ | _ | _ | _ | _ | _ | _ | _ | k <;> first | omega | rfl
  have cl : ∀ (j t : Nat) (x : Nat), j < 6 → t = 20 + j → (RMv a c g j) = (t, x) → (X j = true → look T t = some (uv x)) → (upX X k j = true → look (((RMv a c g k).1, uv (RMv a c g k).2) :: T) t = some (uv x)) := by
    intro j t x hj ht hv hc hx
    by_cases e : j = k
    · subst e
      rw [hv]
      exact look_same
    · rw [dst t (by rw [hd]; split <;> omega)]
      exact hc (up hx e)
  refine ⟨rfl, rfl, ?_, ?_, ?_, cl 0 20 a (by omega) rfl rfl c0, cl 1 21 g (by omega) rfl rfl c1, cl 2 22 (qN a g) (by omega) rfl rfl c2, cl 3 23 c (by omega) rfl rfl c3, cl 4 24 g (by omega) rfl rfl c4, cl 5 25 (qN c g) (by omega) rfl rfl c5, fun hx => ?_, fun hx => ?_, fun t n6 n7 ht => ?_⟩
  · by_cases e : 6 = k
    · subst e; simp [RMv]
    · rw [dst 6 (by rw [hd]; split <;> omega), upX_ne e]; exact t6
  · by_cases e : 7 = k
    · subst e; simp [RMv]
    · rw [dst 7 (by rw [hd]; split <;> omega), upX_ne e]; exact t7
  · rw [dst 8 (by rw [hd]; split <;> omega)]; exact t8
  · by_cases e : 6 = k
    · exact up2 (h6 e.symm)
    · exact up2 (d6 (up hx e))
  · by_cases e : 7 = k
    · exact up2 (h7 e.symm)
    · exact up2 (d7 (up hx e))
  · show look (((RMv a c g k).1, uv (RMv a c g k).2) :: T) t = look T0 t
    rw [dst t (by rw [hd]; split <;> omega)]; exact rest t n6 n7 ht
set_option maxHeartbeats 1000000 in
theorem MakeFrac_i {M : Mem} (n d : Int) (hn1 : -9223372036854775807 ≤ n) (hn2 : n ≤ 9223372036854775807) (hd1 : -9223372036854775807 ≤ d) (hd2 : d ≤ 9223372036854775807) : Det Tryz.prog M.length 216 [iv n, iv d] M (.tuple #[(mkF n d).1.v, iv (mkF n d).2]) M := by
  first | (refine det_fn Tryz.func216 rfl Tryz.ntmps216 Tryz.results216 rfl rfl rfl (by simp) ?_) | (refine det_fnC Tryz.func216 rfl Tryz.ntmps216 Tryz.results216 rfl rfl (by simp) ?_)
  simp
  by_cases h0 : d = 0
  · simp [h0, mkF, keeps_app]
  simp [h0]
  refine awCall_det' (mag_i n (by omega) (by omega)) (by simp) ?_
  try simp
  refine awCall_det' (mag_i d (by omega) (by omega)) (by simp) ?_
  try simp
  refine awCall_det' (gcd_i _ _ (by omega) (by omega)) (by simp) ?_
  have hg : 0 < n.natAbs.gcd d.natAbs := Nat.gcd_pos_of_pos_right _ (by omega)
  have hmk : mkF n d = if 1000000000 < qN n.natAbs (n.natAbs.gcd d.natAbs) ∨ 1000000 < qN d.natAbs (n.natAbs.gcd d.natAbs) then (⟨0, 0⟩, 2) else
      (⟨if (decide (n < 0) != decide (d < 0)) = true then -((qN n.natAbs (n.natAbs.gcd d.natAbs) : Nat) : Int) else ((qN n.natAbs (n.natAbs.gcd d.natAbs) : Nat) : Int), ((qN d.natAbs (n.natAbs.gcd d.natAbs) : Nat) : Int)⟩, 0) := by unfold mkF qN; rw [if_neg h0]
  rw [hmk]
  clear hmk
  have ba : n.natAbs < 9223372036854775808 := by omega
  have bc : d.natAbs < 9223372036854775808 := by omega
  generalize n.natAbs.gcd d.natAbs = g at *
  generalize n.natAbs = a at *
  generalize d.natAbs = c at *
  have hA := qN_le a g
  have hB := qN_le c g
  have hg0 : ¬ g = 0 := by omega
  try simp
  have hbd : ∀ n : Nat, Region.binds Region.Mode.any ⟨n, Ground.data⟩ = true := fun _ => by rfl
  refine awDraw_I (RM _ _ _ a c g) (by kernel_rfl) (by kernel_rfl) ⟨rfl, rfl, by simp, by simp, by simp, fun h => by simp at h, fun h => by simp at h, fun h => by simp at h, fun h => by simp at h, fun h => by simp at h, fun h => by simp at h, fun h => by simp at h, fun h => by simp at h, fun t _ _ _ => rfl⟩ ?_ ?_
  · rintro X ⟨n', T, M'⟩ k o hI ho hX hd
    have hk : k < 8 := by have := (List.getElem?_eq_some_iff.1 ho).1; simpa using this
    obtain ⟨en, eM, t6, t7, t8, c0, c1, c2, c3, c4, c5, d6, d7, rest⟩ := id hI
    simp only at en eM t6 t7 t8 c0 c1 c2 c3 c4 c5
    subst en
    subst eM
    rcases k with _ | _ | _ | _ | _ | _ | _ | _ | k
    all_goals first | omega | (simp at ho; subst ho; simp [hbd] at hd; try simp at hX)
    · have x6 : X 6 = false := by
        cases h6 : X 6 with
        | false => rfl
        | true => rw [d6 h6] at hX; cases hX
      rw [x6] at t6
      simp at t6
      simp [t6]
      exact hI.step (k := 0) (by omega) (fun h => by omega) (fun h => by omega)
    · simp [t8]
      exact hI.step (k := 1) (by omega) (fun h => by omega) (fun h => by omega)
    · simp [c0 hd.1, c1 hd.2, hg0, tdiv_q]
      rw [div_q, u64_in (x := ((qN a g : Nat) : Int)) (by omega) (by omega)]
      exact hI.step (k := 2) (by omega) (fun h => by omega) (fun h => by omega)
    · have x7 : X 7 = false := by
        cases h7 : X 7 with
        | false => rfl
        | true => rw [d7 h7] at hX; cases hX
      rw [x7] at t7
      simp at t7
      simp [t7]
      exact hI.step (k := 3) (by omega) (fun h => by omega) (fun h => by omega)
    · simp [t8]
      exact hI.step (k := 4) (by omega) (fun h => by omega) (fun h => by omega)
    · simp [c3 hd.1, c4 hd.2.1, hg0, tdiv_q]
      rw [div_q, u64_in (x := ((qN c g : Nat) : Int)) (by omega) (by omega)]
      exact hI.step (k := 5) (by omega) (fun h => by omega) (fun h => by omega)
    · have x0 : X 0 = true := hd.2.1 (by rfl)
      simp [c2 hd.1]
      exact hI.step (k := 6) (by omega) (fun _ => x0) (fun h => by omega)
    · have x3 : X 3 = true := hd.2.2.2.2.2.1 (by rfl)
      simp [c5 hd.1]
      exact hI.step (k := 7) (by omega) (fun h => by omega) (fun _ => x3)
  · rintro X ⟨n', T, M'⟩ hX ⟨en, eM, t6, t7, t8, c0, c1, c2, c3, c4, c5, d6, d7, rest⟩
    simp only [hX 6 (by simp), hX 7 (by simp), if_true] at t6 t7 en eM
    subst en
    subst eM
    have r0 : look T 0 = _ := rest 0 (by omega) (by omega) (by omega)
    have r1 : look T 1 = _ := rest 1 (by omega) (by omega) (by omega)
    have r4 : look T 4 = _ := rest 4 (by omega) (by omega) (by omega)
    simp at r0 r1 r4
    simp [t6, t7, r0, r1, r4]
    generalize qN a g = p at *
    generalize qN c g = q at *
    by_cases l1 : 1000000000 < p
    · have l1' : (1000000000 : Int) < p := by omega
      simp [l1, l1', t6, t7, r0, r1, r4, fr_build0, keeps_app]
    · have l1' : ¬ (1000000000 : Int) < p := by omega
      by_cases l2 : 1000000 < q
      · have l2' : (1000000 : Int) < q := by omega
        simp [l1, l1', l2, l2', t6, t7, r0, r1, r4, fr_build0, keeps_app]
      · have l2' : ¬ (1000000 : Int) < q := by omega
        by_cases k1 : n < 0
        · by_cases k2 : d < 0
          · simp (disch := omega) [l1, l1', l2, l2', t6, t7, r0, r1, r4, k1, k2, wrap_in, fr_build, keeps_app]
          · simp (disch := omega) [l1, l1', l2, l2', t6, t7, r0, r1, r4, k1, k2, wrap_in, fr_build, keeps_app]
        · by_cases k2 : d < 0
          · simp (disch := omega) [l1, l1', l2, l2', t6, t7, r0, r1, r4, k1, k2, wrap_in, fr_build, keeps_app]
          · simp (disch := omega) [l1, l1', l2, l2', t6, t7, r0, r1, r4, k1, k2, wrap_in, fr_build, keeps_app]
end Go.Proofs.YtimijeeihicohaaGreat

namespace Go.Proofs.YtimijeeihicohaaGreat
open Go.RowKit
set_option linter.unusedVariables false
set_option linter.unusedSimpArgs false
set_option maxRecDepth 100000
attribute [local simp] List.getElem?_cons_zero
attribute [local irreducible] awCond awCall awLoop awDraw ow retQ retC resQ Keeps
set_option maxHeartbeats 1000000 in
theorem MakeFrac_s {M : Mem} (n d : Int) (hn1 : -9223372036854775807 ≤ n) (hn2 : n ≤ 9223372036854775807) (hd1 : -9223372036854775807 ≤ d) (hd2 : d ≤ 9223372036854775807) : Det Tryz.prog M.length 167 [iv n, iv d] M (.tuple #[(mkF n d).1.v, iv (mkF n d).2]) M := by
  first | (refine det_fn Tryz.func167 rfl Tryz.ntmps167 Tryz.results167 rfl rfl rfl (by simp) ?_) | (refine det_fnC Tryz.func167 rfl Tryz.ntmps167 Tryz.results167 rfl rfl (by simp) ?_)
  simp
  by_cases h0 : d = 0
  · simp [h0, mkF, keeps_app]
  simp [h0]
  refine awCall_det' (mag_s n (by omega) (by omega)) (by simp) ?_
  try simp
  refine awCall_det' (mag_s d (by omega) (by omega)) (by simp) ?_
  try simp
  refine awCall_det' (gcd_s _ _ (by omega) (by omega)) (by simp) ?_
  have hg : 0 < n.natAbs.gcd d.natAbs := Nat.gcd_pos_of_pos_right _ (by omega)
  have hmk : mkF n d = if 1000000000 < qN n.natAbs (n.natAbs.gcd d.natAbs) ∨ 1000000 < qN d.natAbs (n.natAbs.gcd d.natAbs) then (⟨0, 0⟩, 2) else
      (⟨if (decide (n < 0) != decide (d < 0)) = true then -((qN n.natAbs (n.natAbs.gcd d.natAbs) : Nat) : Int) else ((qN n.natAbs (n.natAbs.gcd d.natAbs) : Nat) : Int), ((qN d.natAbs (n.natAbs.gcd d.natAbs) : Nat) : Int)⟩, 0) := by unfold mkF qN; rw [if_neg h0]
  rw [hmk]
  clear hmk
  have ba : n.natAbs < 9223372036854775808 := by omega
  have bc : d.natAbs < 9223372036854775808 := by omega
  generalize n.natAbs.gcd d.natAbs = g at *
  generalize n.natAbs = a at *
  generalize d.natAbs = c at *
  have hA := qN_le a g
  have hB := qN_le c g
  have hg0 : ¬ g = 0 := by omega
  simp [hg0, tdiv_q]
  rw [div_q, u64_in (x := ((qN a g : Nat) : Int)) (by omega) (by omega)]
  try simp [hg0, tdiv_q]
  rw [div_q, u64_in (x := ((qN c g : Nat) : Int)) (by omega) (by omega)]
  generalize qN a g = p at *
  generalize qN c g = q at *
  by_cases l1 : 1000000000 < p
  · have l1' : (1000000000 : Int) < p := by omega
    simp [l1, l1', fr_build0, keeps_app]
  · have l1' : ¬ (1000000000 : Int) < p := by omega
    by_cases l2 : 1000000 < q
    · have l2' : (1000000 : Int) < q := by omega
      simp [l1, l1', l2, l2', fr_build0, keeps_app]
    · have l2' : ¬ (1000000 : Int) < q := by omega
      by_cases k1 : n < 0
      · by_cases k2 : d < 0
        · simp (disch := omega) [l1, l1', l2, l2', k1, k2, wrap_in, fr_build, keeps_app]
        · simp (disch := omega) [l1, l1', l2, l2', k1, k2, wrap_in, fr_build, keeps_app]
      · by_cases k2 : d < 0
        · simp (disch := omega) [l1, l1', l2, l2', k1, k2, wrap_in, fr_build, keeps_app]
        · simp (disch := omega) [l1, l1', l2, l2', k1, k2, wrap_in, fr_build, keeps_app]
theorem fill_two {k : Nat} {z : List Value} {x y : Array Value} (hk : 0 < k) (hz : z.length = k) (hx : x.size = k) (hy : y.size = k) : Instr.fill (fun i => some (i * k, k)) (zrow z 2).toArray [(0, .agg x), (1, .agg y)] = some (x ++ y) := by
  have := Go.Great.fill_whole hk [.agg x, .agg y] (zrow z 2).toArray (by simp [hx, hy]) (by simp [zrow, hz]; omega)
  have e : (x.toList ++ y.toList).toArray = x ++ y := by apply Array.ext'; simp
  rw [← e]
  simpa using this
theorem fr_two (a b c d : Int) : Instr.fill (fun i => some (i * 2, 2)) (zrow [iv 0, iv 0] 2).toArray [(0, .agg #[iv a, iv b]), (1, .agg #[iv c, iv d])] = some #[iv a, iv b, iv c, iv d] := fill_two (by omega) rfl rfl rfl
theorem areFracs_i {M : Mem} {A : Option Addr} {n c : Nat} {l : List Frac} (h : Sl fracR M A n l) (hn : n ≤ 1099511627776) : Det Tryz.prog M.length 215 [.slice A n c] M (.bool (l.all fracB)) M := by
  have hl := h.1
  first | (refine det_fn Tryz.func215 rfl Tryz.ntmps215 Tryz.results215 rfl rfl rfl (by simp) ?_) | (refine det_fnC Tryz.func215 rfl Tryz.ntmps215 Tryz.results215 rfl rfl (by simp) ?_)
  simp
  refine awLoop_T (fun m T M' => ∃ k : Nat, k + m = n ∧ Keeps M M' ∧ (l.take k).all fracB = true ∧ look T 7 = some (iv k) ∧ look T 6 = some (iv n) ∧ look T 5 = some (.slice A n c)) n ⟨0, by omega, Keeps.refl _, by simp, by simp, by simp, by simp⟩ ?_
  rintro m T M' ⟨k, hm, hK, ha, h7, h6, h5⟩
  have hKl := hK.len
  by_cases hlt : k < n
  · obtain ⟨id, off, rfl, he, hc⟩ := (h.keeps hK).at_ hlt
    have hld := frac_load hc
    simp (disch := omega) [h7, h6, h5, hlt, he, hld]
    refine awCall_det' (isFrac_i (el l k)) (by simp; omega) ?_
    by_cases hb : fracB (el l k) = true
    · simp (disch := omega) [hb, h7, h6, h5, wrap_in]
      refine lpI (m - 1) (by omega) ⟨k + 1, by omega, hK.app _, by rw [take_el (by omega), List.all_append, ha]; simp [hb], by simp, by simp [h6], by simp [h5]⟩
    · have hno : l.all fracB = false := by
        rw [List.all_eq_false]
        exact ⟨el l k, el_mem (by omega), hb⟩
      simp [hb, hno, hK.app]
  · obtain rfl : k = n := by omega
    rw [List.take_of_length_le (by omega)] at ha
    simp [h7, h6, h5, ha, hK]
theorem AddFrac_i {M : Mem} (a b : Frac) : Det Tryz.prog M.length 180 [a.v, b.v] M (.tuple #[(addF a b).1.v, iv (addF a b).2]) M := by
  first | (refine det_fn Tryz.func180 rfl Tryz.ntmps180 Tryz.results180 rfl rfl rfl (by simp) ?_) | (refine det_fnC Tryz.func180 rfl Tryz.ntmps180 Tryz.results180 rfl rfl (by simp) ?_)
  simp [fr_two]
  have hsl : ∀ r1 r2 r3 : Slot, Sl fracR (M ++ [r1, r2, r3, .live ⟨[iv a.n, iv a.d, iv b.n, iv b.d], true, true, 152, 2⟩]) (some ⟨M.length + 3, 0, none⟩) 2 [a, b] := fun r1 r2 r3 =>
    ⟨rfl, fun _ => ⟨M.length + 3, 0, rfl, by simp [rowEsz], fun j x hx => by
      have hx' : [iv a.n, iv a.d, iv b.n, iv b.d][j]? = some x := hx
      simp [cellAt, hx']⟩⟩
  refine awCall_det' (areFracs_i (hsl _ _ _) (by omega)) (by simp) ?_
  by_cases ha : fracB a = true
  · by_cases hb : fracB b = true
    · obtain ⟨b1, b2, b3, b4⟩ := frac_bd ha hb
      simp (disch := omega) [ha, hb, wrap_in]
      refine awCall_det' (MakeFrac_i _ _ (by omega) (by omega) (by omega) (by omega)) (by simp) ?_
      have e : addF a b = mkF (a.n * b.d + b.n * a.d) (a.d * b.d) := by simp [addF, ha, hb]
      rw [e]
      simp [keeps_app]
    · have e : addF a b = (⟨0, 0⟩, 1) := by simp [addF, hb]
      simp [hb, e, fr_build0, keeps_app]
  · have e : addF a b = (⟨0, 0⟩, 1) := by simp [addF, ha]
    simp [ha, e, fr_build0, keeps_app]
theorem AddFrac_s {M : Mem} (a b : Frac) : Det Tryz.prog M.length 112 [a.v, b.v] M (.tuple #[(addF a b).1.v, iv (addF a b).2]) M := by
  first | (refine det_fn Tryz.func112 rfl Tryz.ntmps112 Tryz.results112 rfl rfl rfl (by simp) ?_) | (refine det_fnC Tryz.func112 rfl Tryz.ntmps112 Tryz.results112 rfl rfl (by simp) ?_)
  simp
  refine awCall_det' (l02Ok_a a) (by simp) ?_
  by_cases ha : fracB a = true
  · simp [ha]
    refine awCall_det' (l02Ok_a b) (by simp) ?_
    by_cases hb : fracB b = true
    · obtain ⟨b1, b2, b3, b4⟩ := frac_bd ha hb
      simp (disch := omega) [hb, wrap_in]
      refine awCall_det' (MakeFrac_s _ _ (by omega) (by omega) (by omega) (by omega)) (by simp) ?_
      have e : addF a b = mkF (a.n * b.d + b.n * a.d) (a.d * b.d) := by simp [addF, ha, hb]
      rw [e]
      simp [keeps_app]
    · have e : addF a b = (⟨0, 0⟩, 1) := by simp [addF, hb]
      simp [hb, e, fr_build0, keeps_app]
  · have e : addF a b = (⟨0, 0⟩, 1) := by simp [addF, ha]
    simp [ha, e, fr_build0, keeps_app]
theorem SubFrac_i {M : Mem} (a b : Frac) : Det Tryz.prog M.length 178 [a.v, b.v] M (.tuple #[(subF a b).1.v, iv (subF a b).2]) M := by
  first | (refine det_fn Tryz.func178 rfl Tryz.ntmps178 Tryz.results178 rfl rfl rfl (by simp) ?_) | (refine det_fnC Tryz.func178 rfl Tryz.ntmps178 Tryz.results178 rfl rfl (by simp) ?_)
  simp [fr_two]
  have hsl : ∀ r1 r2 r3 : Slot, Sl fracR (M ++ [r1, r2, r3, .live ⟨[iv a.n, iv a.d, iv b.n, iv b.d], true, true, 152, 2⟩]) (some ⟨M.length + 3, 0, none⟩) 2 [a, b] := fun r1 r2 r3 =>
    ⟨rfl, fun _ => ⟨M.length + 3, 0, rfl, by simp [rowEsz], fun j x hx => by
      have hx' : [iv a.n, iv a.d, iv b.n, iv b.d][j]? = some x := hx
      simp [cellAt, hx']⟩⟩
  refine awCall_det' (areFracs_i (hsl _ _ _) (by omega)) (by simp) ?_
  by_cases ha : fracB a = true
  · by_cases hb : fracB b = true
    · obtain ⟨b1, b2, b3, b4⟩ := frac_bd ha hb
      simp (disch := omega) [ha, hb, wrap_in]
      refine awCall_det' (MakeFrac_i _ _ (by omega) (by omega) (by omega) (by omega)) (by simp) ?_
      have e : subF a b = mkF (a.n * b.d - b.n * a.d) (a.d * b.d) := by simp [subF, ha, hb]
      rw [e]
      simp [keeps_app]
    · have e : subF a b = (⟨0, 0⟩, 1) := by simp [subF, hb]
      simp [hb, e, fr_build0, keeps_app]
  · have e : subF a b = (⟨0, 0⟩, 1) := by simp [subF, ha]
    simp [ha, e, fr_build0, keeps_app]
theorem SubFrac_s {M : Mem} (a b : Frac) : Det Tryz.prog M.length 204 [a.v, b.v] M (.tuple #[(subF a b).1.v, iv (subF a b).2]) M := by
  first | (refine det_fn Tryz.func204 rfl Tryz.ntmps204 Tryz.results204 rfl rfl rfl (by simp) ?_) | (refine det_fnC Tryz.func204 rfl Tryz.ntmps204 Tryz.results204 rfl rfl (by simp) ?_)
  simp
  refine awCall_det' (l02Ok_a a) (by simp) ?_
  by_cases ha : fracB a = true
  · simp [ha]
    refine awCall_det' (l02Ok_a b) (by simp) ?_
    by_cases hb : fracB b = true
    · obtain ⟨b1, b2, b3, b4⟩ := frac_bd ha hb
      simp (disch := omega) [hb, wrap_in]
      refine awCall_det' (MakeFrac_s _ _ (by omega) (by omega) (by omega) (by omega)) (by simp) ?_
      have e : subF a b = mkF (a.n * b.d - b.n * a.d) (a.d * b.d) := by simp [subF, ha, hb]
      rw [e]
      simp [keeps_app]
    · have e : subF a b = (⟨0, 0⟩, 1) := by simp [subF, hb]
      simp [hb, e, fr_build0, keeps_app]
  · have e : subF a b = (⟨0, 0⟩, 1) := by simp [subF, ha]
    simp [ha, e, fr_build0, keeps_app]
theorem MulFrac_i {M : Mem} (a b : Frac) : Det Tryz.prog M.length 179 [a.v, b.v] M (.tuple #[(mulF a b).1.v, iv (mulF a b).2]) M := by
  first | (refine det_fn Tryz.func179 rfl Tryz.ntmps179 Tryz.results179 rfl rfl rfl (by simp) ?_) | (refine det_fnC Tryz.func179 rfl Tryz.ntmps179 Tryz.results179 rfl rfl (by simp) ?_)
  simp [fr_two]
  have hsl : ∀ r1 r2 r3 : Slot, Sl fracR (M ++ [r1, r2, r3, .live ⟨[iv a.n, iv a.d, iv b.n, iv b.d], true, true, 152, 2⟩]) (some ⟨M.length + 3, 0, none⟩) 2 [a, b] := fun r1 r2 r3 =>
    ⟨rfl, fun _ => ⟨M.length + 3, 0, rfl, by simp [rowEsz], fun j x hx => by
      have hx' : [iv a.n, iv a.d, iv b.n, iv b.d][j]? = some x := hx
      simp [cellAt, hx']⟩⟩
  refine awCall_det' (areFracs_i (hsl _ _ _) (by omega)) (by simp) ?_
  by_cases ha : fracB a = true
  · by_cases hb : fracB b = true
    · obtain ⟨b1, b2, b3, b4⟩ := frac_bd ha hb
      simp (disch := omega) [ha, hb, wrap_in]
      refine awCall_det' (MakeFrac_i _ _ (by omega) (by omega) (by omega) (by omega)) (by simp) ?_
      have e : mulF a b = mkF (a.n * b.n) (a.d * b.d) := by simp [mulF, ha, hb]
      rw [e]
      simp [keeps_app]
    · have e : mulF a b = (⟨0, 0⟩, 1) := by simp [mulF, hb]
      simp [hb, e, fr_build0, keeps_app]
  · have e : mulF a b = (⟨0, 0⟩, 1) := by simp [mulF, ha]
    simp [ha, e, fr_build0, keeps_app]
theorem MulFrac_s {M : Mem} (a b : Frac) : Det Tryz.prog M.length 205 [a.v, b.v] M (.tuple #[(mulF a b).1.v, iv (mulF a b).2]) M := by
  first | (refine det_fn Tryz.func205 rfl Tryz.ntmps205 Tryz.results205 rfl rfl rfl (by simp) ?_) | (refine det_fnC Tryz.func205 rfl Tryz.ntmps205 Tryz.results205 rfl rfl (by simp) ?_)
  simp
  refine awCall_det' (l02Ok_a a) (by simp) ?_
  by_cases ha : fracB a = true
  · simp [ha]
    refine awCall_det' (l02Ok_a b) (by simp) ?_
    by_cases hb : fracB b = true
    · obtain ⟨b1, b2, b3, b4⟩ := frac_bd ha hb
      simp (disch := omega) [hb, wrap_in]
      refine awCall_det' (MakeFrac_s _ _ (by omega) (by omega) (by omega) (by omega)) (by simp) ?_
      have e : mulF a b = mkF (a.n * b.n) (a.d * b.d) := by simp [mulF, ha, hb]
      rw [e]
      simp [keeps_app]
    · have e : mulF a b = (⟨0, 0⟩, 1) := by simp [mulF, hb]
      simp [hb, e, fr_build0, keeps_app]
  · have e : mulF a b = (⟨0, 0⟩, 1) := by simp [mulF, ha]
    simp [ha, e, fr_build0, keeps_app]
theorem compare_i {M : Mem} (a b : Frac) (ha : fracB a = true) (hb : fracB b = true) : Det Tryz.prog M.length 124 [a.v, b.v] M (iv (cmpF a b)) M := by
  obtain ⟨b1, b2, b3, b4⟩ := frac_bd ha hb
  first | (refine det_fn Tryz.func124 rfl Tryz.ntmps124 Tryz.results124 rfl rfl rfl (by simp) ?_) | (refine det_fnC Tryz.func124 rfl Tryz.ntmps124 Tryz.results124 rfl rfl (by simp) ?_)
  simp (disch := omega) [wrap_in]
  unfold cmpF
  generalize a.n * b.d = x at *
  generalize b.n * a.d = y at *
  rcases Int.lt_trichotomy x y with h | h | h
  · have h1' : x - y < 0 := by omega
    simp [h1', keeps_app]
  · subst h
    simp [keeps_app]
  · have h1 : ¬ x < y := by omega
    have h2 : ¬ x - y < 0 := by omega
    have h3 : 0 < x - y := by omega
    rw [if_neg h2, if_pos h3]
    simp only [decide_eq_false h2, awCond_false]
    simp [h, keeps_app]
theorem compare_s {M : Mem} (a b : Frac) (ha : fracB a = true) (hb : fracB b = true) : Det Tryz.prog M.length 165 [a.v, b.v] M (iv (cmpF a b)) M := by
  obtain ⟨b1, b2, b3, b4⟩ := frac_bd ha hb
  first | (refine det_fn Tryz.func165 rfl Tryz.ntmps165 Tryz.results165 rfl rfl rfl (by simp) ?_) | (refine det_fnC Tryz.func165 rfl Tryz.ntmps165 Tryz.results165 rfl rfl (by simp) ?_)
  simp (disch := omega) [wrap_in]
  unfold cmpF
  generalize a.n * b.d = x at *
  generalize b.n * a.d = y at *
  rcases Int.lt_trichotomy x y with h | h | h
  · have h1' : x - y < 0 := by omega
    simp [h, h1', keeps_app]
  · subst h
    simp [keeps_app]
  · have h1 : ¬ x < y := by omega
    have h2 : ¬ x - y < 0 := by omega
    have h3 : 0 < x - y := by omega
    rw [if_neg h2, if_pos h3]
    simp only [decide_eq_false h1, awCond_false]
    simp [h, keeps_app]
def beatB (f : Frac) : Bool := fracB f && decide (0 ≤ f.n) && decide (f.n ≤ 1000 * f.d)
theorem whole_ok {n : Int} (h1 : -1000000000 ≤ n) (h2 : n ≤ 1000000000) : fracB ⟨n, 1⟩ = true := fracB_iff.2 ⟨by simp only; omega, by simp only; omega, Nat.gcd_one_right _⟩
theorem whole_i {M : Mem} (n : Int) : Det Tryz.prog M.length 177 [iv n] M (Frac.v ⟨n, 1⟩) M := by
  first | (refine det_fn Tryz.func177 rfl Tryz.ntmps177 Tryz.results177 rfl rfl rfl (by simp) ?_) | (refine det_fnC Tryz.func177 rfl Tryz.ntmps177 Tryz.results177 rfl rfl (by simp) ?_)
  simp [fr_build, keeps_app]
theorem isBeat_i {M : Mem} (f : Frac) : Det Tryz.prog M.length 123 [f.v] M (.bool (beatB f)) M := by
  first | (refine det_fn Tryz.func123 rfl Tryz.ntmps123 Tryz.results123 rfl rfl rfl (by simp) ?_) | (refine det_fnC Tryz.func123 rfl Tryz.ntmps123 Tryz.results123 rfl rfl (by simp) ?_)
  simp
  refine awDraw_E 10 [[],[0],[1,0],[2,1,0],[3,2,1,0],[4,3,2,1,0],[2,1,0,5,4,3],[6,2,1,0,5,4,3],[7,6,2,1,0,5,4,3],[7,6,2,1,0,5,4,3],[8,7,6,2,1,0,5,4,3,9],[10,8,7,6,2,1,0,5,4,3,9],[7,6,2,1,0,5,4,3,11,10,8,9],[12,7,6,2,1,0,5,4,3,11,10,8,9]] (by kernel_rfl) (by kernel_rfl) ?_
  simp
  refine awCall_det' (isFrac_i f) (by simp) ?_
  by_cases h1 : fracB f = true
  · have hb := fracB_iff.1 h1
    simp [h1]
    by_cases h2 : 0 ≤ f.n
    · simp [h2]
      refine awCall_det' (whole_i 1000) (by simp) ?_
      simp
      refine awCall_det' (compare_i f ⟨1000, 1⟩ h1 (whole_ok (by omega) (by omega))) (by simp) ?_
      have e : decide (cmpF f ⟨1000, 1⟩ ≤ 0) = decide (f.n ≤ 1000 * f.d) := by
        unfold cmpF
        simp only
        by_cases h3 : f.n ≤ 1000 * f.d
        · rw [decide_eq_true h3]
          split
          · rfl
          · rw [if_neg (by omega)]; rfl
        · rw [decide_eq_false h3, if_neg (by omega), if_pos (by omega)]
          rfl
      simp [e, beatB, h1, h2, keeps_app]
    · have e : beatB f = false := by simp [beatB, h2]
      simp [h2, e, keeps_app]
  · have e : beatB f = false := by simp [beatB, h1]
    simp [h1, e, keeps_app]
theorem l17Beat_a {M : Mem} (f : Frac) (h1 : fracB f = true) : Det Tryz.prog M.length 163 [f.v] M (.bool (beatB f)) M := by
  have hb := fracB_iff.1 h1
  first | (refine det_fn Tryz.func163 rfl Tryz.ntmps163 Tryz.results163 rfl rfl rfl (by simp) ?_) | (refine det_fnC Tryz.func163 rfl Tryz.ntmps163 Tryz.results163 rfl rfl (by simp) ?_)
  simp
  by_cases h2 : 0 ≤ f.n
  · simp (disch := omega) [h2, wrap_in, beatB, h1, keeps_app]
  · have e : beatB f = false := by simp [beatB, h2]
    simp [h2, e, keeps_app]
def floorF (f : Frac) : Int := if fracB f = true then f.n / f.d else 0
theorem FloorFrac_i {M : Mem} (f : Frac) : Det Tryz.prog M.length 182 [f.v] M (iv (floorF f)) M := by
  first | (refine det_fn Tryz.func182 rfl Tryz.ntmps182 Tryz.results182 rfl rfl rfl (by simp) ?_) | (refine det_fnC Tryz.func182 rfl Tryz.ntmps182 Tryz.results182 rfl rfl (by simp) ?_)
  simp
  refine awCall_det' (isFrac_i f) (by simp) ?_
  by_cases h1 : fracB f = true
  · have hb := fracB_iff.1 h1
    simp [h1]
    refine awCall_det' (floorDiv_i f.n f.d (by omega) (by omega) (by omega)) (by simp) ?_
    simp [floorF, h1, keeps_app]
  · simp [h1, floorF, keeps_app]
end Go.Proofs.YtimijeeihicohaaGreat

namespace Go.Proofs.YtimijeeihicohaaGreat
open Go.RowKit
set_option linter.unusedVariables false
set_option linter.unusedSimpArgs false
set_option maxRecDepth 100000
attribute [local simp] List.getElem?_cons_zero
attribute [local irreducible] awCond awCall awLoop awDraw ow retQ retC resQ Keeps
structure Note where
  (an ad ln ld k u o : Int)
deriving Inhabited, DecidableEq
def Note.row (c : Note) : List Value := [iv c.an, iv c.ad, iv c.ln, iv c.ld, iv c.k, iv c.u, iv c.o]
def noteR : RecV Note 7 := ⟨Note.row, fun _ => rfl⟩
abbrev Note.v (c : Note) : Value := .agg #[iv c.an, iv c.ad, iv c.ln, iv c.ld, iv c.k, iv c.u, iv c.o]
theorem note_cells {M : Mem} {id off : Nat} {g : Note} (h : Cl M id off g.row) : cellAt M id off = some (iv g.an) ∧ cellAt M id (off + 1) = some (iv g.ad) ∧ cellAt M id (off + 2) = some (iv g.ln) ∧ cellAt M id (off + 3) = some (iv g.ld) ∧ cellAt M id (off + 4) = some (iv g.k) ∧ cellAt M id (off + 5) = some (iv g.u) ∧ cellAt M id (off + 6) = some (iv g.o) :=
  ⟨h 0 _ rfl, h 1 _ rfl, h 2 _ rfl, h 3 _ rfl, h 4 _ rfl, h 5 _ rfl, h 6 _ rfl⟩
theorem note_load {M : Mem} {id off : Nat} {g : Note} (h : Cl M id off g.row) : cellsAt M id off 7 = some [iv g.an, iv g.ad, iv g.ln, iv g.ld, iv g.k, iv g.u, iv g.o] := cellsAt_of h rfl (by omega)
theorem note_eq {a b : Note} : a = b ↔ a.an = b.an ∧ a.ad = b.ad ∧ a.ln = b.ln ∧ a.ld = b.ld ∧ a.k = b.k ∧ a.u = b.u ∧ a.o = b.o := by
  cases a; cases b; simp
def noteI : Ints noteR := ⟨fun zs => ⟨gi zs 0, gi zs 1, gi zs 2, gi zs 3, gi zs 4, gi zs 5, gi zs 6⟩, fun zs h => by
  obtain ⟨x0, x1, x2, x3, x4, x5, x6, rfl⟩ : ∃ x0 x1 x2 x3 x4 x5 x6, zs = [x0, x1, x2, x3, x4, x5, x6] := by
    match zs, h with
    | [x0, x1, x2, x3, x4, x5, x6], _ => exact ⟨x0, x1, x2, x3, x4, x5, x6, rfl⟩
  rfl⟩

@[simp] theorem note_fill (x0 x1 x2 x3 x4 x5 x6 : Int) : Instr.fill (fun i => some (i * 7, 7)) (zrow [iv 0, iv 0, iv 0, iv 0, iv 0, iv 0, iv 0] 1).toArray [(0, .agg #[iv x0, iv x1, iv x2, iv x3, iv x4, iv x5, iv x6])] = some #[iv x0, iv x1, iv x2, iv x3, iv x4, iv x5, iv x6] := fill_agg (by omega) rfl rfl
theorem toNote_a {M : Mem} (g : Note) : Det Tryz.prog M.length 115 [g.v] M g.v M := by
  first | (refine det_fn Tryz.func115 rfl Tryz.ntmps115 Tryz.results115 rfl rfl rfl (by simp) ?_) | (refine det_fnC Tryz.func115 rfl Tryz.ntmps115 Tryz.results115 rfl rfl (by simp) ?_)
  simp
  refine awCall_det' (toFrac_a ⟨g.an, g.ad⟩) (by simp) ?_
  simp
  refine awCall_det' (toFrac_a ⟨g.ln, g.ld⟩) (by simp) ?_
  simp [keeps_app]
theorem eqNote_a {M : Mem} (a b : Note) : Det Tryz.prog M.length 131 [a.v, b.v] M (.bool (decide (a = b))) M := by
  first | (refine det_fn Tryz.func131 rfl Tryz.ntmps131 Tryz.results131 rfl rfl rfl (by simp) ?_) | (refine det_fnC Tryz.func131 rfl Tryz.ntmps131 Tryz.results131 rfl rfl (by simp) ?_)
  simp
  refine awCall_det' (eqFrac_a ⟨a.an, a.ad⟩ ⟨b.an, b.ad⟩) (by simp) ?_
  by_cases e0 : (⟨a.an, a.ad⟩ : Frac) = ⟨b.an, b.ad⟩
  case' neg => simp [e0, keeps_app]; intro e; subst e; exact absurd rfl e0
  simp only [frac_eq] at e0
  simp [e0]
  refine awCall_det' (eqFrac_a ⟨a.ln, a.ld⟩ ⟨b.ln, b.ld⟩) (by simp) ?_
  by_cases e1 : (⟨a.ln, a.ld⟩ : Frac) = ⟨b.ln, b.ld⟩
  case' neg => simp [e1, keeps_app]; intro e; subst e; exact absurd rfl e1
  simp only [frac_eq] at e1
  simp [e1]
  repeat' (first | (refine awCond_split ?_ ?_ <;> intro _) | (simp [keeps_app]))
  all_goals (simp_all [note_eq])
theorem szNoteS_a {M : Mem} {A : Option Addr} {n c : Nat} (z : Int) (hz : 0 ≤ z) (hz1 : z ≤ 1048576) (hn : n ≤ maxLen) : Det Tryz.prog M.length 57 [.slice A n c, iv z] M (iv (if z - n < 0 then -1 else z - n)) M := by
  unfold maxLen at hn
  first | (refine det_fn Tryz.func57 rfl Tryz.ntmps57 Tryz.results57 rfl rfl rfl (by simp) ?_) | (refine det_fnC Tryz.func57 rfl Tryz.ntmps57 Tryz.results57 rfl rfl (by simp) ?_)
  simp (disch := omega) [wrap_in]
  refine awCond_split ?_ ?_ <;> intro h
  · simp at h
    simp [h, Keeps.refl]
    try omega
  · simp at h
    simp [h, Keeps.refl]
    try omega
theorem toNoteS_d {M : Mem} {A : Option Addr} {n c : Nat} {l : List Note} (h : Sl noteR M A n l) (hn : n ≤ 1099511627776) : Det Tryz.prog M.length 65 [.slice A n c] M (.slice (some ⟨M.length, 0, none⟩) n n) (M ++ [.live ⟨cellsL noteR l, true, true, 154, 7⟩]) := by
  have hl := h.1
  refine Ctr.det ?_
  first | (refine ctr_fn Tryz.func65 rfl Tryz.ntmps65 Tryz.results65 rfl rfl (by simp) ?_) | (refine ctr_fnC Tryz.func65 rfl Tryz.ntmps65 Tryz.results65 rfl (by simp) ?_)
  simp
  refine ⟨by omega, ?_⟩
  refine awLoop_T (fun m T M' => ∃ k : Nat, k + m = n ∧ M' = M ++ [.live ⟨cellsL noteR (l.take k) ++ zrow [iv 0, iv 0, iv 0, iv 0, iv 0, iv 0, iv 0] m, true, true, 154, 7⟩] ∧ look T 4 = some (iv k) ∧ look T 0 = some (.slice A n c) ∧ look T 3 = some (.slice (some ⟨M.length, 0, none⟩) n n)) n ⟨0, by omega, by simp [cellsL_nil], by simp, by simp, by simp⟩ ?_
  rintro m T M' ⟨k, hm, rfl, h4, h0, h3⟩
  by_cases hlt : k < n
  · obtain ⟨id, off, rfl, he, hc⟩ := h.at_ hlt
    have hc' := hc.app [.live ⟨cellsL noteR (l.take k) ++ zrow [iv 0, iv 0, iv 0, iv 0, iv 0, iv 0, iv 0] m, true, true, 154, 7⟩]
    simp (disch := omega) [h3, h4, h0, hlt, wrap_in, note_load hc']
    obtain ⟨m, rfl⟩ : ∃ m', m = m' + 1 := ⟨m - 1, by omega⟩
    refine awCall_det' ((toNote_a (el l k))) (by simp) ⟨by simp, ow_iff.2 ⟨_, putCells_rec noteR (a := el l k) (Nat.le_refl _) rfl (List.length_take_of_le (by omega)) rfl, ?_⟩⟩
    refine lpI m (by omega) ?_
    refine ⟨k + 1, by omega, by rw [take_el (by omega)], by simp, by simp [h0], by simp [h3]⟩
  · obtain rfl : k = n := by omega
    obtain rfl : m = 0 := by omega
    simp [h3, h4, h0, List.take_of_length_le (Nat.le_of_eq hl)]
theorem eqNoteS_a {M : Mem} {A B : Option Addr} {n c m d : Nat} {x y : List Note} (hx : Sl noteR M A n x) (hy : Sl noteR M B m y) (hn : n ≤ 1099511627776) : Det Tryz.prog M.length 74 [.slice A n c, .slice B m d] M (.bool (decide (x = y))) M := by
  have hlx := hx.1
  have hly := hy.1
  first | (refine det_fn Tryz.func74 rfl Tryz.ntmps74 Tryz.results74 rfl rfl rfl (by simp) ?_) | (refine det_fnC Tryz.func74 rfl Tryz.ntmps74 Tryz.results74 rfl rfl (by simp) ?_)
  simp
  refine awCond_split ?_ ?_ <;> intro hnm
  · simp at hnm
    simp
    exact ⟨fun e => by subst e; omega, Keeps.refl _⟩
  · simp at hnm
    obtain rfl : n = m := by omega
    simp
    refine awLoop_T (fun m T M' => ∃ k : Nat, k + m = n ∧ M' = M ∧ look T 5 = some (iv k) ∧ look T 0 = some (.slice A n c) ∧ look T 1 = some (.slice B n d) ∧ x.take k = y.take k) n ⟨0, by omega, rfl, by simp, by simp, by simp, by simp⟩ ?_
    rintro m T M' ⟨k, hm, rfl, h4, h0, h1, hk⟩
    by_cases hlt : k < n
    · obtain ⟨id, off, rfl, he, hc⟩ := hx.at_ hlt
      obtain ⟨id', off', rfl, he', hc'⟩ := hy.at_ hlt
      simp (disch := omega) [h4, h0, h1, hlt, wrap_in]
      refine awDraw_E 8 [[],[],[0,1],[2,0,1],[],[],[4,5],[6,4,5],[3,2,0,1,7,6,4,5],[8,3,2,0,1,7,6,4,5]] (by kernel_rfl) (by kernel_rfl) ?_
      simp (disch := omega) [h4, h0, h1, hlt, wrap_in, note_load hc, note_load hc']
      refine awCall_det' (eqNote_a (el x k) (el y k)) (Nat.le_refl _) ?_
      simp
      refine awCond_split ?_ ?_ <;> intro he
      · simp at he
        simp
        exact ⟨fun e => he (by rw [e]), Keeps.refl _⟩
      · simp at he
        simp (disch := omega) [h4, h0, h1, wrap_in]
        refine lpI (m - 1) (by omega) ?_
        exact ⟨k + 1, by omega, rfl, by simp, by simp [h0], by simp [h1], by rw [take_el (by omega), take_el (by omega), hk, he]⟩
    · obtain rfl : k = n := by omega
      rw [List.take_of_length_le (by omega), List.take_of_length_le (by omega)] at hk
      simp [h4, h0, h1, hk, Keeps.refl]
def markNote (z : Int) (i : Nat) : Note := ⟨z + i * 7, z + i * 7 + 1, z + i * 7 + 1 + 1, z + i * 7 + 1 + 1 + 1, z + i * 7 + 1 + 1 + 1 + 1, z + i * 7 + 1 + 1 + 1 + 1 + 1, z + i * 7 + 1 + 1 + 1 + 1 + 1 + 1⟩
def markNoteL (z : Int) (n : Nat) : List Note := (List.range n).map (markNote z)
theorem markNoteL_succ (z : Int) (n : Nat) : markNoteL z (n + 1) = markNoteL z n ++ [markNote z n] := by simp [markNoteL, List.range_succ]
theorem markNoteS_a {M : Mem} {b : Nat} {A : Option Addr} {n c : Nat} {x : List Note} (z : Int) (hx : Sl noteR M A n x) (ho : Ownd M A n) (hb : ∀ a, A = some a → 0 < n → b ≤ a.block) (hn : n ≤ 1099511627776) (hz0 : 0 ≤ z) (hz : z ≤ 1152921504606846976) :
    Ctr Tryz.prog b 76 [.slice A n c, iv z] M fun v M' => v = iv (z + n * 7) ∧ Sl noteR M' A n (markNoteL z n) ∧ Ownd M' A n ∧ Turned A n M M' := by
  have hlx := hx.1
  rcases Nat.eq_zero_or_pos n with rfl | hp
  · first | (refine ctr_fn Tryz.func76 rfl Tryz.ntmps76 Tryz.results76 rfl rfl (by simp) ?_) | (refine ctr_fnC Tryz.func76 rfl Tryz.ntmps76 Tryz.results76 rfl (by simp) ?_)
    simp
    refine awLoop_T (fun m T M' => M' = M ∧ look T 1 = some (iv z) ∧ look T 5 = some (iv 0) ∧ look T 0 = some (.slice A 0 c)) 0 ⟨rfl, by simp, by simp, by simp⟩ ?_
    rintro m T M' ⟨rfl, h1, h3, h0⟩
    simp [h1, h3, h0]
    obtain rfl := List.eq_nil_of_length_eq_zero hlx
    exact ⟨hx, ho, rfl, fun i s hs _ => hs⟩
  · obtain ⟨id, off, r, rfl, hr, ho⟩ := ho hp
    have hid := (List.getElem?_eq_some_iff.1 hr).1
    obtain ⟨hz5, hlen⟩ := hx.cells hr hp (by omega)
    have hb' : b ≤ id := hb _ rfl hp
    obtain ⟨cs, own, t, e, esz⟩ := r
    simp only at hz5 hlen ho
    subst hz5 ho
    have hM : M = M.set id (.live ⟨cs.take off ++ cellsL noteR (markNoteL z 0) ++ cs.drop (off + 0 * 7), true, t, e, 7⟩) := by
      rw [set_self]
      simp [markNoteL, cellsL_nil, hr]
    first | (refine ctr_fn Tryz.func76 rfl Tryz.ntmps76 Tryz.results76 rfl rfl (by simp) ?_) | (refine ctr_fnC Tryz.func76 rfl Tryz.ntmps76 Tryz.results76 rfl (by simp) ?_)
    simp
    refine awLoop_T (fun m T M' => ∃ j : Nat, j + m = n ∧ M' = M.set id (.live ⟨cs.take off ++ cellsL noteR (markNoteL z j) ++ cs.drop (off + j * 7), true, t, e, 7⟩) ∧ look T 5 = some (iv j) ∧ look T 1 = some (iv (z + j * 7)) ∧ look T 0 = some (.slice (some ⟨id, off, none⟩) n c)) n ⟨0, by omega, hM, by simp, by simp, by simp⟩ ?_
    rintro m T M' ⟨j, hm, rfl, h5, h1, h0⟩
    have hlm : (markNoteL z j).length = j := by simp [markNoteL]
    by_cases hlt : j < n
    · have hsp := splice_mid noteR (cs := cs) (off := off) (a := markNote z j) hlm (by omega)
      have hlc : (cs.take off ++ cellsL noteR (markNoteL z j) ++ cs.drop (off + j * 7)).length = cs.length := by
        simp only [List.length_append, List.length_take, List.length_drop, cellsL_len, hlm]; omega
      generalize cs.take off ++ cellsL noteR (markNoteL z j) ++ cs.drop (off + j * 7) = Cs at hsp hlc ⊢
      simp (disch := first | omega | (simp <;> omega)) [h5, h1, h0, hlt, wrap_in, rowEsz_set hid, put_set hid hb']
      refine lpI (m - 1) (by omega) ?_
      refine ⟨j + 1, by omega, ?_, by simp, by simp; omega, by simp [h0]⟩
      rw [markNoteL_succ, ← hsp]
      rfl
    · obtain rfl : j = n := by omega
      have hS := Sl.set (R := noteR) (M := M) (pre := cs.take off) (post := cs.drop (off + j * 7)) (o := true) (t := t) (e := e) hid (List.length_take_of_le (by omega)) hlm
      have hO : Ownd (M.set id (.live ⟨cs.take off ++ cellsL noteR (markNoteL z j) ++ cs.drop (off + j * 7), true, t, e, 7⟩)) (some ⟨id, off, none⟩) j := fun _ => ⟨_, _, _, rfl, List.getElem?_set_self hid, rfl⟩
      have hT : Turned (some ⟨id, off, none⟩) j M (M.set id (.live ⟨cs.take off ++ cellsL noteR (markNoteL z j) ++ cs.drop (off + j * 7), true, t, e, 7⟩)) := set_turned hp
      generalize M.set id (.live ⟨cs.take off ++ cellsL noteR (markNoteL z j) ++ cs.drop (off + j * 7), true, t, e, 7⟩) = M' at hS hO hT ⊢
      simp [h5, h1, h0]
      exact ⟨hS, hO, hT⟩
/-! The same, as the laws use them. -/
theorem sz_NoteS_over {M : Mem} {v : Value} {lo hi : Nat} {l : List Note} {z : Int} (h : RdL noteR lo hi M v l) (hz : 0 ≤ z) (hz1 : z ≤ 1048576) (hl : z < l.length) : Det Tryz.prog M.length 57 [v, iv z] M (iv (-1)) M := by
  obtain ⟨A, n, c, rfl, hn, hS, _⟩ := h
  have := szNoteS_a (M := M) (A := A) (n := n) (c := c) z hz hz1 (by unfold maxLen; omega)
  rwa [if_pos (by have := hS.1; omega)] at this
theorem sz_NoteS {M : Mem} {v : Value} {lo hi : Nat} {l : List Note} {z : Int} (h : RdL noteR lo hi M v l) (hz : 0 ≤ z) (hz1 : z ≤ 1048576) (hl : l.length ≤ z) : Det Tryz.prog M.length 57 [v, iv z] M (iv (z - l.length)) M := by
  obtain ⟨A, n, c, rfl, hn, hS, _⟩ := h
  have := szNoteS_a (M := M) (A := A) (n := n) (c := c) z hz hz1 (by unfold maxLen; omega)
  rw [if_neg (by have := hS.1; omega)] at this
  rwa [hS.1]
theorem eq_NoteS {M : Mem} {v w : Value} {lo hi lo' hi' : Nat} {x y : List Note} (hx : OwL noteR lo hi M v x) (hy : RdL noteR lo' hi' M w y) : Det Tryz.prog M.length 74 [v, w] M (.bool (decide (x = y))) M := by
  obtain ⟨A, n, c, rfl, hn, hS, _⟩ := hx
  obtain ⟨B, m, d, rfl, hm, hT, _⟩ := hy
  exact eqNoteS_a hS hT hn
theorem mark_NoteS {M : Mem} {b : Nat} {v : Value} {lo hi : Nat} {l : List Note} {z : Int} (h : OwL noteR lo hi M v l) (hb : b ≤ lo) (hz : 0 ≤ z) (hz1 : z ≤ 1152921504606846976) :
    Ctr Tryz.prog b 76 [v, iv z] M fun r M' => r = iv (z + l.length * 7) ∧ OwL noteR lo hi M' v (markNoteL z l.length) ∧ Turn lo hi M M' := by
  obtain ⟨A, n, c, rfl, hn, hS, hi', ho⟩ := h
  exact (markNoteS_a z hS ho (fun a e hp => by have := hi' a e hp; omega) hn hz hz1).mono fun r M' ⟨h1, h2, h3, h4⟩ => ⟨by rw [h1, hS.1], ⟨A, n, c, rfl, hn, by rw [hS.1]; exact h2, hi', h3⟩, Nat.le_of_eq h4.1.symm, fun i s hs hd => h4.2 i s hs fun a e hp => by have := hi' a e hp; omega⟩
end Go.Proofs.YtimijeeihicohaaGreat

namespace Go.Proofs.YtimijeeihicohaaGreat
open Go.RowKit
set_option linter.unusedVariables false
set_option linter.unusedSimpArgs false
set_option maxRecDepth 100000
attribute [local simp] List.getElem?_cons_zero
attribute [local irreducible] awCond awCall awLoop awDraw ow retQ retC resQ Keeps
theorem sz_Score_over {M : Mem} {v : Value} {lo hi : Nat} {l : List Note} {z : Int} (h : RdL noteR lo hi M v l) (hz : 0 ≤ z) (hz1 : z ≤ 1048576) (hl : z < l.length) : Det Tryz.prog M.length 27 [.agg #[v], iv z] M (iv (-1)) M := by
  first | (refine det_fn Tryz.func27 rfl Tryz.ntmps27 Tryz.results27 rfl rfl rfl (by simp) ?_) | (refine det_fnC Tryz.func27 rfl Tryz.ntmps27 Tryz.results27 rfl rfl (by simp) ?_)
  simp
  refine awCall_det' (sz_NoteS_over (h.keeps (keeps_app _)) hz hz1 hl) (by simp) ?_
  simp [keeps_app]
theorem sz_Score {M : Mem} {v : Value} {lo hi : Nat} {l : List Note} {z : Int} (h : RdL noteR lo hi M v l) (hz : 0 ≤ z) (hz1 : z ≤ 1048576) (hl : l.length ≤ z) : Det Tryz.prog M.length 27 [.agg #[v], iv z] M (iv (z - l.length)) M := by
  first | (refine det_fn Tryz.func27 rfl Tryz.ntmps27 Tryz.results27 rfl rfl rfl (by simp) ?_) | (refine det_fnC Tryz.func27 rfl Tryz.ntmps27 Tryz.results27 rfl rfl (by simp) ?_)
  simp
  refine awCall_det' (sz_NoteS (h.keeps (keeps_app _)) hz hz1 hl) (by simp) ?_
  have h0 : ¬ z - l.length < 0 := by omega
  simp [keeps_app, h0]
theorem to_Score_d {M : Mem} {v : Value} {lo hi : Nat} {l : List Note} (h : RdL noteR lo hi M v l) (hl : l.length ≤ 1048576) : ∃ u N, Det Tryz.prog M.length 30 [.agg #[v]] M (.agg #[u]) (M ++ N) ∧ OwL noteR M.length (M ++ N).length (M ++ N) u l := by
  obtain ⟨A, n, c, rfl, hn, hS, _⟩ := h
  have hl' := hS.1
  refine ⟨.slice (some ⟨M.length + 3, 0, none⟩) n n, [.live ⟨[.slice A n c], true, true, 61, 1⟩, .live ⟨[.slice (some ⟨M.length + 3, 0, none⟩) n n], true, true, 70, 1⟩, .live ⟨[.slice (some ⟨M.length + 3, 0, none⟩) n n], true, true, 70, 1⟩, .live ⟨cellsL noteR l, true, true, 154, 7⟩], ?_, ?_⟩
  · refine Ctr.det ?_
    first | (refine ctr_fn Tryz.func30 rfl Tryz.ntmps30 Tryz.results30 rfl rfl (by simp) ?_) | (refine ctr_fnC Tryz.func30 rfl Tryz.ntmps30 Tryz.results30 rfl (by simp) ?_)
    simp
    refine awCall_det' ((toNoteS_d (hS.keeps (keeps_app _)) (by omega))) (by simp) ?_
    simp
  · refine ⟨_, n, n, rfl, by omega, ⟨hl', fun _ => ⟨M.length + 3, 0, rfl, by simp [rowEsz], fun j x hx => by simp [cellAt, hx]⟩⟩, fun a e _ => by injection e with e; subst e; simp, fun _ => ⟨_, _, ⟨cellsL noteR l, true, true, 154, 7⟩, rfl, by simp, rfl⟩⟩
theorem eq_Score {M : Mem} {v w : Value} {lo hi lo' hi' : Nat} {x y : List Note} (hx : OwL noteR lo hi M v x) (hy : RdL noteR lo' hi' M w y) : Det Tryz.prog M.length 33 [.agg #[v], .agg #[w]] M (.bool (decide (x = y))) M := by
  first | (refine det_fn Tryz.func33 rfl Tryz.ntmps33 Tryz.results33 rfl rfl rfl (by simp) ?_) | (refine det_fnC Tryz.func33 rfl Tryz.ntmps33 Tryz.results33 rfl rfl (by simp) ?_)
  simp
  refine awCall_det' (eq_NoteS (hx.keeps (keeps_app _)) (hy.keeps (keeps_app _))) (by simp) ?_
  by_cases e : x = y
  · simp [keeps_app, e]
  · simp [keeps_app, e]
theorem mark_Score {M : Mem} {b : Nat} {v : Value} {lo hi : Nat} {l : List Note} {z : Int} (h : OwL noteR lo hi M v l) (hb : b ≤ lo) (hz : 0 ≤ z) (hz1 : z ≤ 1152921504606846976) :
    Ctr Tryz.prog b 35 [.agg #[v], iv z] M fun r M' => r = iv (z + l.length * 7) ∧ OwL noteR lo hi M' v (markNoteL z l.length) ∧ Turn lo hi M M' := by
  first | (refine ctr_fn Tryz.func35 rfl Tryz.ntmps35 Tryz.results35 rfl rfl (by simp) ?_) | (refine ctr_fnC Tryz.func35 rfl Tryz.ntmps35 Tryz.results35 rfl (by simp) ?_)
  simp
  refine awCall_ctr (mark_NoteS (h.keeps (keeps_app _)) hb hz hz1) ?_
  rintro _ M' ⟨rfl, o, ht⟩
  simp
  exact ⟨o, ht.app⟩
end Go.Proofs.YtimijeeihicohaaGreat
