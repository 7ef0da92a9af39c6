/- Fractions: both packages' functions. No conditions. -/
import Derived.Test.YtgaiejaegimilaaQ1
namespace Go.Proofs.Ytgaiejaegimilaa
open Go.RowKit
set_option linter.unusedVariables false
set_option linter.unusedSimpArgs false
set_option maxRecDepth 100000
attribute [local simp] List.getElem?_cons_zero
attribute [local irreducible] awCond awCall awLoop awDraw ow retQ retC resQ Keeps
structure RG (M : Mem) (a c : Nat) (X : Nat → Bool) (S : St) : Prop where
  n : S.n = 12
  M : S.M = M
  t0 : look S.T 0 = some (uv (if X 4 = true then c else a : Nat))
  t1 : look S.T 1 = some (uv (if X 5 = true then a % c else c : Nat))
  c0 : X 0 = true → look S.T 7 = some (uv c)
  c1 : X 1 = true → look S.T 8 = some (uv a)
  c2 : X 2 = true → look S.T 9 = some (uv c)
  c3 : X 3 = true → look S.T 10 = some (uv (a % c : Nat))
  d4 : X 4 = true → X 1 = true
  d5 : X 5 = true → X 0 = true ∧ X 2 = true
theorem gcd_i {M : Mem} (x y : Nat) (hx : x < 18446744073709551616) (hy : y < 18446744073709551616) : Det Try.prog M.length 52 [uv x, uv y] M (uv (x.gcd y : Nat)) M := by
  first | (refine det_fn Try.func52 rfl Try.ntmps52 Try.results52 rfl rfl rfl (by simp) ?_) | (refine det_fnC Try.func52 rfl Try.ntmps52 Try.results52 rfl rfl (by simp) ?_)
  simp
  refine awLoop_T (fun m T M' => ∃ a c : Nat, c = m ∧ a < 18446744073709551616 ∧ c < 18446744073709551616 ∧ a.gcd c = x.gcd y ∧ M' = M ∧ look T 0 = some (uv a) ∧ look T 1 = some (uv c)) y ⟨x, y, rfl, hx, hy, rfl, rfl, by simp, by simp⟩ ?_
  rintro m T M' ⟨a, c, rfl, ha, hc, hg, rfl, h0, h1⟩
  by_cases hc0 : c = 0
  · subst hc0
    rw [Nat.gcd_zero_right] at hg
    simp [h0, h1, hg, Keeps.refl]
  · have hc1 : ¬ (c : Int) = 0 := by omega
    simp [h0, h1, hc0, hc1]
    have hbd : ∀ n : Nat, Region.binds Region.Mode.any ⟨n, Ground.data⟩ = true := fun _ => by rfl
    refine awDraw_I (RG M' a c) (by kernel_rfl) (by kernel_rfl) ⟨rfl, rfl, by simp [h0], by simp [h1], fun h => by simp at h, fun h => by simp at h, fun h => by simp at h, fun h => by simp at h, fun h => by simp at h, fun h => by simp at h⟩ ?_ ?_
    · rintro X ⟨n', T, M⟩ k o ⟨en, eM, t0, t1, c0, c1, c2, c3, d4, d5⟩ ho hX hd
      have hk : k < 6 := by have := (List.getElem?_eq_some_iff.1 ho).1; simpa using this
      simp only at en eM t0 t1 c0 c1 c2 c3
      subst en
      rcases k with _ | _ | _ | _ | _ | _ | k
      all_goals first | omega | (simp at ho; subst ho; simp [hbd] at hd; try simp at hX)
      · have x5 : X 5 = false := by
          cases h5 : X 5 with
          | false => rfl
          | true => rw [(d5 h5).1] at hX; cases hX
        rw [x5] at t1
        simp at t1
        simp [t1]
        refine ⟨rfl, eM, by simpa [upX] using t0, by simp [t1, x5, upX], fun _ => by simp, fun h => by simpa using c1 (by simpa [upX] using h), fun h => by simpa using c2 (by simpa [upX] using h), fun h => by simpa using c3 (by simpa [upX] using h), fun h => by simpa [upX] using d4 (by simpa [upX] using h), fun h => by simp [upX] at h; simp [upX, (d5 h).2]⟩
      · have x4 : X 4 = false := by
          cases h4 : X 4 with
          | false => rfl
          | true => rw [d4 h4] at hX; cases hX
        rw [x4] at t0
        simp at t0
        simp [t0]
        refine ⟨rfl, eM, by simp [t0, x4, upX], by simpa [upX] using t1, fun h => by simpa using c0 (by simpa [upX] using h), fun _ => by simp, fun h => by simpa using c2 (by simpa [upX] using h), fun h => by simpa using c3 (by simpa [upX] using h), fun h => by simp [upX], fun h => by simpa [upX] using d5 (by simpa [upX] using h)⟩
      · have x5 : X 5 = false := by
          cases h5 : X 5 with
          | false => rfl
          | true => rw [(d5 h5).2] at hX; cases hX
        rw [x5] at t1
        simp at t1
        simp [t1]
        refine ⟨rfl, eM, by simpa [upX] using t0, by simp [t1, x5, upX], fun h => by simpa using c0 (by simpa [upX] using h), fun h => by simpa using c1 (by simpa [upX] using h), fun _ => by simp, fun h => by simpa using c3 (by simpa [upX] using h), fun h => by simpa [upX] using d4 (by simpa [upX] using h), fun h => by simp [upX] at h; simp [upX, (d5 h).1]⟩
      · have e1 := c1 hd.1
        have e2 := c2 hd.2
        simp [e1, e2, hc0, hc1, tmod_nat]
        refine ⟨rfl, eM, by simpa [upX] using t0, by simpa [upX] using t1, fun h => by simpa using c0 (by simpa [upX] using h), fun h => by simpa using c1 (by simpa [upX] using h), fun h => by simpa using c2 (by simpa [upX] using h), fun _ => by simp, fun h => by simpa [upX] using d4 (by simpa [upX] using h), fun h => by simpa [upX] using d5 (by simpa [upX] using h)⟩
      · have e0 := c0 hd.1
        have x1 : X 1 = true := hd.2.2.1 (by rfl)
        simp [e0]
        refine ⟨rfl, eM, by simp, by simpa [upX] using t1, fun h => by simpa using c0 (by simpa [upX] using h), fun h => by simpa using c1 (by simpa [upX] using h), fun h => by simpa using c2 (by simpa [upX] using h), fun h => by simpa using c3 (by simpa [upX] using h), fun _ => by simpa [upX] using x1, fun h => by simpa [upX] using d5 (by simpa [upX] using h)⟩
      · have e3 := c3 hd.1
        have x0 : X 0 = true := hd.2.2.1 (by rfl)
        have x2 : X 2 = true := hd.2.2.2.2.1 (by rfl)
        simp [e3]
        refine ⟨rfl, eM, by simpa [upX] using t0, by simp, fun h => by simpa using c0 (by simpa [upX] using h), fun h => by simpa using c1 (by simpa [upX] using h), fun h => by simpa using c2 (by simpa [upX] using h), fun h => by simpa using c3 (by simpa [upX] using h), fun h => by simpa [upX] using d4 (by simpa [upX] using h), fun _ => by simp [upX, x0, x2]⟩
    · rintro X ⟨n', T, M⟩ hX ⟨en, eM, t0, t1, c0, c1, c2, c3, d4, d5⟩
      have x4 := hX 4 (by simp)
      have x5 := hX 5 (by simp)
      simp only [x4, x5, if_true] at t0 t1 en eM
      subst en
      subst eM
      simp
      have hlt := Nat.mod_lt a (show 0 < c by omega)
      exact lpI (a % c) hlt ⟨c, a % c, rfl, hc, by omega, by rw [Nat.gcd_comm c, ← Nat.gcd_rec, Nat.gcd_comm, hg], rfl, t0, t1⟩
theorem gcd_s {M : Mem} (x y : Nat) (hx : x < 18446744073709551616) (hy : y < 18446744073709551616) : Det Try.prog M.length 112 [uv x, uv y] M (uv (x.gcd y : Nat)) M := by
  first | (refine det_fn Try.func112 rfl Try.ntmps112 Try.results112 rfl rfl rfl (by simp) ?_) | (refine det_fnC Try.func112 rfl Try.ntmps112 Try.results112 rfl rfl (by simp) ?_)
  simp
  refine awLoop_T (fun m T M' => ∃ a c : Nat, c = m ∧ a < 18446744073709551616 ∧ c < 18446744073709551616 ∧ a.gcd c = x.gcd y ∧ M' = M ∧ look T 0 = some (uv a) ∧ look T 1 = some (uv c)) y ⟨x, y, rfl, hx, hy, rfl, rfl, by simp, by simp⟩ ?_
  rintro m T M' ⟨a, c, rfl, ha, hc, hg, rfl, h0, h1⟩
  by_cases hc0 : c = 0
  · subst hc0
    rw [Nat.gcd_zero_right] at hg
    simp [h0, h1, hg, Keeps.refl]
  · have hc1 : ¬ (c : Int) = 0 := by omega
    have hc2 : 0 < c := by omega
    simp [h0, h1, hc0, hc1, hc2, tmod_nat]
    have hlt := Nat.mod_lt a (show 0 < c by omega)
    refine lpI (a % c) hlt ⟨c, a % c, rfl, hc, by omega, by rw [Nat.gcd_comm c, ← Nat.gcd_rec, Nat.gcd_comm, hg], rfl, by simp, by simp⟩
theorem mag_i {M : Mem} (n : Int) (h1 : -9223372036854775808 ≤ n) (h2 : n ≤ 9223372036854775807) : Det Try.prog M.length 146 [iv n] M (uv n.natAbs) M := by
  first | (refine det_fn Try.func146 rfl Try.ntmps146 Try.results146 rfl rfl rfl (by simp) ?_) | (refine det_fnC Try.func146 rfl Try.ntmps146 Try.results146 rfl rfl (by simp) ?_)
  simp
  by_cases h : n < 0
  · have e : IntKind.u64.wrap (-IntKind.u64.wrap n) = ((n.natAbs : Nat) : Int) := by rw [← Int.zero_sub, u64_mag h1 h]; omega
    simp [h, e, Keeps.refl]
  · have e : IntKind.u64.wrap n = ((n.natAbs : Nat) : Int) := by rw [u64_in (by omega) (by omega)]; omega
    simp [h, e, Keeps.refl]
theorem mag_s {M : Mem} (n : Int) (h1 : -9223372036854775808 ≤ n) (h2 : n ≤ 9223372036854775807) : Det Try.prog M.length 113 [iv n] M (uv n.natAbs) M := by
  first | (refine det_fn Try.func113 rfl Try.ntmps113 Try.results113 rfl rfl rfl (by simp) ?_) | (refine det_fnC Try.func113 rfl Try.ntmps113 Try.results113 rfl rfl (by simp) ?_)
  simp
  by_cases h : n < 0
  · have e : IntKind.u64.wrap (IntKind.u64.wrap (-(n + 1)) + 1) = ((n.natAbs : Nat) : Int) := by rw [u64_in (x := -(n + 1)) (by omega) (by omega), u64_in (by omega) (by omega)]; omega
    simp (disch := omega) [h, e, wrap_in, Keeps.refl]
  · have e : IntKind.u64.wrap n = ((n.natAbs : Nat) : Int) := by rw [u64_in (by omega) (by omega)]; omega
    simp [h, e, Keeps.refl]
end Go.Proofs.Ytgaiejaegimilaa
