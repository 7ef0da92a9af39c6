/- Numbers in variable form are read back. No conditions. -/
import Derived.Test.YthopcmglcnlcfaaB0
namespace Go.Proofs.Ythopcmglcnlcfaa
open Go.RowKit
set_option linter.unusedVariables false
set_option linter.unusedSimpArgs false
set_option maxRecDepth 100000
attribute [local simp] List.getElem?_cons_zero
attribute [local irreducible] awCond awCall awLoop awDraw ow retQ retC resQ Keeps
theorem wrap_u8 {x : Int} (h1 : 0 ≤ x) (h2 : x ≤ 255) : IntKind.u8.wrap x = x := by
  have e : (2 : Int) ^ IntKind.u8.bits = 256 := by decide
  have e2 : IntKind.u8.signed = false := rfl
  simp only [IntKind.wrap, e, e2]
  simp
  omega
/-- At most f bytes, from p on. -/
def getVF (s : ByteArray) : Nat → Nat → Int → Int × Int × Int
  | 0, _, _ => (0, 0, 9)
  | f + 1, p, n => if p < s.size then (if strAt s p < 128 then (128 * n + strAt s p % 128, ((p + 1 : Nat) : Int), 0) else getVF s f (p + 1) (128 * n + strAt s p % 128)) else (0, 0, 11)
theorem strAt_bd (s : ByteArray) (i : Nat) : 0 ≤ strAt s i ∧ strAt s i ≤ 255 := by
  unfold strAt
  have := (s.data.toList.getD i 0).toNat_lt
  omega
def getV (s : ByteArray) (p : Int) : Int × Int × Int := if inB p 0 s.size = true then getVF s 4 p.toNat 0 else (0, 0, 2)
abbrev tri (x : Int × Int × Int) : Value := .tuple #[iv x.1, iv x.2.1, iv x.2.2]
theorem getVF_ge (s : ByteArray) (f p : Nat) (n : Int) (h : s.size ≤ p) : getVF s (f + 1) p n = (0, 0, 11) := by
  rw [getVF, if_neg (by omega)]
theorem getVF_lo (s : ByteArray) (f p : Nat) (n : Int) (h : p < s.size) (hb : strAt s p < 128) : getVF s (f + 1) p n = (128 * n + strAt s p, ((p + 1 : Nat) : Int), 0) := by
  have := strAt_bd s p
  rw [getVF, if_pos h, if_pos hb, show strAt s p % 128 = strAt s p by omega]
theorem getVF_hi (s : ByteArray) (f p : Nat) (n : Int) (h : p < s.size) (hb : ¬ strAt s p < 128) : getVF s (f + 1) p n = getVF s f (p + 1) (128 * n + strAt s p % 128) := by
  rw [getVF, if_pos h, if_neg hb]































theorem GetVar_i {M : Mem} (s : ByteArray) (p : Int) (hs : s.size ≤ 1099511627776) : Det Try.prog M.length 32 [.string s, iv p] M (tri (getV s p)) M := by
  first | (refine det_fn Try.func32 rfl Try.ntmps32 Try.results32 rfl rfl rfl (by simp) ?_) | (refine det_fnC Try.func32 rfl Try.ntmps32 Try.results32 rfl rfl (by simp) ?_)
  simp
  refine awCall_det' (within_a _ _ _) (by simp) ?_
  by_cases hin : inB p 0 s.size = true
  · simp [hin]
    obtain ⟨q, rfl⟩ := Int.eq_ofNat_of_zero_le (inB_iff.1 hin).1
    have h2 := (inB_iff.1 hin).2
    refine awLoop_T (fun m T M' => ∃ (k : Nat) (a : Int), k + m = 4 ∧ M = M' ∧ q + k ≤ s.size ∧ 0 ≤ a ∧ a < 128 ^ k ∧ getVF s 4 q 0 = getVF s m (q + k) a ∧ look T 8 = some (iv (q + k : Nat)) ∧ look T 7 = some (iv a) ∧ look T 0 = some (.string s) ∧ look T 1 = some (iv q)) 4 ⟨0, 0, by omega, rfl, by omega, by omega, by omega, rfl, by simp, by simp, by simp, by simp⟩ ?_
    rintro m T M' ⟨k, a, hm, rfl, hpk, ha0, ha, hg, h8, h7, h0, h1⟩
    have hak : a < 2097152 ∨ k = 4 := by
      rcases (by omega : k = 0 ∨ k = 1 ∨ k = 2 ∨ k = 3 ∨ k = 4) with rfl | rfl | rfl | rfl | rfl <;> simp at ha ⊢ <;> omega
    by_cases hlt : k < 4
    · obtain ⟨m, rfl⟩ : ∃ m', m = m' + 1 := ⟨m - 1, by omega⟩
      have hlt' : (q : Int) + k < q + 4 := by omega
      by_cases hsz : q + k < s.size
      · have hb := strAt_bd s (q + k)
        have e1 : ((q : Int) + k).toNat = q + k := by omega
        have g1 : ¬ ((q : Int) + k = s.size) := by omega
        have g2 : (q : Int) + k < s.size := by omega
        have g3 : 0 ≤ (q : Int) + k := by omega
        have e2 : (strAt s (q + k)).tmod 128 = strAt s (q + k) % 128 := Int.tmod_eq_emod_of_nonneg (by omega)
        have e3 : IntKind.u8.wrap (strAt s (q + k) % 128) = strAt s (q + k) % 128 := wrap_u8 (by omega) (by omega)
        by_cases hb2 : strAt s (q + k) < 128
        · have hr := hg.trans (getVF_lo s m (q + k) a hsz hb2)
          have e4 : strAt s (q + k) % 128 = strAt s (q + k) := by omega
          simp (disch := omega) [h8, h7, h0, h1, hlt', wrap_in, e1, e2, e3, e4, g1, g2, g3, hb2, getV, hin, hr, Keeps.refl]
        · simp (disch := omega) [h8, h7, h0, h1, hlt', wrap_in, e1, e2, e3, g1, g2, g3, hb2]
          refine lpI m (by omega) ?_
          exact ⟨k + 1, 128 * a + strAt s (q + k) % 128, by omega, rfl, by omega, by omega, by rw [Int.pow_succ]; omega, by rw [hg, getVF_hi s m (q + k) a hsz hb2]; rfl, by simp; omega, by simp, by simp [h0], by simp [h1]⟩
      · have hr := hg.trans (getVF_ge s m (q + k) a (by omega))
        have g1 : (q : Int) + k = s.size := by omega
        have g5 : (s.size : Int) < q + 4 := by omega
        simp (disch := omega) [h8, h7, h0, h1, hlt', wrap_in, g1, g5, getV, hin, hr, Keeps.refl]
    · obtain rfl : k = 4 := by omega
      obtain rfl : m = 0 := by omega
      have hr : getVF s 4 q 0 = (0, 0, 9) := hg
      simp (disch := omega) [h8, h7, h0, h1, hr, getV, hin, wrap_in, Keeps.refl]
  · simp at hin
    simp [hin, getV, Keeps.refl]
end Go.Proofs.Ythopcmglcnlcfaa
