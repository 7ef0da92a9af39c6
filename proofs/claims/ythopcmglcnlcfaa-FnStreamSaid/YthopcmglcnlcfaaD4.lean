/- Streams: the canonical form of a binary form. No conditions. -/
import Derived.Test.YthopcmglcnlcfaaD3
namespace Go.Proofs.Ythopcmglcnlcfaa
open Go.RowKit
set_option linter.unusedVariables false
set_option linter.unusedSimpArgs false
set_option maxRecDepth 100000
attribute [local simp] List.getElem?_cons_zero
attribute [local irreducible] awCond awCall awLoop awDraw ow retQ retC resQ Keeps
theorem getVF_val (s : ByteArray) : ∀ f p (n N : Int), 0 ≤ n → n < N → 0 ≤ (getVF s f p n).1 ∧ (getVF s f p n).1 < N * 128 ^ f
  | 0, p, n, N, h0, h1 => by simp [getVF]; omega
  | f + 1, p, n, N, h0, h1 => by
    have hb := strAt_bd s p
    have hN : N * 128 ^ (f + 1) = (N * 128) * 128 ^ f := by rw [Int.pow_succ, Int.mul_assoc, Int.mul_comm (128 ^ f) 128]
    have h128 : (1 : Int) ≤ 128 ^ f := by
      have : (0 : Int) < 128 ^ f := Int.pow_pos (by omega)
      omega
    have hle : N * 128 ≤ N * 128 * 128 ^ f := by
      have := Int.mul_le_mul_of_nonneg_left h128 (show 0 ≤ N * 128 by omega)
      simpa using this
    by_cases h2 : p < s.size
    · by_cases h3 : strAt s p < 128
      · rw [getVF_lo _ _ _ _ h2 h3, hN]
        simp only
        omega
      · rw [getVF_hi _ _ _ _ h2 h3, hN]
        exact getVF_val s f (p + 1) _ (N * 128) (by omega) (by omega)
    · rw [getVF_ge _ _ _ _ (by omega), hN]
      simp only
      omega
theorem dataD_val {s : ByteArray} {p : Nat} {low : Int} (h : (dataD s p low).1 = 0) : low ≤ (dataD s p low).2 ∧ (dataD s p low).2 ≤ 127 := by
  have h1 := dataD_ok h
  unfold dataD at h ⊢
  rw [if_pos h1] at h ⊢
  split at h
  · rename_i h2
    rw [if_pos h2]
    exact inB_iff.1 h2
  · cases h
theorem evT_ok {s : ByteArray} {d : Int} {p : Nat} {st : Int} (hd : 0 ≤ d ∧ d ≤ 268435455) (h : (evT s d p st).code = 0) : eventB (evT s d p st).ev = true := by
  by_cases hin : inB st 128 159 = true
  · have hb := inB_iff.1 hin
    by_cases k1 : (dataD s p 0).1 = 0
    · have v1 := dataD_val k1
      by_cases hz : st < 144
      · have e : evT s d p st = ⟨0, ⟨d, 2, st % 16, (dataD s p 0).2, 0⟩, p + 1, st⟩ := by simp [evT, hin, k1, hz]
        rw [e]
        exact eventB_iff.2 ⟨hd, by simp only; omega, by simp only; omega, .inr ⟨rfl, rfl⟩⟩
      · by_cases k2 : (dataD s (p + 1) 1).1 = 0
        · have v2 := dataD_val k2
          have e : evT s d p st = ⟨0, ⟨d, 1, st % 16, (dataD s p 0).2, (dataD s (p + 1) 1).2⟩, p + 1 + 1, st⟩ := by simp [evT, hin, k1, hz, k2]
          rw [e]
          exact eventB_iff.2 ⟨hd, by simp only; omega, by simp only; omega, .inl ⟨rfl, by simp only; omega, by simp only; omega⟩⟩
        · have e : evT s d p st = .bad (dataD s (p + 1) 1).1 := by simp [evT, hin, k1, hz, k2]
          rw [e] at h
          exact absurd h k2
    · have e : evT s d p st = .bad (dataD s p 0).1 := by simp [evT, hin, k1]
      rw [e] at h
      exact absurd h k1
  · simp at hin
    have e : evT s d p st = .bad 9 := by simp [evT, hin]
    rw [e] at h
    cases h
theorem evD_ok {s : ByteArray} {p : Nat} {st : Int} (h : (evD s p st).code = 0) : eventB (evD s p st).ev = true := by
  have hv := getVF_val s 4 p 0 1 (by omega) (by omega)
  have hv' : 0 ≤ (getVF s 4 p 0).1 ∧ (getVF s 4 p 0).1 ≤ 268435455 := by
    have : (1 : Int) * 128 ^ 4 = 268435456 := by decide
    omega
  unfold evD at h ⊢
  split at h
  · rename_i hc
    exact absurd h hc
  · rename_i hc
    rw [if_neg hc]
    split at h
    · cases h
    · rename_i h2
      rw [if_neg h2]
      split at h
      · rename_i h3
        rw [if_pos h3]
        exact evT_ok hv' h
      · rename_i h3
        rw [if_neg h3]
        exact evT_ok hv' h
theorem decF_okE {s : ByteArray} : ∀ (f p : Nat) (st : Int) (out : List StreamEvent), out.length + f = 200 → out.all eventB = true → (decF s f p st out).2 = 0 → okE (decF s f p st out).1 = true
  | 0, p, st, out, hl, ho, h => by
    by_cases hp : s.size ≤ p
    · rw [decF_end hp]
      unfold okE
      rw [decide_eq_true (show out.length ≤ 200 by omega), ho]
      rfl
    · rw [decF_full hp] at h
      cases h
  | f + 1, p, st, out, hl, ho, h => by
    by_cases hp : s.size ≤ p
    · rw [decF_end hp]
      unfold okE
      rw [decide_eq_true (show out.length ≤ 200 by omega), ho]
      rfl
    · by_cases hc : (evD s p st).code = 0
      · rw [decF_ok hp hc] at h ⊢
        exact decF_okE f _ _ _ (by simp; omega) (by simp [ho, evD_ok hc]) h
      · rw [decF_bad hp hc] at h
        exact absurd h hc
def canV (s : ByteArray) : ByteArray × Int := if (decV s).2 = 0 then (encS (decV s).1, 0) else (bstr [], (decV s).2)














theorem CanonicalStream_i {M : Mem} (s : ByteArray) (hs : s.size ≤ 1048576) : Det Try.prog M.length 28 [.string s] M (.tuple #[.string (canV s).1, iv (canV s).2]) M := by
  first | (refine det_fn Try.func28 rfl Try.ntmps28 Try.results28 rfl rfl rfl (by simp) ?_) | (refine det_fnC Try.func28 rfl Try.ntmps28 Try.results28 rfl rfl (by simp) ?_)
  simp
  refine awCall_ctr (decode_a s (by omega)) ?_
  rintro r M' ⟨v0, rfl, hf⟩
  obtain ⟨A, n, c, rfl, hb, hSl, -, -, hK⟩ := hf
  have hKl := hK.len
  by_cases hc : (decV s).2 = 0
  · have hok : okE (decV s).1 = true := decF_okE 200 0 0 [] (by simp) rfl hc
    simp (disch := omega) [hc]
    refine awCall_det' (encode_a hSl hok) (by omega) ?_
    simp [canV, hc, hK]
  · simp (disch := omega) [hc]
    simp [canV, hc, hK, bstr]
end Go.Proofs.Ythopcmglcnlcfaa
