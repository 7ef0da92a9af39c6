/- Increments of keys. No conditions. -/
import Derived.Test.YtffbocbjmhkikaaI12
import Derived.Laws.BitsLemmas
namespace Go.Proofs.Ytffbocbjmhkikaa
open Go.RowKit
set_option linter.unusedVariables false
set_option linter.unusedSimpArgs false
set_option maxRecDepth 100000
attribute [local simp] List.getElem?_cons_zero
attribute [local irreducible] awCond awCall awLoop awDraw ow retQ retC resQ Keeps
/-- The sample that differs from n by a multiple of 2^32. -/
def smp (n : Int) : Int := (n + 2147483648) % 4294967296 - 2147483648
theorem smp_bd (n : Int) : -2147483648 ≤ smp n ∧ smp n ≤ 2147483647 := by unfold smp; omega
theorem andS (n : Int) : intV .and .i64 n 4294967295 = some (.int .i64 (n % 4294967296)) := by
  have h1 : (BitVec.ofInt 64 (4294967295 : Int)).toNat = 2 ^ 32 - 1 := by decide
  have h2 : ((BitVec.ofInt 64 n).toNat : Int) = n % 18446744073709551616 := by
    rw [BitVec.toNat_ofInt]
    have := Int.emod_nonneg n (show (18446744073709551616 : Int) ≠ 0 by decide)
    show ((n % 18446744073709551616).toNat : Int) = _
    omega
  have key : IntKind.i64.wrap ((BitVec.ofInt 64 n &&& BitVec.ofInt 64 4294967295).toNat : Int) = n % 4294967296 := by
    rw [BitVec.toNat_and, h1, Nat.and_two_pow_sub_one_eq_mod, IntKind.wrap_i64]
    have h3 : (((BitVec.ofInt 64 n).toNat % 2 ^ 32 : Nat) : Int) = (n % 18446744073709551616) % 4294967296 := by
      rw [Int.natCast_emod, h2]
      rfl
    rw [h3]
    omega
  show some (Value.int .i64 (IntKind.i64.wrap ((BitVec.ofInt 64 n &&& BitVec.ofInt 64 4294967295).toNat : Int))) = _
  rw [key]
theorem Wrap_s {M : Mem} (n : Int) : Det Try.prog M.length 111 [iv n] M (iv (smp n)) M := by
  have e : IntKind.i64.wrap (IntKind.i32.wrap n) = smp n := by
    rw [IntKind.wrap_i32, IntKind.wrap_i64]; unfold smp; omega
  first | (refine det_fn Try.func111 rfl Try.ntmps111 Try.results111 rfl rfl rfl (by simp) ?_) | (refine det_fnC Try.func111 rfl Try.ntmps111 Try.results111 rfl rfl (by simp) ?_)
  simp [e, Keeps.refl]
theorem l01Wrap_t {M : Mem} (n : Int) : Det Try.prog M.length 109 [iv n] M (iv (smp n)) M := by
  have h1 : 0 ≤ n % 4294967296 ∧ n % 4294967296 < 4294967296 := by omega
  first | (refine det_fn Try.func109 rfl Try.ntmps109 Try.results109 rfl rfl rfl (by simp) ?_) | (refine det_fnC Try.func109 rfl Try.ntmps109 Try.results109 rfl rfl (by simp) ?_)
  simp [andS]
  by_cases hb : 2147483647 < n % 4294967296
  · simp (disch := omega) [hb, wrap_in, Keeps.refl]
    unfold smp; omega
  · simp (disch := omega) [hb, wrap_in, Keeps.refl]
    unfold smp; omega
def incr (st : List Int) (key : Int) : Int := smp (el st (key % 12).toNat * 2 ^ (key / 12).toNat)
theorem instB_steps {x : Inst} (h : instB x = true) : x.steps.length = 12 ∧ ∀ i, i < 12 → -2147483648 ≤ el x.steps i ∧ el x.steps i ≤ 2147483647 := by
  unfold instB at h
  simp only [Bool.and_eq_true, decide_eq_true_eq] at h
  obtain ⟨-, -, -, -, h1, h2⟩ := h
  refine ⟨h1, fun i hi => ?_⟩
  have := List.all_eq_true.1 h2 _ (el_mem (l := x.steps) (i := i) (by omega))
  exact inB_iff.1 this
theorem shift_bd {a : Int} {c : Nat} (h1 : -2147483648 ≤ a) (h2 : a ≤ 2147483647) (hc : c ≤ 10) : -9223372036854775808 ≤ a * 2 ^ c ∧ a * 2 ^ c ≤ 9223372036854775807 := by
  have h : c = 0 ∨ c = 1 ∨ c = 2 ∨ c = 3 ∨ c = 4 ∨ c = 5 ∨ c = 6 ∨ c = 7 ∨ c = 8 ∨ c = 9 ∨ c = 10 := by omega
  rcases h with h | h | h | h | h | h | h | h | h | h | h <;> subst h <;> simp <;> omega
theorem shlS {a : Int} {c : Nat} (h1 : -2147483648 ≤ a) (h2 : a ≤ 2147483647) (hc : c ≤ 10) : intV .shl .i64 a c = some (.int .i64 (a * 2 ^ c)) := by
  obtain ⟨g1, g2⟩ := shift_bd h1 h2 hc
  have e : intV .shl .i64 a (c : Int) = some (.int .i64 (IntKind.i64.wrap (a * 2 ^ (min ((c : Int)).toNat IntKind.i64.bits)))) := by
    show (if (c : Int) < 0 then none else _) = _
    simp [show ¬ ((c : Int) < 0) by omega]
  rw [e]
  have : min ((c : Int)).toNat IntKind.i64.bits = c := by
    have : IntKind.i64.bits = 64 := rfl
    rw [this]; omega
  rw [this, wrap_in g1 g2]
theorem increment_i {M : Mem} {lo hi : Nat} {us : List Value} {x : Inst} {key : Int} (h : instP.rd lo hi M x us) (hb : instB x = true) (hk : inB key 0 127 = true) : Det Try.prog M.length 64 [.agg us.toArray, iv key] M (iv (incr x.steps key)) M := by
  obtain ⟨ps, es, w, rfl, hp, he, hw⟩ := h
  obtain ⟨A1, n1, c1, A2, n2, c2, A3, n3, c3, rfl⟩ := patch_isV hp
  obtain ⟨A4, n4, c4, rfl⟩ := env_isV he
  obtain ⟨A5, n5, c5, rfl, r1, r2, r3⟩ := hw
  have hk' := inB_iff.1 hk
  obtain ⟨hl, hst⟩ := instB_steps hb
  have hn := r3.1
  obtain ⟨k, rfl⟩ := Int.eq_ofNat_of_zero_le hk'.1
  have e12 : ((k : Int).tmod 12) = ((k % 12 : Nat) : Int) := by rw [Int.tmod_eq_emod_of_nonneg (by omega)]; omega
  have d12 : ((k : Int).tdiv 12) = ((k / 12 : Nat) : Int) := by rw [Int.tdiv_eq_ediv_of_nonneg (by omega)]; omega
  have hlt : k % 12 < n5 := by omega
  obtain ⟨id, off, rfl, hez, hc⟩ := r3.sl.at_ hlt
  have c1' := int_cell hc
  simp only [Nat.mul_one] at c1'
  have hs := hst (k % 12) (by omega)
  have hlt' : ((k % 12 : Nat) : Int) < n5 := by omega
  have t12 : ((k : Int) % 12).toNat = k % 12 := by omega
  have u12 : IntKind.u64.wrap ((k : Int) / 12) = ((k / 12 : Nat) : Int) := by rw [IntKind.wrap_u64]; omega
  have s12 : intV .shl .i64 (el x.steps (k % 12)) ((k : Int) / 12) = some (.int .i64 (el x.steps (k % 12) * 2 ^ (k / 12))) := by
    have := shlS (c := k / 12) hs.1 hs.2 (by omega)
    rw [show (((k / 12 : Nat)) : Int) = (k : Int) / 12 by omega] at this
    exact this
  have l12 : (0 : Int) ≤ (k : Int) % 12 ∧ (k : Int) % 12 < (n5 : Int) := by omega
  first | (refine det_fn Try.func64 rfl Try.ntmps64 Try.results64 rfl rfl rfl (by simp) ?_) | (refine det_fnC Try.func64 rfl Try.ntmps64 Try.results64 rfl rfl (by simp) ?_)
  simp (disch := omega) [e12, d12, wrap_in, hlt', hez, c1', cellAt_app c1', rowEsz_keeps (keeps_app _) hez, t12, u12, s12, l12, binV_shift (op := .shl) rfl]
  refine awCall_det' (Wrap_s _) (by simp) ?_
  refine ⟨?_, keeps_app _⟩
  unfold incr
  rw [show ((k : Int) % 12).toNat = k % 12 by omega, show ((k : Int) / 12).toNat = k / 12 by omega]
theorem l22Increment_s {M : Mem} {lo hi id0 off0 : Nat} {us : List Value} {x : Inst} {key : Int} (h : instP.rd lo hi M x us) (hc0 : Cl M id0 off0 us) (hb : instB x = true) (hk : inB key 0 127 = true) : Det Try.prog M.length 62 [.pointer (some ⟨id0, off0, none⟩), iv key] M (iv (incr x.steps key)) M := by
  obtain ⟨ps, es, w, rfl, hp, he, hw⟩ := h
  obtain ⟨A1, n1, c1, A2, n2, c2, A3, n3, c3, rfl⟩ := patch_isV hp
  obtain ⟨A4, n4, c4, rfl⟩ := env_isV he
  obtain ⟨A5, n5, c5, rfl, r1, r2, r3⟩ := hw
  have hk' := inB_iff.1 hk
  obtain ⟨hl, hst⟩ := instB_steps hb
  have hn := r3.1
  have b7 : cellAt M id0 (off0 + 7) = some (.slice A5 n5 c5) := hc0 7 _ rfl
  obtain ⟨k, rfl⟩ := Int.eq_ofNat_of_zero_le hk'.1
  have e12 : ((k : Int).tmod 12) = ((k % 12 : Nat) : Int) := by rw [Int.tmod_eq_emod_of_nonneg (by omega)]; omega
  have d12 : ((k : Int).tdiv 12) = ((k / 12 : Nat) : Int) := by rw [Int.tdiv_eq_ediv_of_nonneg (by omega)]; omega
  have hlt : k % 12 < n5 := by omega
  obtain ⟨id, off, rfl, hez, hc⟩ := r3.sl.at_ hlt
  have c1' := int_cell hc
  simp only [Nat.mul_one] at c1'
  have hs := hst (k % 12) (by omega)
  have hlt' : ((k % 12 : Nat) : Int) < n5 := by omega
  have t12 : ((k : Int) % 12).toNat = k % 12 := by omega
  have u12 : IntKind.u64.wrap ((k : Int) / 12) = ((k / 12 : Nat) : Int) := by rw [IntKind.wrap_u64]; omega
  have s12 : intV .shl .i64 (el x.steps (k % 12)) ((k : Int) / 12) = some (.int .i64 (el x.steps (k % 12) * 2 ^ (k / 12))) := by
    have := shlS (c := k / 12) hs.1 hs.2 (by omega)
    rw [show (((k / 12 : Nat)) : Int) = (k : Int) / 12 by omega] at this
    exact this
  have l12 : (0 : Int) ≤ (k : Int) % 12 ∧ (k : Int) % 12 < (n5 : Int) := by omega
  first | (refine det_fn Try.func62 rfl Try.ntmps62 Try.results62 rfl rfl rfl (by simp) ?_) | (refine det_fnC Try.func62 rfl Try.ntmps62 Try.results62 rfl rfl (by simp) ?_)
  simp (disch := omega) [e12, d12, wrap_in, hlt', hez, c1', b7, t12, u12, s12, l12, binV_shift (op := .shl) rfl]
  refine awCall_det' (l01Wrap_t _) (by simp) ?_
  refine ⟨?_, Keeps.refl _⟩
  unfold incr
  rw [show ((k : Int) % 12).toNat = k % 12 by omega, show ((k : Int) / 12).toNat = k / 12 by omega]
def incV (x : Inst) (key : Int) : Int × Int := if instB x = true then (if inB key 0 127 = true then (incr x.steps key, 0) else (0, 2)) else (0, 1)
theorem IncrementOf_i {M : Mem} {lo hi : Nat} {us : List Value} {x : Inst} (key : Int) (h : instP.rd lo hi M x us) : Det Try.prog M.length 18 [.agg us.toArray, iv key] M (.tuple #[iv (incV x key).1, iv (incV x key).2]) M := by
  have hl := instP.len h
  have ht : us.take 8 = us := List.take_of_length_le (by omega)
  unfold incV
  first | (refine det_fn Try.func18 rfl Try.ntmps18 Try.results18 rfl rfl rfl (by simp) ?_) | (refine det_fnC Try.func18 rfl Try.ntmps18 Try.results18 rfl rfl (by simp) ?_)
  simp [hl, ht]
  refine awCall_det' (isInstrument_i (instP.app h _)) (by simp) ?_
  by_cases hb : instB x = true
  case neg => simp [hb, keeps_app]
  simp [hb]
  refine awCall_det' (isKey_a key) (by simp) ?_
  by_cases hk : inB key 0 127 = true
  case neg => simp [hb, hk, keeps_app]
  simp [hk, hl, ht]
  refine awCall_det' (increment_i (instP.app h _) hb hk) (by simp) ?_
  simp [hb, hk, keeps_app]
theorem IncrementOf_s {M : Mem} {lo hi : Nat} {us : List Value} {x : Inst} (key : Int) (h : instP.rd lo hi M x us) : Det Try.prog M.length 17 [.agg us.toArray, iv key] M (.tuple #[iv (incV x key).1, iv (incV x key).2]) M := by
  have hl := instP.len h
  have hc : Cl (M ++ [Slot.live ⟨us, true, true, 41, 8⟩]) M.length 0 us := inst_cl (t := true) (o := true) (e := 41) (z := 8) (by simp)
  unfold incV
  first | (refine det_fn Try.func17 rfl Try.ntmps17 Try.results17 rfl rfl rfl (by simp) ?_) | (refine det_fnC Try.func17 rfl Try.ntmps17 Try.results17 rfl rfl (by simp) ?_)
  simp [hl]
  refine awCall_det' (l22Ok_s (instP.app h _) hc) (by simp) ?_
  by_cases hb : instB x = true
  case neg => simp [hb, keeps_app]
  simp [hb]
  refine awCall_det' (l00In_a key 0 127) (by simp) ?_
  by_cases hk : inB key 0 127 = true
  case neg => simp [hb, hk, keeps_app]
  simp [hk]
  refine awCall_det' (l22Increment_s (instP.app h _) hc hb hk) (by simp) ?_
  simp [hb, hk, keeps_app]
end Go.Proofs.Ytffbocbjmhkikaa
