/- Walks: samples modulo 2^32 and reading behind the end, in both packages. -/
import Derived.Test.YthopcmglcnlcfaaOWin
import Derived.Laws.BitsAllLaws
import Derived.Laws.BitsLemmas
namespace Go.Proofs.Ythopcmglcnlcfaa.Old
open Go.RowKit
set_option linter.unusedVariables false
set_option maxRecDepth 100000
set_option linter.unusedSimpArgs false

/-- The sample that differs from n by a multiple of 2^32. -/
def w32 (n : Int) : Int := (n + 2147483648) % 4294967296 - 2147483648
theorem w32_bd (n : Int) : -2147483648 ≤ w32 n ∧ w32 n ≤ 2147483647 := by unfold w32; omega
theorem w32_id {n : Int} (h1 : -2147483648 ≤ n) (h2 : n ≤ 2147483647) : w32 n = n := by unfold w32; omega
theorem w32_add (a b : Int) : w32 (w32 a + w32 b) = w32 (a + b) := by unfold w32; omega
theorem w32_add_r (a b : Int) : w32 (a + w32 b) = w32 (a + b) := by unfold w32; omega
theorem w32_emod (a : Int) : w32 a % 4294967296 = a % 4294967296 := by unfold w32; omega
theorem w32_congr {a b : Int} (h : a % 4294967296 = b % 4294967296) : w32 a = w32 b := by unfold w32; omega
theorem w32_mul (a b : Int) : w32 (w32 a * w32 b) = w32 (a * b) := by
  apply w32_congr
  rw [Int.mul_emod, w32_emod, w32_emod, ← Int.mul_emod]
theorem and32 (n : Int) : bits .and .i64 n 4294967295 = n % 4294967296 := by
  show IntKind.i64.wrap ((BitVec.ofInt 64 n &&& BitVec.ofInt 64 4294967295).toNat : Int) = _
  have h1 : (BitVec.ofInt 64 (4294967295 : Int)).toNat = 2 ^ 32 - 1 := by decide
  have h2 : ((BitVec.ofInt 64 n).toNat : Int) = n % 18446744073709551616 := by
    rw [BitVec.toNat_ofInt]
    have := Int.emod_nonneg n (show (18446744073709551616 : Int) ≠ 0 by decide)
    show ((n % 18446744073709551616).toNat : Int) = _
    omega
  rw [BitVec.toNat_and, h1, Nat.and_two_pow_sub_one_eq_mod, IntKind.wrap_i64]
  have h3 : (((BitVec.ofInt 64 n).toNat % 2 ^ 32 : Nat) : Int) = (n % 18446744073709551616) % 4294967296 := by
    rw [Int.natCast_emod, h2]
    rfl
  rw [h3]
  omega

set_option maxHeartbeats 400000 in
theorem Wrap_any (n : Int) (w : World) : Calls Try.prog 109 #[iv n] w fun e w' => e = .returned (iv (w32 n)) ∧ w = w' := by
  go_enter Try.func109, Try.ntmps109
  go_wp2
  go_ret
  refine ⟨reti ?_, rfl⟩
  unfold w32
  simp only [IntKind.wrap_i32, IntKind.wrap_i64, wrap64, wrap32]
  omega
set_option maxHeartbeats 400000 in
theorem l01Wrap_any (n : Int) (w : World) : Calls Try.prog 132 #[iv n] w fun e w' => e = .returned (iv (w32 n)) ∧ w = w' := by
  have h := and32 n
  have h1 : 0 ≤ n % 4294967296 ∧ n % 4294967296 < 4294967296 := by omega
  obtain ⟨m, hm⟩ : ∃ m, Hid (n % 4294967296 = m) := ⟨_, rfl⟩
  rw [hm.out] at h h1
  obtain ⟨h2, h3⟩ := h1
  by_cases hb : 2147483647 < m
  · go_enter Try.func132, Try.ntmps132
    go_wp2
    go_ret
    exact ⟨reti (by have := hm.out; unfold w32; omega), rfl⟩
  · go_enter Try.func132, Try.ntmps132
    go_wp2
    go_ret
    exact ⟨reti (by have := hm.out; unfold w32; omega), rfl⟩
set_option maxHeartbeats 400000 in
theorem l01Add_any (a b : Int) (w : World) : Calls Try.prog 105 #[iv a, iv b] w fun e w' => e = .returned (iv (w32 (a + b))) ∧ w = w' := by
  have h1 := w32_bd a
  have h2 := w32_bd b
  have h3 := Lib.hid (w32_add a b)
  obtain ⟨x, hx⟩ : ∃ x, Hid (w32 a = x) := ⟨_, rfl⟩
  obtain ⟨y, hy⟩ : ∃ y, Hid (w32 b = y) := ⟨_, rfl⟩
  have c1 := l01Wrap_any a
  have c2 := l01Wrap_any b
  rw [hx.out] at h1 h3 c1
  rw [hy.out] at h2 h3 c2
  go_enter Try.func105, Try.ntmps105
  go_wp2_with fail
  refine (c1 _).mono ?_; rintro e w' ⟨rfl, rfl⟩
  go_wp2_with fail
  refine (c2 _).mono ?_; rintro e w' ⟨rfl, rfl⟩
  go_wp2_with fail
  refine (l01Wrap_any _ _).mono ?_; rintro e w' ⟨rfl, rfl⟩
  go_wp2
  go_ret
  exact ⟨reti h3.out, rfl⟩
set_option maxHeartbeats 400000 in
theorem l01Mul_any (a b : Int) (w : World) : Calls Try.prog 114 #[iv a, iv b] w fun e w' => e = .returned (iv (w32 (a * b))) ∧ w = w' := by
  have h1 := w32_bd a
  have h2 := w32_bd b
  have h3 := Lib.hid (w32_mul a b)
  obtain ⟨x, hx⟩ : ∃ x, Hid (w32 a = x) := ⟨_, rfl⟩
  obtain ⟨y, hy⟩ : ∃ y, Hid (w32 b = y) := ⟨_, rfl⟩
  have c1 := l01Wrap_any a
  have c2 := l01Wrap_any b
  rw [hx.out] at h1 h3 c1
  rw [hy.out] at h2 h3 c2
  have hm : -4611686018427387904 ≤ x * y ∧ x * y ≤ 4611686018427387904 := by
    have a1 : x.natAbs ≤ 2147483648 := by omega
    have a2 : y.natAbs ≤ 2147483648 := by omega
    have a3 := Nat.mul_le_mul a1 a2
    rw [← Int.natAbs_mul] at a3
    omega
  obtain ⟨m1, m2⟩ := hm
  go_enter Try.func114, Try.ntmps114
  go_wp2_with fail
  refine (c1 _).mono ?_; rintro e w' ⟨rfl, rfl⟩
  go_wp2_with fail
  refine (c2 _).mono ?_; rintro e w' ⟨rfl, rfl⟩
  go_wp2_with fail
  refine (l01Wrap_any _ _).mono ?_; rintro e w' ⟨rfl, rfl⟩
  go_wp2
  go_ret
  exact ⟨reti h3.out, rfl⟩

theorem gi_past {l : List Int} {k : Nat} (h : l.length ≤ k) : gi l k = 0 := by simp [gi, h]
set_option maxHeartbeats 400000 in
theorem at_any (A : Option Addr) (n c : Nat) (l : List Int) (i : Nat) (w : World) (hx : Rd w 1 A n c (ints l)) :
    Calls Try.prog 110 #[.slice A n c, iv i] w fun e w' => e = .returned (iv (gi l i)) ∧ w = w' := by
  have Hx : Hid (l.length = n) := by have := hx.1; rw [ints_len] at this; show _ = _; omega
  by_cases h : i < n
  · obtain ⟨a1, rfl, -, q1⟩ := hx.ints_at h
    go_enter Try.func110, Try.ntmps110
    go_wp2_with (go_at_call 99; refine (size_any _ _ _ _).mono ?_; rintro e w' ⟨rfl, rfl⟩)
    go_ret
    exact ⟨rfl, rfl⟩
  · rw [gi_past (by rw [Hx.out]; omega)]
    go_enter Try.func110, Try.ntmps110
    go_wp2_with (go_at_call 99; refine (size_any _ _ _ _).mono ?_; rintro e w' ⟨rfl, rfl⟩)
    go_ret
    exact ⟨rfl, rfl⟩
set_option maxHeartbeats 400000 in
theorem l03At_any (A : Option Addr) (n c : Nat) (l : List Int) (i : Nat) (w : World) (hx : Rd w 1 A n c (ints l)) :
    Calls Try.prog 113 #[.slice A n c, iv i] w fun e w' => e = .returned (iv (gi l i)) ∧ w = w' := by
  have Hx : Hid (l.length = n) := by have := hx.1; rw [ints_len] at this; show _ = _; omega
  have hc := hx.2.1
  have hcm := hx.2.2.1
  unfold maxLen at hcm
  by_cases h : i < n
  · obtain ⟨a1, rfl, -, q1⟩ := hx.ints_at h
    have C := l00In_any (i : Int) 0 ((n : Int) - 1)
    rw [show inB (i : Int) 0 ((n : Int) - 1) = true from inB_iff.2 (by omega)] at C
    go_enter Try.func113, Try.ntmps113
    go_wp2_with fail
    refine (C _).mono ?_; rintro e w' ⟨rfl, rfl⟩
    go_wp2
    go_ret
    exact ⟨rfl, rfl⟩
  · have C := l00In_any (i : Int) 0 ((n : Int) - 1)
    rw [show inB (i : Int) 0 ((n : Int) - 1) = false from by rw [Bool.eq_false_iff]; intro hh; have := inB_iff.1 hh; omega] at C
    rw [gi_past (by rw [Hx.out]; omega)]
    go_enter Try.func113, Try.ntmps113
    go_wp2_with fail
    refine (C _).mono ?_; rintro e w' ⟨rfl, rfl⟩
    go_wp2
    go_ret
    exact ⟨rfl, rfl⟩
def mx (a b : Int) : Int := if b < a then a else b
theorem mx_nat (a b : Nat) : mx a b = ((max a b : Nat) : Int) := by unfold mx; split <;> omega
set_option maxHeartbeats 400000 in
theorem l00Max_any (a b : Int) (w : World) : Calls Try.prog 112 #[iv a, iv b] w fun e w' => e = .returned (iv (mx a b)) ∧ w = w' := by
  by_cases h : b < a
  · go_enter Try.func112, Try.ntmps112
    go_wp2
    go_ret
    exact ⟨reti (by rw [mx, if_pos h]), rfl⟩
  · go_enter Try.func112, Try.ntmps112
    go_wp2
    go_ret
    exact ⟨reti (by rw [mx, if_neg (by omega)]), rfl⟩
set_option maxHeartbeats 400000 in
theorem zeros_any (n : Nat) (w : World) (hn : n ≤ 1048576) : Calls Try.prog 108 #[iv n] w (RetI (List.replicate n 0) w) := by
  obtain ⟨i0, hi, hz0, hz1, hz2⟩ := info_parts info_i64
  go_enter Try.func108, Try.ntmps108
  go_wp2_with (at_make; refine wpList_make_full _ rfl _ _ 24 rfl w.heap.size 2 i0 (.int .i64 0) 1 Try.underlying24 hi hz0 hz1 _ _ _ _ n rfl rfl rfl rfl (by rw [hz2]; omega) (by unfold maxLen; omega) (Nat.le_refl _) ?_; intro w1 hown hgrow)
  go_ret
  refine ⟨_, rfl, ?_, (Below.refl _ _).grown hgrow (Nat.le_refl _) (by simp)⟩
  unfold OwnI
  have e : (madeCells (Value.int .i64 0).cells (n * 1)).toList = ints (List.replicate n 0) := by simp [ints, Value.cells, toList_madeCells_one]
  rw [← e, List.length_replicate]
  exact hown
end Go.Proofs.Ythopcmglcnlcfaa.Old
