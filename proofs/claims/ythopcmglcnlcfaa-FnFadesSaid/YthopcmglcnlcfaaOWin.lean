/- Windows: validity, the straight and the smooth line; walks of both packages' functions. -/
import Derived.Test.YthopcmglcnlcfaaOCore
namespace Go.Proofs.Ythopcmglcnlcfaa.Old
open Go.RowKit
set_option linter.unusedVariables false
set_option maxRecDepth 100000
set_option linter.unusedSimpArgs false

def inB (n lo hi : Int) : Bool := decide (lo ≤ n) && decide (n ≤ hi)
theorem inB_iff {n lo hi : Int} : inB n lo hi = true ↔ lo ≤ n ∧ n ≤ hi := by simp [inB]
set_option maxHeartbeats 400000 in
theorem within_any (n lo hi : Int) (w : World) :
    Calls Try.prog 74 #[iv n, iv lo, iv hi] w fun e w' => e = .returned (.bool (inB n lo hi)) ∧ w = w' := by
  by_cases h : lo ≤ n
  all_goals
    go_enter Try.func74, Try.ntmps74
    go_wp2
    go_ret
    exact ⟨by simp [inB, h]; try omega, rfl⟩
set_option maxHeartbeats 400000 in
theorem l00In_any (n lo hi : Int) (w : World) :
    Calls Try.prog 92 #[iv n, iv lo, iv hi] w fun e w' => e = .returned (.bool (inB n lo hi)) ∧ w = w' := by
  by_cases h : lo ≤ n
  all_goals
    go_enter Try.func92, Try.ntmps92
    go_wp2
    go_ret
    exact ⟨by simp [inB, h]; try omega, rfl⟩
theorem size_any (A : Option Addr) (n c : Nat) (w : World) :
    Calls Try.prog 99 #[.slice A n c] w fun e w' => e = .returned (iv n) ∧ w = w' := by
  go_enter Try.func99, Try.ntmps99
  go_wp2
  go_ret
  exact ⟨rfl, rfl⟩

def sampB (n : Int) : Bool := inB n (-2147483648) 2147483647
def allB (p : Int → Bool) (l : List Int) : Bool := l.all p
theorem allB_no {p : Int → Bool} {l : List Int} {k : Nat} (hk : k < l.length) (h : p (gi l k) = false) : allB p l = false := by
  unfold allB
  rw [List.all_eq_false]
  exact ⟨_, List.getElem_mem hk, by rw [gi_eq hk, h]; simp⟩
theorem allB_step {p : Int → Bool} {l : List Int} {k : Nat} (hk : k < l.length) (h : p (gi l k) = true) (ht : allB p (l.take k) = true) : allB p (l.take (k + 1)) = true := by
  unfold allB at *
  rw [List.take_succ_eq_append_getElem hk, List.all_append, ht]
  simp [gi_eq hk, h]

def winB (l : List Int) : Bool := allB (inB · 0 256) l && inB l.length 1 256

set_option maxHeartbeats 400000 in
theorem l24Ok_any (A : Option Addr) (n c : Nat) (l : List Int) (w : World) (hx : Rd w 1 A n c (ints l)) :
    Calls Try.prog 55 #[.slice A n c] w fun e w' => e = .returned (.bool (winB l)) ∧ w = w' := by
  have Hn : Hid (l.length = n) := by have := hx.1; rw [ints_len] at this; show _ = _; omega
  have hc := hx.2.1
  have hcm := hx.2.2.1
  unfold maxLen at hcm
  go_enter Try.func55, Try.ntmps55
  go_wp2
  go_loop [3] (fun i => ∃ k : Nat, i = iv k ∧ k ≤ n ∧ Hid (allB (inB · 0 256) (l.take k) = true)) (fun i => n - (intOf i).toNat)
  case atStart => exact ⟨0, rfl, Nat.zero_le _, rfl⟩
  case round =>
    obtain ⟨k, rfl, hk, ht⟩ := hrel
    by_cases hlt : k < n
    · obtain ⟨a1, rfl, -, h1⟩ := hx.ints_at hlt
      cases hb : inB (gi l k) 0 256
      · go_wp2_with (go_at_call 92; refine (l00In_any _ _ _ _).mono ?_; rintro e w' ⟨rfl, rfl⟩)
        go_ret
        refine ⟨retb ?_, rfl⟩
        rw [winB, allB_no (by rw [Hn.out]; exact hlt) hb]; rfl
      · go_wp2_with (go_at_call 92; refine (l00In_any _ _ _ _).mono ?_; rintro e w' ⟨rfl, rfl⟩)
        go_round
        case rel => exact ⟨k + 1, by go_num, by omega, allB_step (by rw [Hn.out]; exact hlt) hb ht.out⟩
        case measure => simp [intOf]; omega
    · go_wp2_with (go_at_call 92; refine (l00In_any _ _ _ _).mono ?_; rintro e w' ⟨rfl, rfl⟩)
      go_ret
      refine ⟨retb ?_, rfl⟩
      have := ht.out
      rw [List.take_of_length_le (by rw [Hn.out]; omega)] at this
      rw [winB, this, Hn.out]; rfl

set_option maxHeartbeats 400000 in
theorem isWindow_any (A : Option Addr) (n c : Nat) (l : List Int) (w : World) (hx : Rd w 1 A n c (ints l)) :
    Calls Try.prog 56 #[.slice A n c] w fun e w' => e = .returned (.bool (winB l)) ∧ w = w' := by
  have Hn : Hid (l.length = n) := by have := hx.1; rw [ints_len] at this; show _ = _; omega
  have hc := hx.2.1
  have hcm := hx.2.2.1
  unfold maxLen at hcm
  go_enter Try.func56, Try.ntmps56
  go_wp2
  go_loop [7] (fun i => ∃ k : Nat, i = iv k ∧ k ≤ n ∧ Hid (allB (inB · 0 256) (l.take k) = true)) (fun i => n - (intOf i).toNat)
  case atStart => exact ⟨0, rfl, Nat.zero_le _, rfl⟩
  case round =>
    obtain ⟨k, rfl, hk, ht⟩ := hrel
    by_cases hlt : k < n
    · obtain ⟨a1, rfl, -, h1⟩ := hx.ints_at hlt
      cases hb : inB (gi l k) 0 256
      · go_wp2_with (go_at_call 74; refine (within_any _ _ _ _).mono ?_; rintro e w' ⟨rfl, rfl⟩)
        go_ret
        refine ⟨retb ?_, rfl⟩
        rw [winB, allB_no (by rw [Hn.out]; exact hlt) hb]; rfl
      · go_wp2_with (go_at_call 74; refine (within_any _ _ _ _).mono ?_; rintro e w' ⟨rfl, rfl⟩)
        go_round
        case rel => exact ⟨k + 1, by go_num, by omega, allB_step (by rw [Hn.out]; exact hlt) hb ht.out⟩
        case measure => simp [intOf]; omega
    · go_wp2_with (first | (go_at_call 74; refine (within_any _ _ _ _).mono ?_; rintro e w' ⟨rfl, rfl⟩) | (go_at_call 99; refine (size_any _ _ _ _).mono ?_; rintro e w' ⟨rfl, rfl⟩))
      go_ret
      refine ⟨retb ?_, rfl⟩
      have := ht.out
      rw [List.take_of_length_le (by rw [Hn.out]; omega)] at this
      rw [winB, this, Hn.out]; rfl
end Go.Proofs.Ythopcmglcnlcfaa.Old
