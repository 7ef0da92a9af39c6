/- Windows: the straight and the smooth line; walks of both packages' functions. -/
import Derived.Test.YthopcmglcnlcfaaOWin
namespace Go.Proofs.Ythopcmglcnlcfaa.Old
open Go.RowKit
set_option linter.unusedVariables false
set_option maxRecDepth 100000
set_option linter.unusedSimpArgs false

def linV (k m : Int) : Int := 256 * k / m
def smoV (k m : Int) : Int := 256 * k * k * (3 * m - 2 * k) / (m * m * m)
/-- The elements 1 .. k of a window of a line. -/
def lineL (f : Int → Int → Int) (n : Int) (k : Nat) : List Int := (List.range k).map fun (i : Nat) => f ((i : Int) + 1) (n + 1)
theorem lineL_len (f : Int → Int → Int) (n : Int) (k : Nat) : (lineL f n k).length = k := by simp [lineL]
theorem lineL_succ (f : Int → Int → Int) (n : Int) (k : Nat) : lineL f n (k + 1) = lineL f n k ++ [f ((k : Int) + 1) (n + 1)] := by simp [lineL, List.range_succ]

theorem mul_bd {a b A B : Int} (ha : 0 ≤ a) (hA : a ≤ A) (hb : 0 ≤ b) (hB : b ≤ B) : 0 ≤ a * b ∧ a * b ≤ A * B :=
  ⟨Int.mul_nonneg ha hb, Int.mul_le_mul hA hB hb (by omega)⟩

theorem smo_bds (k m : Int) (h1 : 0 ≤ k) (h2 : k < m) (h3 : 1 ≤ m) (h4 : m ≤ 257) :
    (0 ≤ 256 * k * k ∧ 256 * k * k ≤ 16908544) ∧ (0 ≤ 256 * k * k * (3 * m - 2 * k) ∧ 256 * k * k * (3 * m - 2 * k) ≤ 13036487424) ∧ (0 ≤ m * m ∧ m * m ≤ 66049) ∧ (0 ≤ m * m * m ∧ m * m * m ≤ 16974593) ∧ 1 ≤ m * m * m := by
  have b1 := mul_bd (a := 256 * k) (b := k) (A := 65792) (B := 257) (by omega) (by omega) h1 (by omega)
  have b2 := mul_bd (a := 256 * k * k) (b := 3 * m - 2 * k) (A := 16908544) (B := 771) b1.1 (by omega) (by omega) (by omega)
  have b3 := mul_bd (a := m) (b := m) (A := 257) (B := 257) (by omega) (by omega) (by omega) (by omega)
  have b4 := mul_bd (a := m * m) (b := m) (A := 66049) (B := 257) b3.1 b3.2 (by omega) (by omega)
  have b5 : 0 < m * m * m := Int.mul_pos (Int.mul_pos (show 0 < m by omega) (show 0 < m by omega)) (show 0 < m by omega)
  exact ⟨⟨b1.1, by omega⟩, ⟨b2.1, by omega⟩, ⟨b3.1, by omega⟩, ⟨b4.1, by omega⟩, by omega⟩
set_option maxHeartbeats 400000 in
theorem linF_any (k m : Int) (w : World) (h1 : 0 ≤ k) (h2 : k ≤ 256) (h3 : 1 ≤ m) (h4 : m ≤ 257) :
    Calls Try.prog 53 #[iv k, iv m] w fun e w' => e = .returned (iv (linV k m)) ∧ w = w' := by
  go_enter Try.func53, Try.ntmps53
  go_wp2
  go_ret
  exact ⟨rfl, rfl⟩
set_option maxHeartbeats 400000 in
theorem smoF_any (k m : Int) (w : World) (h1 : 0 ≤ k) (h2 : k < m) (h3 : 1 ≤ m) (h4 : m ≤ 257) :
    Calls Try.prog 54 #[iv k, iv m] w fun e w' => e = .returned (iv (smoV k m)) ∧ w = w' := by
  obtain ⟨b1, b2, b3, b4, b5⟩ := smo_bds k m h1 h2 h3 h4
  obtain ⟨b11, b12⟩ := b1
  obtain ⟨b21, b22⟩ := b2
  obtain ⟨b31, b32⟩ := b3
  obtain ⟨b41, b42⟩ := b4
  go_enter Try.func54, Try.ntmps54
  go_wp2
  go_ret
  exact ⟨rfl, rfl⟩

def lineR (f : Int → Int → Int) (n : Int) : List Int := if inB n 1 256 then lineL f n n.toNat else []
def lineC (n : Int) : Int := if inB n 1 256 then 0 else 2

set_option maxHeartbeats 800000 in
theorem window_lin (n : Int) (w : World) :
    Calls Try.prog 52 #[iv n, .func (.func 53) #[] #[]] w (ResI (lineR linV n) (lineC n) w) := by
  cases hin : inB n 1 256
  · rw [show lineR linV n = [] by simp [lineR, hin], show lineC n = 2 by simp [lineC, hin]]
    go_enter Try.func52, Try.ntmps52
    go_wp2_with (go_at_call 74; refine (within_any _ _ _ _).mono ?_; rintro e w' ⟨rfl, rfl⟩)
    go_ret2
    exact ⟨_, rfl, World.ownsRow_nil _ _ _ _, Below.refl _ _⟩
  · rw [show lineR linV n = lineL linV n n.toNat by simp [lineR, hin], show lineC n = 0 by simp [lineC, hin]]
    obtain ⟨h1, h2⟩ := inB_iff.1 hin
    go_enter Try.func52, Try.ntmps52
    go_wp2_with (go_at_call 74; refine (within_any _ _ _ _).mono ?_; rintro e w' ⟨rfl, rfl⟩)
    go_loopw [6, 7] (fun v i wr => ∃ k : Nat, i = iv (k + 1) ∧ k ≤ n.toNat ∧ wr.ownsRow w.heap.size 2 1 v k (ints (lineL linV n k)) ∧ Below w.heap.size w wr) (fun _ i _ => (n + 1 - intOf i).toNat)
    case atStart => exact ⟨0, rfl, Nat.zero_le _, own_empty _ _ _, (Below.refl _ _).alloc (Nat.le_refl _) _⟩
    case round =>
      obtain ⟨k, rfl, hk, how, hbw⟩ := hrel
      by_cases hlt : k < n.toNat
      · go_wp2_with (first
          | (go_at_call 53; refine (linF_any _ _ _ (by omega) (by omega) (by omega) (by omega)).mono ?_; rintro e w' ⟨rfl, rfl⟩)
          | (at_builtin; refine wp_push el_i64 (m := 1) how hbw.size (by omega) _ rfl rfl rfl rfl rfl rfl rfl ?_; intro v1 w1 how1 hg1 hb1))
        have hb2 := hbw.trans hb1
        go_roundw
        case rel => exact ⟨k + 1, by go_num, by omega, by rw [lineL_succ, ints_snoc]; exact how1, hb2⟩
        case measure => simp [intOf]; omega
      · go_wp2
        go_ret2
        obtain rfl : k = n.toNat := by omega
        exact ⟨_, rfl, by unfold OwnI; rw [lineL_len]; exact how, hbw⟩
set_option maxHeartbeats 800000 in
theorem window_smo (n : Int) (w : World) :
    Calls Try.prog 52 #[iv n, .func (.func 54) #[] #[]] w (ResI (lineR smoV n) (lineC n) w) := by
  cases hin : inB n 1 256
  · rw [show lineR smoV n = [] by simp [lineR, hin], show lineC n = 2 by simp [lineC, hin]]
    go_enter Try.func52, Try.ntmps52
    go_wp2_with (go_at_call 74; refine (within_any _ _ _ _).mono ?_; rintro e w' ⟨rfl, rfl⟩)
    go_ret2
    exact ⟨_, rfl, World.ownsRow_nil _ _ _ _, Below.refl _ _⟩
  · rw [show lineR smoV n = lineL smoV n n.toNat by simp [lineR, hin], show lineC n = 0 by simp [lineC, hin]]
    obtain ⟨h1, h2⟩ := inB_iff.1 hin
    go_enter Try.func52, Try.ntmps52
    go_wp2_with (go_at_call 74; refine (within_any _ _ _ _).mono ?_; rintro e w' ⟨rfl, rfl⟩)
    go_loopw [6, 7] (fun v i wr => ∃ k : Nat, i = iv (k + 1) ∧ k ≤ n.toNat ∧ wr.ownsRow w.heap.size 2 1 v k (ints (lineL smoV n k)) ∧ Below w.heap.size w wr) (fun _ i _ => (n + 1 - intOf i).toNat)
    case atStart => exact ⟨0, rfl, Nat.zero_le _, own_empty _ _ _, (Below.refl _ _).alloc (Nat.le_refl _) _⟩
    case round =>
      obtain ⟨k, rfl, hk, how, hbw⟩ := hrel
      by_cases hlt : k < n.toNat
      · go_wp2_with (first
          | (go_at_call 54; refine (smoF_any _ _ _ (by omega) (by omega) (by omega) (by omega)).mono ?_; rintro e w' ⟨rfl, rfl⟩)
          | (at_builtin; refine wp_push el_i64 (m := 1) how hbw.size (by omega) _ rfl rfl rfl rfl rfl rfl rfl ?_; intro v1 w1 how1 hg1 hb1))
        have hb2 := hbw.trans hb1
        go_roundw
        case rel => exact ⟨k + 1, by go_num, by omega, by rw [lineL_succ, ints_snoc]; exact how1, hb2⟩
        case measure => simp [intOf]; omega
      · go_wp2
        go_ret2
        obtain rfl : k = n.toNat := by omega
        exact ⟨_, rfl, by unfold OwnI; rw [lineL_len]; exact how, hbw⟩

theorem lin_impl (n : Int) (w : World) : Calls Try.prog 10 #[iv n] w (ResI (lineR linV n) (lineC n) w) := by
  go_enter Try.func10, Try.ntmps10
  go_wp2_with (go_at_call 52; refine (window_lin _ _).mono ?_; rintro e w' ⟨v, rfl, ho, hb⟩)
  go_ret2
  exact ⟨v, rfl, ho, hb⟩

theorem smo_impl (n : Int) (w : World) : Calls Try.prog 11 #[iv n] w (ResI (lineR smoV n) (lineC n) w) := by
  go_enter Try.func11, Try.ntmps11
  go_wp2_with (go_at_call 52; refine (window_smo _ _).mono ?_; rintro e w' ⟨v, rfl, ho, hb⟩)
  go_ret2
  exact ⟨v, rfl, ho, hb⟩

set_option maxHeartbeats 800000 in
theorem lin_spec (n : Int) (w : World) : Calls Try.prog 101 #[iv n] w (ResI (lineR linV n) (lineC n) w) := by
  cases hin : inB n 1 256
  · rw [show lineR linV n = [] by simp [lineR, hin], show lineC n = 2 by simp [lineC, hin]]
    go_enter Try.func101, Try.ntmps101
    go_wp2_with (go_at_call 92; refine (l00In_any _ _ _ _).mono ?_; rintro e w' ⟨rfl, rfl⟩)
    go_ret2
    exact ⟨_, rfl, World.ownsRow_nil _ _ _ _, Below.refl _ _⟩
  · rw [show lineR linV n = lineL linV n n.toNat by simp [lineR, hin], show lineC n = 0 by simp [lineC, hin]]
    obtain ⟨h1, h2⟩ := inB_iff.1 hin
    go_enter Try.func101, Try.ntmps101
    go_wp2_with (go_at_call 92; refine (l00In_any _ _ _ _).mono ?_; rintro e w' ⟨rfl, rfl⟩)
    go_loopw [4, 5] (fun v i wr => ∃ k : Nat, i = iv (k + 1) ∧ k ≤ n.toNat ∧ wr.ownsRow w.heap.size 2 1 v k (ints (lineL linV n k)) ∧ Below w.heap.size w wr) (fun _ i _ => (n + 1 - intOf i).toNat)
    case atStart => exact ⟨0, rfl, Nat.zero_le _, own_empty _ _ _, (Below.refl _ _).alloc (Nat.le_refl _) _⟩
    case round =>
      obtain ⟨k, rfl, hk, how, hbw⟩ := hrel
      by_cases hlt : k < n.toNat
      · go_wp2_with (at_builtin; refine wp_push el_i64 (m := 1) how hbw.size (by omega) _ rfl rfl rfl rfl rfl rfl rfl ?_; intro v1 w1 how1 hg1 hb1)
        have hb2 := hbw.trans hb1
        go_roundw
        case rel => exact ⟨k + 1, by go_num, by omega, by rw [lineL_succ, ints_snoc]; exact how1, hb2⟩
        case measure => simp [intOf]; omega
      · go_wp2
        go_ret2
        obtain rfl : k = n.toNat := by omega
        exact ⟨_, rfl, by unfold OwnI; rw [lineL_len]; exact how, hbw⟩

set_option maxRecDepth 100000 in
set_option maxHeartbeats 800000 in
theorem smo_spec (n : Int) (w : World) : Calls Try.prog 102 #[iv n] w (ResI (lineR smoV n) (lineC n) w) := by
  cases hin : inB n 1 256
  · rw [show lineR smoV n = [] by simp [lineR, hin], show lineC n = 2 by simp [lineC, hin]]
    go_enter Try.func102, Try.ntmps102
    go_wp2_with (go_at_call 92; refine (l00In_any _ _ _ _).mono ?_; rintro e w' ⟨rfl, rfl⟩)
    go_ret2
    exact ⟨_, rfl, World.ownsRow_nil _ _ _ _, Below.refl _ _⟩
  · rw [show lineR smoV n = lineL smoV n n.toNat by simp [lineR, hin], show lineC n = 0 by simp [lineC, hin]]
    obtain ⟨h1, h2⟩ := inB_iff.1 hin
    go_enter Try.func102, Try.ntmps102
    go_wp2_with (go_at_call 92; refine (l00In_any _ _ _ _).mono ?_; rintro e w' ⟨rfl, rfl⟩)
    obtain ⟨m, hm1, hm2, hm3⟩ : ∃ m : Int, n + 1 ≤ m ∧ m ≤ n + 1 ∧ Hid (n + 1 = m) := ⟨_, by omega, by omega, rfl⟩
    rw [hm3.out]
    go_loopw [4, 6] (fun v i wr => ∃ (k : Nat) (j : Int), i = iv j ∧ k + 1 ≤ j ∧ j ≤ k + 1 ∧ k ≤ n.toNat ∧ wr.ownsRow w.heap.size 2 1 v k (ints (lineL smoV n k)) ∧ Below w.heap.size w wr) (fun _ i _ => (n + 1 - intOf i).toNat)
    case atStart => exact ⟨0, 1, rfl, by omega, by omega, Nat.zero_le _, own_empty _ _ _, (Below.refl _ _).alloc (Nat.le_refl _) _⟩
    case round =>
      obtain ⟨k, j, rfl, hj1, hj2, hk, how, hbw⟩ := hrel
      by_cases hlt : k < n.toNat
      · obtain ⟨b1, b2, b3, b4, b5⟩ := smo_bds j m (by omega) (by omega) (by omega) (by omega)
        obtain ⟨b11, b12⟩ := b1
        obtain ⟨b21, b22⟩ := b2
        obtain ⟨b31, b32⟩ := b3
        obtain ⟨b41, b42⟩ := b4
        go_wp2_with (at_builtin; refine wp_push el_i64 (m := 1) how hbw.size (by omega) _ rfl rfl rfl rfl rfl rfl rfl ?_; intro v1 w1 how1 hg1 hb1)
        have hb2 := hbw.trans hb1
        go_roundw
        case rel => exact ⟨k + 1, j + 1, rfl, by omega, by omega, by omega, by rw [lineL_succ, ints_snoc, hm3.out, show (k : Int) + 1 = j by omega]; exact how1, hb2⟩
        case measure => simp [intOf]; omega
      · go_wp2
        go_ret2
        obtain rfl : k = n.toNat := by omega
        exact ⟨_, rfl, by unfold OwnI; rw [lineL_len]; exact how, hbw⟩
end Go.Proofs.Ythopcmglcnlcfaa.Old
