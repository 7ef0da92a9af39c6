/- Walks: fades in place and in a copy. -/
import Derived.Test.YthopcmglcnlcfaaOFade
import Derived.Test.YthopcmglcnlcfaaOAdd
namespace Go.Proofs.Ythopcmglcnlcfaa.Old
open Go.RowKit
set_option linter.unusedVariables false
set_option maxRecDepth 100000
set_option linter.unusedSimpArgs false

theorem fl_bd {x v : Int} (h1 : -2147483648 ≤ x) (h2 : x ≤ 2147483647) (h3 : 0 ≤ v) (h4 : v ≤ 256) : -2147483648 ≤ fl (x * v) ∧ fl (x * v) ≤ 2147483647 := by
  unfold fl
  have a := Int.mul_le_mul_of_nonneg_right h1 h3
  have b := Int.mul_le_mul_of_nonneg_right h2 h3
  omega
theorem fadeK_smpl {x m : List Int} (h : smpl x) (hm : winB m = true) (f k : Nat) (hk : k ≤ m.length) : smpl (fadeK x m f k) := by
  intro i hi
  rw [fadeK_len] at hi
  rw [gi_fadeK _ _ _ _ _ hi]
  split
  · rename_i c
    have h1 := h i hi
    have h2 := winB_get hm (k := i - f) (by omega)
    exact fl_bd h1.1 h1.2 h2.1 h2.2
  · exact h i hi

set_option maxHeartbeats 800000 in
theorem fade_any (v : Value) (x : List Int) (C : Option Addr) (n c2 : Nat) (m : List Int) (f base : Nat) (w : World) (hv : w.ownsRow base 2 1 v x.length (ints x)) (hm : Rd w 1 C n c2 (ints m))
    (hne : ∀ ad, C = some ad → some ad.block ≠ v.ownBlock) (hx : smpl x) (sm : winB m = true) (hf : f ≤ 4000) (lx : x.length ≤ 4000) :
    Calls Try.prog 64 #[v, .slice C n c2, iv f] w fun e w' => e = .returned (.tuple #[]) ∧ w'.ownsRow base 2 1 v x.length (ints (fadeK x m f n)) ∧ w.grownBy w' v.ownBlock := by
  have Hm : Hid (m.length = n) := by have := hm.1; rw [ints_len] at this; show _ = _; omega
  have lm := (winB_len sm).2
  rw [Hm.out] at lm
  obtain ⟨A, c, rfl, hnc, hcm⟩ := own_open hv
  obtain ⟨nx, Hx⟩ : ∃ nx, Hid (x.length = nx) := ⟨_, rfl⟩
  rw [Hx.out] at hv lx hnc hne ⊢
  go_enter Try.func64, Try.ntmps64
  go_wp2
  go_loopw [11] (fun i wr => ∃ k : Nat, i = iv k ∧ k ≤ n ∧ wr.ownsRow base 2 1 (.slice A nx c) nx (ints (fadeK x m f k)) ∧ w.grownBy wr (Value.slice A nx c).ownBlock) (fun i _ => n - (intOf i).toNat)
  case atStart => exact ⟨0, rfl, Nat.zero_le _, by rw [fadeK_zero]; exact hv, World.grownBy.refl _ _⟩
  case round =>
    obtain ⟨k, rfl, hk, how, hgw⟩ := hrel
    clear hv
    by_cases hlt : k < n
    · obtain ⟨a3, rfl, g3, q3'⟩ := hm.ints_at (k := k) hlt
      have q3 := World.grownBy.cell hgw q3' (by rw [block_add]; exact hne a3 rfl)
      clear q3'
      obtain ⟨p5, p6⟩ := winB_get sm (k := k) (by rw [Hm.out]; omega)
      by_cases hin : f + k < nx
      · obtain ⟨p1, p2⟩ := hx (f + k) (by rw [Hx.out]; exact hin)
        obtain ⟨b1, b2⟩ := mulw_bd p1 p2 p5 p6
        obtain ⟨g, rfl, hbg, hgl⟩ := own_addr how (by omega)
        obtain ⟨u, hu, hc2, hf2⟩ := own_cell how (j := f + k) (by omega)
        rw [ints_get (by rw [fadeK_len, Hx.out]; exact hin), gi_fadeK_at _ _ _ _ (by rw [Hx.out]; exact hin)] at hu
        injection hu with hu
        subst hu
        obtain ⟨how2, hg2⟩ := how.stored (f + k) (iv (fl (gi x (f + k) * gi m k)))
        rw [ints_set, fadeK_step _ _ _ _ (by rw [Hx.out]; exact hin)] at how2
        have hG := hgw.trans hg2
        go_wp2_with (first
          | (go_at_call 99; refine (size_any _ _ _ _).mono ?_; rintro e w' ⟨rfl, rfl⟩)
          | (go_at_call 107; refine (floorDiv256_any _ _ (by omega) (by omega)).mono ?_; rintro e w' ⟨rfl, rfl⟩))
        go_roundw
        case rel => exact ⟨k + 1, by go_num, by omega, how2, hG⟩
        case measure => simp [intOf]; omega
      · go_wp2_with (go_at_call 99; refine (size_any _ _ _ _).mono ?_; rintro e w' ⟨rfl, rfl⟩)
        go_roundw
        case rel => exact ⟨k + 1, by go_num, by omega, by rw [fadeK_more x m f k (k + 1) (by rw [Hx.out]; omega) (by omega)]; exact how, hgw⟩
        case measure => simp [intOf]; omega
    · go_wp2
      go_end0
      obtain rfl : k = n := by omega
      exact ⟨rfl, how, hgw⟩

end Go.Proofs.Ythopcmglcnlcfaa.Old
