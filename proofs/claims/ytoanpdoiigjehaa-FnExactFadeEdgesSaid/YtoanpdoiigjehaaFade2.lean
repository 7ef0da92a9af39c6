/- Walks: fades in place and in a copy. -/
import Derived.Test.YtoanpdoiigjehaaFade
import Derived.Test.YtoanpdoiigjehaaAdd
namespace Go.Proofs.Ytoanpdoiigjehaa
open Go.RowKit
set_option linter.unusedVariables false
set_option linter.unusedSimpArgs false

theorem fl_bd {x v : Int} (h1 : -2147483648 ≤ x) (h2 : x ≤ 2147483647) (h3 : 0 ≤ v) (h4 : v ≤ 256) : -2147483648 ≤ fl (x * v) ∧ fl (x * v) ≤ 2147483647 := by
  unfold fl
  have a := Int.mul_le_mul_of_nonneg_right h1 h3
  have b := Int.mul_le_mul_of_nonneg_right h2 h3
  omega
theorem fadeK_smpl {x m : List Int} (h : smpl x) (hm : winB m = true) (f k : Nat) (hk : k ≤ m.length) : smpl (fadeK x m f k) := by
  intro i hi
  rw [fadeK_len] at hi
  rw [gi_fadeK _ _ _ _ _ hi]
  split
  · rename_i c
    have h1 := h i hi
    have h2 := winB_get hm (k := i - f) (by omega)
    exact fl_bd h1.1 h1.2 h2.1 h2.2
  · exact h i hi

set_option maxHeartbeats 800000 in
theorem fade_any (v : Value) (x : List Int) (C : Option Addr) (n c2 : Nat) (m : List Int) (f base : Nat) (w : World) (hv : w.ownsRow base 2 1 v x.length (ints x)) (hm : Rd w 1 C n c2 (ints m))
    (hne : ∀ ad, C = some ad → some ad.block ≠ v.ownBlock) (hx : smpl x) (sm : winB m = true) (hf : f ≤ 4000) (lx : x.length ≤ 4000) :
    Calls Try.prog 53 #[v, .slice C n c2, iv f] w fun e w' => e = .returned (.tuple #[]) ∧ w'.ownsRow base 2 1 v x.length (ints (fadeK x m f n)) ∧ w.grownBy w' v.ownBlock := by
  have Hm : Hid (m.length = n) := by have := hm.1; rw [ints_len] at this; show _ = _; omega
  have lm := (winB_len sm).2
  rw [Hm.out] at lm
  obtain ⟨A, c, rfl, hnc, hcm⟩ := own_open hv
  obtain ⟨nx, Hx⟩ : ∃ nx, Hid (x.length = nx) := ⟨_, rfl⟩
  rw [Hx.out] at hv lx hnc hne ⊢
  go_enter Try.func53, Try.ntmps53
  go_wp2
  go_loopw [11] (fun i wr => ∃ k : Nat, i = iv k ∧ k ≤ n ∧ wr.ownsRow base 2 1 (.slice A nx c) nx (ints (fadeK x m f k)) ∧ w.grownBy wr (Value.slice A nx c).ownBlock) (fun i _ => n - (intOf i).toNat)
  case atStart => exact ⟨0, rfl, Nat.zero_le _, by rw [fadeK_zero]; exact hv, World.grownBy.refl _ _⟩
  case round =>
    obtain ⟨k, rfl, hk, how, hgw⟩ := hrel
    clear hv
    by_cases hlt : k < n
    · obtain ⟨a3, rfl, g3, q3'⟩ := hm.ints_at (k := k) hlt
      have q3 := World.grownBy.cell hgw q3' (by rw [block_add]; exact hne a3 rfl)
      clear q3'
      obtain ⟨p5, p6⟩ := winB_get sm (k := k) (by rw [Hm.out]; omega)
      by_cases hin : f + k < nx
      · obtain ⟨p1, p2⟩ := hx (f + k) (by rw [Hx.out]; exact hin)
        obtain ⟨b1, b2⟩ := mulw_bd p1 p2 p5 p6
        obtain ⟨g, rfl, hbg, hgl⟩ := own_addr how (by omega)
        obtain ⟨u, hu, hc2, hf2⟩ := own_cell how (j := f + k) (by omega)
        rw [ints_get (by rw [fadeK_len, Hx.out]; exact hin), gi_fadeK_at _ _ _ _ (by rw [Hx.out]; exact hin)] at hu
        injection hu with hu
        subst hu
        obtain ⟨how2, hg2⟩ := how.stored (f + k) (iv (fl (gi x (f + k) * gi m k)))
        rw [ints_set, fadeK_step _ _ _ _ (by rw [Hx.out]; exact hin)] at how2
        have hG := hgw.trans hg2
        go_wp2_with (first
          | (go_at_call 54; refine (size_any _ _ _ _).mono ?_; rintro e w' ⟨rfl, rfl⟩)
          | (go_at_call 69; refine (floorDiv256_any _ _ (by omega) (by omega)).mono ?_; rintro e w' ⟨rfl, rfl⟩))
        go_roundw
        case rel => exact ⟨k + 1, by go_num, by omega, how2, hG⟩
        case measure => simp [intOf]; omega
      · go_wp2_with (go_at_call 54; refine (size_any _ _ _ _).mono ?_; rintro e w' ⟨rfl, rfl⟩)
        go_roundw
        case rel => exact ⟨k + 1, by go_num, by omega, by rw [fadeK_more x m f k (k + 1) (by rw [Hx.out]; omega) (by omega)]; exact how, hgw⟩
        case measure => simp [intOf]; omega
    · go_wp2
      go_end0
      obtain rfl : k = n := by omega
      exact ⟨rfl, how, hgw⟩

set_option maxHeartbeats 1000000 in
theorem l24Fade_any (A C : Option Addr) (a c n c2 : Nat) (x m : List Int) (f : Nat) (w : World) (hx : Rd w 1 A a c (ints x)) (hm : Rd w 1 C n c2 (ints m))
    (sx : smpl x) (sm : winB m = true) (hf : f ≤ 4000) (lx : a ≤ 4000) :
    Calls Try.prog 51 #[.slice A a c, .slice C n c2, iv f] w (RetI (fadeK x m f n) w) := by
  have Hx : Hid (x.length = a) := by have := hx.1; rw [ints_len] at this; show _ = _; omega
  have Hm : Hid (m.length = n) := by have := hm.1; rw [ints_len] at this; show _ = _; omega
  have lm := (winB_len sm).2
  rw [Hm.out] at lm
  go_enter Try.func51, Try.ntmps51
  go_wp2_with (go_at_call 48; refine (l00Own_any _ _ _ _ _ hx (by omega)).mono ?_; rintro e w1 ⟨v, rfl, ho, hb⟩)
  have hO : w1.ownsRow w.heap.size 2 1 v a (ints x) := by have := ho; unfold OwnI at this; rw [Hx.out] at this; exact this
  clear ho
  obtain ⟨D, d, rfl, hnc, hcm⟩ := own_open hO
  go_loopw [8] (fun i wr => ∃ k : Nat, i = iv k ∧ k ≤ n ∧ wr.ownsRow w.heap.size 2 1 (.slice D a d) a (ints (fadeK x m f k)) ∧ Below w.heap.size w wr) (fun i _ => n - (intOf i).toNat)
  case atStart => exact ⟨0, rfl, Nat.zero_le _, by rw [fadeK_zero]; exact hO, hb⟩
  case round =>
    obtain ⟨k, rfl, hk, how, hbw⟩ := hrel
    clear hO hb
    by_cases hlt : k < n
    · by_cases hin : f + k < a
      · obtain ⟨a1, rfl, g1, q1'⟩ := hx.ints_at (k := f + k) hin
        have q1 := (hbw.cell (p := a1.add (f + k)) (by rw [block_add]; exact g1)).trans q1'
        obtain ⟨a3, rfl, g3, q3'⟩ := hm.ints_at (k := k) hlt
        have q3 := (hbw.cell (p := a3.add k) (by rw [block_add]; exact g3)).trans q3'
        clear q1' q3'
        obtain ⟨p5, p6⟩ := winB_get sm (k := k) (by rw [Hm.out]; omega)
        obtain ⟨p1, p2⟩ := sx (f + k) (by rw [Hx.out]; exact hin)
        obtain ⟨b1, b2⟩ := mulw_bd p1 p2 p5 p6
        obtain ⟨g, rfl, hbg, hgl⟩ := own_addr how (by omega)
        obtain ⟨u, -, hc2, hf2⟩ := own_cell how (j := f + k) (by omega)
        obtain ⟨how2, hg2⟩ := how.stored (f + k) (iv (fl (gi x (f + k) * gi m k)))
        rw [ints_set, fadeK_step _ _ _ _ (by rw [Hx.out]; exact hin)] at how2
        have hb2 := hbw.grown hg2 hbw.size (by simp; omega)
        go_wp2
        have i1 : (0 : Int) ≤ (f : Int) + (k : Int) := by omega
        have i2 : (f : Int) + (k : Int) < (a : Int) := by omega
        have i3 : (0 : Int) ≤ (k : Int) := by omega
        have i4 : (k : Int) < (n : Int) := by omega
        have j1 : IntKind.i64.wrap ((f : Int) + (k : Int)) = (f : Int) + (k : Int) := IntWalk.i64_in _ (by omega)
        have j2 : ((f : Int) + (k : Int)).toNat = f + k := by omega
        have j3 : IntKind.i64.wrap (gi x (f + k) * gi m k) = gi x (f + k) * gi m k := IntWalk.i64_in _ (by omega)
        have t1 : ((wr.setCell ⟨g, f + k, none⟩ (iv (fl (gi x (f + k) * gi m k)))).drew).cell? (a1.add (f + k)) = some (iv (gi x (f + k))) :=
          (hb2.cell (p := a1.add (f + k)) (by rw [block_add]; exact g1)).trans ((hbw.cell (p := a1.add (f + k)) (by rw [block_add]; exact g1)).symm.trans q1)
        have t3 : ((wr.setCell ⟨g, f + k, none⟩ (iv (fl (gi x (f + k) * gi m k)))).drew).cell? (a3.add k) = some (iv (gi m k)) :=
          (hb2.cell (p := a3.add k) (by rw [block_add]; exact g3)).trans ((hbw.cell (p := a3.add k) (by rw [block_add]; exact g3)).symm.trans q3)
        go_region_held3 (fun w' => w'.cell? (a1.add (f + k)) = some (iv (gi x (f + k))) ∧ w'.cell? (a3.add k) = some (iv (gi m k)))
          (first | go_keep | exact ⟨t1, t3⟩)
          (first
            | (go_at_call 66; refine (l24Floor_any _ _ (by omega) (by omega)).mono ?_; rintro e w' ⟨rfl, rfl⟩))
        clear j1 j2 j3
        go_wp2
        go_roundw
        case rel => exact ⟨k + 1, by go_num, by omega, how2, hb2.drew⟩
        case measure => simp [intOf]; omega
      · go_wp2
        go_ret
        refine ⟨_, rfl, ?_, hbw⟩
        unfold OwnI
        rw [fadeK_more x m f k n (by rw [Hx.out]; omega) hk, fadeK_len, Hx.out]
        exact how
    · go_wp2
      go_ret
      obtain rfl : k = n := by omega
      refine ⟨_, rfl, ?_, hbw⟩
      unfold OwnI
      rw [fadeK_len, Hx.out]
      exact how
end Go.Proofs.Ytoanpdoiigjehaa
