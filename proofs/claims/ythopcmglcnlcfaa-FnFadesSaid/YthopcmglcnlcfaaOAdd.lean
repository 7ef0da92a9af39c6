/- Walks: the sum of a signal and a multiple of another one, in both packages. -/
import Derived.Test.YthopcmglcnlcfaaOArith
import Derived.Test.YthopcmglcnlcfaaOFadeP
namespace Go.Proofs.Ythopcmglcnlcfaa.Old
open Go.RowKit
set_option linter.unusedVariables false
set_option maxRecDepth 100000
set_option linter.unusedSimpArgs false

def smpl (x : List Int) : Prop := ∀ i, i < x.length → -2147483648 ≤ gi x i ∧ gi x i ≤ 2147483647
theorem sigB_smpl {x : List Int} (h : sigB x = true) : smpl x := fun i hi => sigB_get h hi
theorem smpl_all {x : List Int} (h : smpl x) (i : Nat) : -2147483648 ≤ gi x i ∧ gi x i ≤ 2147483647 := by
  by_cases hi : i < x.length
  · exact h i hi
  · rw [gi_past (by omega)]; omega
theorem mul_smpl {a b : Int} (h1 : -2147483648 ≤ a) (h2 : a ≤ 2147483647) (h3 : -2147483648 ≤ b) (h4 : b ≤ 2147483647) : -4611686018427387904 ≤ a * b ∧ a * b ≤ 4611686018427387904 := by
  have a1 : a.natAbs ≤ 2147483648 := by omega
  have a2 : b.natAbs ≤ 2147483648 := by omega
  have a3 := Nat.mul_le_mul a1 a2
  rw [← Int.natAbs_mul] at a3
  omega

/-- a signal plus g times another one: the first k samples -/
def addK (x y : List Int) (g : Int) (k : Nat) : List Int := (List.range k).map fun (i : Nat) => w32 (gi x i + g * gi y i)
def addL (x y : List Int) (g : Int) : List Int := addK x y g (max x.length y.length)
theorem addK_len (x y : List Int) (g : Int) (k : Nat) : (addK x y g k).length = k := by simp [addK]
theorem addK_succ (x y : List Int) (g : Int) (k : Nat) : addK x y g (k + 1) = addK x y g k ++ [w32 (gi x k + g * gi y k)] := by simp [addK, List.range_succ]
theorem add_fill (x y : List Int) (g : Int) (n k : Nat) (hk : k < n) :
    (ints (addK x y g k ++ List.replicate (n - k) 0)).set k (iv (w32 (gi x k + g * gi y k))) = ints (addK x y g (k + 1) ++ List.replicate (n - (k + 1)) 0) := by
  rw [ints_set, addK_succ, List.set_append_right _ _ (by rw [addK_len]; omega), addK_len, Nat.sub_self, show n - k = (n - (k + 1)) + 1 by omega, List.replicate_succ]
  simp

set_option maxHeartbeats 1000000 in
theorem addTimes_any (A B : Option Addr) (a b c d : Nat) (x y : List Int) (g : Int) (w : World) (hx : Rd w 1 A a c (ints x)) (hy : Rd w 1 B b d (ints y))
    (sx : smpl x) (sy : smpl y) (h1 : -2147483648 ≤ g) (h2 : g ≤ 2147483647) (la : a ≤ 1048576) (lb : b ≤ 1048576) :
    Calls Try.prog 65 #[.slice A a c, iv g, .slice B b d] w (RetI (addL x y g) w) := by
  have Hx : Hid (x.length = a) := by have := hx.1; rw [ints_len] at this; show _ = _; omega
  have Hy : Hid (y.length = b) := by have := hy.1; rw [ints_len] at this; show _ = _; omega
  rcases Nat.lt_or_ge a b with h | h
  · rw [show addL x y g = addK x y g b by rw [addL, Hx.out, Hy.out, Nat.max_eq_right (by omega)]]
    go_enter Try.func65, Try.ntmps65
    go_wp2_with (go_at_call 99; refine (size_any _ _ _ _).mono ?_; rintro e w' ⟨rfl, rfl⟩)
    refine (zeros_any b w (by omega)).mono ?_; rintro e w1 ⟨v, rfl, ho, hb⟩
    have hO : w1.ownsRow w.heap.size 2 1 v b (ints (addK x y g 0 ++ List.replicate (b - 0) 0)) := by
      have := ho; unfold OwnI at this; rw [List.length_replicate] at this; simpa [addK] using this
    clear ho
    obtain ⟨D, d', rfl, hnc, hcm⟩ := own_open hO
    unfold maxLen at hcm
    go_wp2
    go_loopw [17] (fun i wr => ∃ k : Nat, i = iv k ∧ k ≤ b ∧ wr.ownsRow w.heap.size 2 1 (.slice D b d') b (ints (addK x y g k ++ List.replicate (b - k) 0)) ∧ Below w.heap.size w wr) (fun i _ => b - (intOf i).toNat)
    case atStart => exact ⟨0, rfl, Nat.zero_le _, hO, hb⟩
    case round =>
      obtain ⟨k, rfl, hk, how, hbw⟩ := hrel
      clear hO hb
      by_cases hlt : k < b
      · obtain ⟨p1, p2⟩ := smpl_all sx k
        obtain ⟨p3, p4⟩ := smpl_all sy k
        obtain ⟨b1, b2⟩ := mul_smpl h1 h2 p3 p4
        obtain ⟨t, rfl, hbg, hgl⟩ := own_addr how (by omega)
        obtain ⟨u, -, hc2, hf2⟩ := own_cell how (j := k) (by omega)
        obtain ⟨how2, hg2⟩ := how.stored k (iv (w32 (gi x k + g * gi y k)))
        rw [add_fill x y g b k hlt] at how2
        have hb2 := hbw.grown hg2 hbw.size (by simp; omega)
        have cx := at_any A a c x k wr (hx.below hbw)
        have cy := at_any B b d y k wr (hy.below hbw)
        go_wp2_with fail
        refine cx.mono ?_; rintro e w' ⟨rfl, rfl⟩
        go_wp2_with fail
        refine cy.mono ?_; rintro e w' ⟨rfl, rfl⟩
        go_wp2_with fail
        refine (Wrap_any _ _).mono ?_; rintro e w' ⟨rfl, rfl⟩
        clear cx cy
        go_wp2
        go_roundw
        case rel => exact ⟨k + 1, by go_num, by omega, how2, hb2⟩
        case measure => simp [intOf]; omega
      · go_wp2
        go_ret
        obtain rfl : k = b := by omega
        refine ⟨_, rfl, ?_, hbw⟩
        unfold OwnI
        rw [addK_len]
        simpa using how
  · rw [show addL x y g = addK x y g a by rw [addL, Hx.out, Hy.out, Nat.max_eq_left (by omega)]]
    go_enter Try.func65, Try.ntmps65
    go_wp2_with (go_at_call 99; refine (size_any _ _ _ _).mono ?_; rintro e w' ⟨rfl, rfl⟩)
    refine (zeros_any a w (by omega)).mono ?_; rintro e w1 ⟨v, rfl, ho, hb⟩
    have hO : w1.ownsRow w.heap.size 2 1 v a (ints (addK x y g 0 ++ List.replicate (a - 0) 0)) := by
      have := ho; unfold OwnI at this; rw [List.length_replicate] at this; simpa [addK] using this
    clear ho
    obtain ⟨D, d', rfl, hnc, hcm⟩ := own_open hO
    unfold maxLen at hcm
    go_wp2
    go_loopw [17] (fun i wr => ∃ k : Nat, i = iv k ∧ k ≤ a ∧ wr.ownsRow w.heap.size 2 1 (.slice D a d') a (ints (addK x y g k ++ List.replicate (a - k) 0)) ∧ Below w.heap.size w wr) (fun i _ => a - (intOf i).toNat)
    case atStart => exact ⟨0, rfl, Nat.zero_le _, hO, hb⟩
    case round =>
      obtain ⟨k, rfl, hk, how, hbw⟩ := hrel
      clear hO hb
      by_cases hlt : k < a
      · obtain ⟨p1, p2⟩ := smpl_all sx k
        obtain ⟨p3, p4⟩ := smpl_all sy k
        obtain ⟨b1, b2⟩ := mul_smpl h1 h2 p3 p4
        obtain ⟨t, rfl, hbg, hgl⟩ := own_addr how (by omega)
        obtain ⟨u, -, hc2, hf2⟩ := own_cell how (j := k) (by omega)
        obtain ⟨how2, hg2⟩ := how.stored k (iv (w32 (gi x k + g * gi y k)))
        rw [add_fill x y g a k hlt] at how2
        have hb2 := hbw.grown hg2 hbw.size (by simp; omega)
        have cx := at_any A a c x k wr (hx.below hbw)
        have cy := at_any B b d y k wr (hy.below hbw)
        go_wp2_with fail
        refine cx.mono ?_; rintro e w' ⟨rfl, rfl⟩
        go_wp2_with fail
        refine cy.mono ?_; rintro e w' ⟨rfl, rfl⟩
        go_wp2_with fail
        refine (Wrap_any _ _).mono ?_; rintro e w' ⟨rfl, rfl⟩
        clear cx cy
        go_wp2
        go_roundw
        case rel => exact ⟨k + 1, by go_num, by omega, how2, hb2⟩
        case measure => simp [intOf]; omega
      · go_wp2
        go_ret
        obtain rfl : k = a := by omega
        refine ⟨_, rfl, ?_, hbw⟩
        unfold OwnI
        rw [addK_len]
        simpa using how

set_option maxHeartbeats 1000000 in
theorem l03Add_any (A B : Option Addr) (a b c d : Nat) (x y : List Int) (g : Int) (w : World) (hx : Rd w 1 A a c (ints x)) (hy : Rd w 1 B b d (ints y)) (la : a ≤ 1048576) (lb : b ≤ 1048576) :
    Calls Try.prog 67 #[.slice A a c, .slice B b d, iv g] w (RetI (addL x y g) w) := by
  have Hx : Hid (x.length = a) := by have := hx.1; rw [ints_len] at this; show _ = _; omega
  have Hy : Hid (y.length = b) := by have := hy.1; rw [ints_len] at this; show _ = _; omega
  obtain ⟨n, Hn⟩ : ∃ n, Hid (max a b = n) := ⟨_, rfl⟩
  have ln : n ≤ 1048576 := by have := Hn.out; omega
  have CM := l00Max_any a b
  rw [mx_nat, Hn.out] at CM
  rw [show addL x y g = addK x y g n by rw [addL, Hx.out, Hy.out, Hn.out]]
  go_enter Try.func67, Try.ntmps67
  go_wp2_with fail
  refine (CM _).mono ?_; rintro e w' ⟨rfl, rfl⟩
  clear CM
  go_wp2
  go_loopw [7, 9] (fun v i wr => ∃ k : Nat, i = iv k ∧ k ≤ n ∧ wr.ownsRow w.heap.size 2 1 v k (ints (addK x y g k)) ∧ Below w.heap.size w wr) (fun _ i _ => n - (intOf i).toNat)
  case atStart => exact ⟨0, rfl, Nat.zero_le _, own_empty _ _ _, (Below.refl _ _).alloc (Nat.le_refl _) _⟩
  case round =>
    obtain ⟨k, rfl, hk, how, hbw⟩ := hrel
    by_cases hlt : k < n
    · have cx := l03At_any A a c x k wr (hx.below hbw)
      have cy := l03At_any B b d y k wr (hy.below hbw)
      have e1 : Hid (w32 (gi x k + w32 (gi y k * g)) = w32 (gi x k + g * gi y k)) := by rw [w32_add_r, Int.mul_comm]; rfl
      go_wp2_with fail
      refine cx.mono ?_; rintro e w' ⟨rfl, rfl⟩
      go_wp2_with fail
      refine cy.mono ?_; rintro e w' ⟨rfl, rfl⟩
      go_wp2_with fail
      refine (l01Mul_any _ _ _).mono ?_; rintro e w' ⟨rfl, rfl⟩
      go_wp2_with fail
      refine (l01Add_any _ _ _).mono ?_; rintro e w' ⟨rfl, rfl⟩
      rw [e1.out]
      clear cx cy
      go_wp2_with (at_builtin; refine wp_push el_i64 (m := 1) how hbw.size (by omega) _ rfl rfl rfl rfl rfl rfl rfl ?_; intro v1 w1 how1 hg1 hb1)
      have hb2 := hbw.trans hb1
      go_roundw
      case rel => exact ⟨k + 1, by go_num, by omega, by rw [addK_succ, ints_snoc]; exact how1, hb2⟩
      case measure => simp [intOf]; omega
    · go_wp2
      go_ret
      obtain rfl : k = n := by omega
      exact ⟨_, rfl, by unfold OwnI; rw [addK_len]; exact how, hbw⟩
end Go.Proofs.Ythopcmglcnlcfaa.Old
