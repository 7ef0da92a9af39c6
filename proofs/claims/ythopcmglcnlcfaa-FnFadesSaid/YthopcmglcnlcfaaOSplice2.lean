/- Walks: two signals spliced: the program's own function. -/
import Derived.Test.YthopcmglcnlcfaaOSplice
import Derived.Deep.RegionHeld3
namespace Go.Proofs.Ythopcmglcnlcfaa.Old
open Go.RowKit
set_option linter.unusedVariables false
set_option maxRecDepth 100000
set_option linter.unusedSimpArgs false

set_option maxHeartbeats 400000 in
theorem Splice_impl0 (A B C : Option Addr) (a b n c c1 c2 : Nat) (x y m : List Int) (w : World) (hx : Rd w 1 A a c (ints x)) (hy : Rd w 1 B b c1 (ints y)) (hm : Rd w 1 C n c2 (ints m))
   (s1 : sigB x = true) (s2 : sigB y = true) (s3 : winB m = true) (l1 : n ≤ a) (l2 : n ≤ b) (l3 : a + b ≤ 4000 + n) :
    Calls Try.prog 23 #[.slice A a c, .slice B b c1, .slice C n c2] w (ResI (x.take (a - n) ++ crossL (x.drop (a - n)) y m n ++ y.drop n) 0 w) := by
  have C1 := isSignal_any A a c x w hx
  have C2 := isSignal_any B b c1 y w hy
  have C3 := isWindow_any C n c2 m w hm
  rw [s1] at C1
  rw [s2] at C2
  rw [s3] at C3
  have hc := hx.2.1
  have hcm := hx.2.2.1
  have hd := hy.2.1
  have hdm := hy.2.2.1
  unfold maxLen at hcm hdm
  have Hx : Hid (x.length = a) := by have := hx.1; rw [ints_len] at this; show _ = _; omega
  have Hy : Hid (y.length = b) := by have := hy.1; rw [ints_len] at this; show _ = _; omega
  have Hm : Hid (m.length = n) := by have := hm.1; rw [ints_len] at this; show _ = _; omega
  have lm := (winB_len s3).2
  rw [Hm.out] at lm
  have l4 : a ≤ 4000 := by have := sigB_len s1; rw [Hx.out] at this; exact this
  obtain ⟨q, hq, hq2⟩ : ∃ q : Nat, q + n = a ∧ a - n = q := ⟨a - n, by omega, rfl⟩
  have Hq := Lib.hid hq2
  have Hqi : Hid ((a : Int) - (n : Int) = (q : Int)) := by show _ = _; omega
  have hq3 : q ≤ a := by omega
  have hx1 : Rd w 1 A q c (ints (x.take q)) := by have := hx.take (k := q) hq3; rw [ints_take] at this; simpa only [Nat.mul_one] using this
  have lm1 := (winB_len s3).1
  rw [Hm.out] at lm1
  have hne : ¬ c = q := by omega
  have hx2 : Rd w 1 (A.map (·.add q)) n (c - q) (ints (x.drop q)) := by have := hx.drop (k := q) hq3; rw [ints_drop, if_neg hne, show a - q = n by omega] at this; simpa only [Nat.mul_one] using this
  have hy1 : Rd w 1 B n c1 (ints (y.take n)) := by have := hy.take (k := n) l2; rw [ints_take] at this; simpa only [Nat.mul_one] using this
  have hy2 : Rd w 1 (if c1 = n then B else B.map (·.add n)) (b - n) (c1 - n) (ints (y.drop n)) := by have := hy.drop (k := n) l2; rw [ints_drop] at this; simpa only [Nat.mul_one] using this
  have e1 : Hid (a - q = n) := by show _ = _; omega
  clear hq hq2
  go_enter Try.func23, Try.ntmps23
  go_wp2_with fail
  refine C1.mono ?_; rintro e w' ⟨rfl, rfl⟩
  go_wp2_with fail
  refine C2.mono ?_; rintro e w' ⟨rfl, rfl⟩
  go_wp2_with fail
  refine C3.mono ?_; rintro e w' ⟨rfl, rfl⟩
  clear C1 C2 C3
  go_wp2_with fail
  rw [Hqi.out]
  have i1 : (0 : Int) ≤ (q : Int) := by omega
  have i2 : (q : Int) ≤ (c : Int) := by omega
  have i3 : (q : Int) ≤ (a : Int) := by omega
  have i4 : (n : Int) ≤ (c1 : Int) := by omega
  have i5 : (0 : Int) ≤ (n : Int) := by omega
  go_region_held3 (fun _ => True) (trivial)
    (first
      | (refine step_appendS el_i64 ho4 hbw2.size hr2 (by omega) (ints_one _) rfl rfl rfl rfl ?_; intro v3 w3 ho3 hg3 hb3)
      | (go_at_call 63; refine (clone_any A q c _ w.drew hx1 (by omega)).mono ?_; rintro e w1 ⟨v1, rfl, ho1, hb1'⟩; have hb1 : Below w.heap.size w w1 := (Below.refl _ w).drew.trans hb1')
      | (go_at_call 68; rw [e1.out]; with_reducible refine (crossfade_any _ B C n n n _ _ _ _ _ _ w1 (hx2.below hb1) (hy1.below hb1) (hm.below hb1) (sig_drop s1 q) (sig_take s2 n) s3 (Nat.le_refl _) (Nat.le_refl _)).mono ?_
         rintro e w2 ⟨v2, rfl, ho2', hb2⟩
         have ho2 : w2.ownsRow w1.heap.size 2 1 v2 n (ints (crossL (x.drop q) (y.take n) m n)) := (by have := ho2'; unfold OwnI at this; rwa [crossL_len] at this)
         have ho4 : w2.ownsRow w.heap.size 2 1 v1 q (ints (x.take q)) := (by have := ownBlock_lt_of ho1 hb2; rwa [List.length_take, Hx.out, Nat.min_eq_left hq3] at this)
         have hbw2 : Below w.heap.size w w2 := hb1.trans (hb2.mono hb1.size)
         obtain ⟨E, e2, rfl, -, -⟩ := own_open ho2
         have hr2 := own_rd ho2))
  have hbw3 := hbw2.trans hb3
  have hy3 := hy2.below hbw3
  go_wp2_with (at_builtin; refine wp_appendS el_i64 ho3 hbw3.size hy3 (by omega) (ints_one _) rfl rfl rfl rfl ?_; intro v4 w4 how4 hg4 hb4)
  all_goals
    go_ret2
    refine ⟨_, rfl, ?_, hbw3.trans hb4⟩
    have e5 : crossL (x.drop q) (y.take n) m n = crossL (x.drop q) y m n := by
      unfold crossL
      refine List.map_congr_left fun i hi => ?_
      have : i < n := by simpa using hi
      rw [show gi (y.take n) i = gi y i by simp [gi, List.getElem?_take, this]]
    rw [← ints_app, ← ints_app, e5, List.append_assoc] at how4
    have e9 := Hq.out
    have el : (x.take (a - n) ++ (crossL (x.drop (a - n)) y m n ++ y.drop n)).length = q + n + (b - n) := by
      rw [List.length_append, List.length_append, List.length_take, crossL_len, List.length_drop, Hx.out, Hy.out]; omega
    unfold OwnI
    rw [el, Hq.out]
    exact how4

set_option maxHeartbeats 800000 in
theorem SpliceSignals_impl (A B C : Option Addr) (a b n c c1 c2 : Nat) (x y m : List Int) (w : World) (hx : Rd w 1 A a c (ints x)) (hy : Rd w 1 B b c1 (ints y)) (hm : Rd w 1 C n c2 (ints m)) :
    Calls Try.prog 23 #[.slice A a c, .slice B b c1, .slice C n c2] w (ResI (splR x y m) (splC x y m) w) := by
  have Hx : x.length = a := by have := hx.1; rw [ints_len] at this; omega
  have Hy : y.length = b := by have := hy.1; rw [ints_len] at this; omega
  have Hm : m.length = n := by have := hm.1; rw [ints_len] at this; omega
  have C1 := isSignal_any A a c x w hx
  have C2 := isSignal_any B b c1 y w hy
  have C3 := isWindow_any C n c2 m w hm
  have hcase := spl_cases x y m
  rw [Hx, Hy, Hm] at hcase
  rcases hcase with ⟨s1, hC, hR⟩ | ⟨s1, s2, hC, hR⟩ | ⟨s1, s2, s3, hC, hR⟩ | ⟨s1, s2, s3, hl, hC, hR⟩ | ⟨s1, s2, s3, hl, hl2, hC, hR⟩ | ⟨s1, s2, s3, hl, hl2, hl3, hC, hR⟩ | ⟨s1, s2, s3, hl, hl2, hl3, hC, hR⟩
  · rw [hC, hR]
    rw [s1] at C1
    clear hC hR Hx Hy Hm
    go_enter Try.func23, Try.ntmps23
    go_wp2_with fail
    refine C1.mono ?_; rintro e w' ⟨rfl, rfl⟩
    go_wp2
    all_goals
      go_ret2
      exact ⟨_, rfl, World.ownsRow_nil _ _ _ _, Below.refl _ _⟩
  · rw [hC, hR]
    rw [s1] at C1
    rw [s2] at C2
    clear hC hR Hx Hy Hm
    go_enter Try.func23, Try.ntmps23
    go_wp2_with fail
    refine C1.mono ?_; rintro e w' ⟨rfl, rfl⟩
    go_wp2_with fail
    refine C2.mono ?_; rintro e w' ⟨rfl, rfl⟩
    go_wp2
    all_goals
      go_ret2
      exact ⟨_, rfl, World.ownsRow_nil _ _ _ _, Below.refl _ _⟩
  · rw [hC, hR]
    rw [s1] at C1
    rw [s2] at C2
    rw [s3] at C3
    clear hC hR Hx Hy Hm
    go_enter Try.func23, Try.ntmps23
    go_wp2_with fail
    refine C1.mono ?_; rintro e w' ⟨rfl, rfl⟩
    go_wp2_with fail
    refine C2.mono ?_; rintro e w' ⟨rfl, rfl⟩
    go_wp2_with fail
    refine C3.mono ?_; rintro e w' ⟨rfl, rfl⟩
    go_wp2
    all_goals
      go_ret2
      exact ⟨_, rfl, World.ownsRow_nil _ _ _ _, Below.refl _ _⟩
  · rw [hC, hR]
    rw [s1] at C1
    rw [s2] at C2
    rw [s3] at C3
    have l1 := sigB_len s1
    have l2 := sigB_len s2
    have l3 := (winB_len s3).2
    rw [Hx] at l1
    rw [Hy] at l2
    rw [Hm] at l3
    clear hC hR s1 s2 s3 Hx Hy Hm
    go_enter Try.func23, Try.ntmps23
    go_wp2_with fail
    refine C1.mono ?_; rintro e w' ⟨rfl, rfl⟩
    go_wp2_with fail
    refine C2.mono ?_; rintro e w' ⟨rfl, rfl⟩
    go_wp2_with fail
    refine C3.mono ?_; rintro e w' ⟨rfl, rfl⟩
    go_wp2
    all_goals
      go_ret2
      exact ⟨_, rfl, World.ownsRow_nil _ _ _ _, Below.refl _ _⟩
  · rw [hC, hR]
    rw [s1] at C1
    rw [s2] at C2
    rw [s3] at C3
    have l1 := sigB_len s1
    have l2 := sigB_len s2
    have l3 := (winB_len s3).2
    rw [Hx] at l1
    rw [Hy] at l2
    rw [Hm] at l3
    clear hC hR s1 s2 s3 Hx Hy Hm
    go_enter Try.func23, Try.ntmps23
    go_wp2_with fail
    refine C1.mono ?_; rintro e w' ⟨rfl, rfl⟩
    go_wp2_with fail
    refine C2.mono ?_; rintro e w' ⟨rfl, rfl⟩
    go_wp2_with fail
    refine C3.mono ?_; rintro e w' ⟨rfl, rfl⟩
    go_wp2
    all_goals
      go_ret2
      exact ⟨_, rfl, World.ownsRow_nil _ _ _ _, Below.refl _ _⟩
  · rw [hC, hR]
    rw [s1] at C1
    rw [s2] at C2
    rw [s3] at C3
    have l1 := sigB_len s1
    have l2 := sigB_len s2
    have l3 := (winB_len s3).2
    rw [Hx] at l1
    rw [Hy] at l2
    rw [Hm] at l3
    clear hC hR s1 s2 s3 Hx Hy Hm
    go_enter Try.func23, Try.ntmps23
    go_wp2_with fail
    refine C1.mono ?_; rintro e w' ⟨rfl, rfl⟩
    go_wp2_with fail
    refine C2.mono ?_; rintro e w' ⟨rfl, rfl⟩
    go_wp2_with fail
    refine C3.mono ?_; rintro e w' ⟨rfl, rfl⟩
    go_wp2
    all_goals
      go_ret2
      exact ⟨_, rfl, World.ownsRow_nil _ _ _ _, Below.refl _ _⟩
  · rw [hC, hR]
    exact Splice_impl0 A B C a b n c c1 c2 x y m w hx hy hm s1 s2 s3 hl hl2 hl3
end Go.Proofs.Ythopcmglcnlcfaa.Old
