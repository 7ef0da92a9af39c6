/- Walks of both packages' functions on signals, windows and fades. -/
import Derived.Test.YthopcmglcnlcfaaOFadeP
import Derived.Test.YthopcmglcnlcfaaOSamp
import Derived.StillTailTactics
import Derived.Deep.RegionHeld3
namespace Go.Proofs.Ythopcmglcnlcfaa.Old
open Go.RowKit
set_option linter.unusedVariables false
set_option maxRecDepth 100000
set_option linter.unusedSimpArgs false


set_option maxHeartbeats 400000 in
theorem areSamples_any (A : Option Addr) (n c : Nat) (l : List Int) (w : World) (hx : Rd w 1 A n c (ints l)) :
    Calls Try.prog 106 #[.slice A n c] w fun e w' => e = .returned (.bool (allB sampB l)) ∧ w = w' := by
  have Hn : Hid (l.length = n) := by have := hx.1; rw [ints_len] at this; show _ = _; omega
  have hc := hx.2.1
  have hcm := hx.2.2.1
  unfold maxLen at hcm
  go_enter Try.func106, Try.ntmps106
  go_wp2
  go_loop [7] (fun i => ∃ k : Nat, i = iv k ∧ k ≤ n ∧ Hid (allB sampB (l.take k) = true)) (fun i => n - (intOf i).toNat)
  case atStart => exact ⟨0, rfl, Nat.zero_le _, rfl⟩
  case round =>
    obtain ⟨k, rfl, hk, ht⟩ := hrel
    by_cases hlt : k < n
    · obtain ⟨a1, rfl, -, h1⟩ := hx.ints_at hlt
      cases hb : sampB (gi l k)
      · go_wp2_with (go_at_call 124; refine (isSample_any _ _).mono ?_; rintro e w' ⟨rfl, rfl⟩)
        go_ret
        refine ⟨retb ?_, rfl⟩
        rw [allB_no (by rw [Hn.out]; exact hlt) hb]
      · go_wp2_with (go_at_call 124; refine (isSample_any _ _).mono ?_; rintro e w' ⟨rfl, rfl⟩)
        go_round
        case rel => exact ⟨k + 1, by go_num, by omega, allB_step (by rw [Hn.out]; exact hlt) hb ht.out⟩
        case measure => simp [intOf]; omega
    · go_wp2
      go_ret
      refine ⟨retb ?_, rfl⟩
      have := ht.out
      rw [List.take_of_length_le (by rw [Hn.out]; omega)] at this
      rw [this]

set_option maxHeartbeats 400000 in
theorem l03Ok_any (A : Option Addr) (n c : Nat) (l : List Int) (w : World) (hx : Rd w 1 A n c (ints l)) :
    Calls Try.prog 66 #[.slice A n c] w fun e w' => e = .returned (.bool (sigB l)) ∧ w = w' := by
  have Hn : Hid (l.length = n) := by have := hx.1; rw [ints_len] at this; show _ = _; omega
  have hc := hx.2.1
  have hcm := hx.2.2.1
  unfold maxLen at hcm
  by_cases hbig : 4000 < n
  · rw [show sigB l = false by rw [sigB, decide_eq_false (by rw [Hn.out]; omega)]; rfl]
    go_enter Try.func66, Try.ntmps66
    go_wp2
    go_ret
    exact ⟨rfl, rfl⟩
  go_enter Try.func66, Try.ntmps66
  go_wp2
  go_loop [3] (fun i => ∃ k : Nat, i = iv k ∧ k ≤ n ∧ Hid (allB sampB (l.take k) = true)) (fun i => n - (intOf i).toNat)
  case atStart => exact ⟨0, rfl, Nat.zero_le _, rfl⟩
  case round =>
    obtain ⟨k, rfl, hk, ht⟩ := hrel
    by_cases hlt : k < n
    · obtain ⟨a1, rfl, -, h1⟩ := hx.ints_at hlt
      cases hb : sampB (gi l k)
      · go_wp2_with (go_at_call 111; refine (l01Sample_any _ _).mono ?_; rintro e w' ⟨rfl, rfl⟩)
        go_ret
        refine ⟨retb ?_, rfl⟩
        rw [sigB, allB_no (by rw [Hn.out]; exact hlt) hb, Bool.and_false]
      · go_wp2_with (go_at_call 111; refine (l01Sample_any _ _).mono ?_; rintro e w' ⟨rfl, rfl⟩)
        go_round
        case rel => exact ⟨k + 1, by go_num, by omega, allB_step (by rw [Hn.out]; exact hlt) hb ht.out⟩
        case measure => simp [intOf]; omega
    · go_wp2
      go_ret
      refine ⟨retb ?_, rfl⟩
      have := ht.out
      rw [List.take_of_length_le (by rw [Hn.out]; omega)] at this
      rw [sigB, this, decide_eq_true (by rw [Hn.out]; omega)]; rfl

set_option maxHeartbeats 400000 in
theorem isSignal_any (A : Option Addr) (n c : Nat) (l : List Int) (w : World) (hx : Rd w 1 A n c (ints l)) :
    Calls Try.prog 61 #[.slice A n c] w fun e w' => e = .returned (.bool (sigB l)) ∧ w = w' := by
  have Hn : Hid (l.length = n) := by have := hx.1; rw [ints_len] at this; show _ = _; omega
  by_cases hbig : 4000 < n
  · rw [show sigB l = false by rw [sigB, decide_eq_false (by rw [Hn.out]; omega)]; rfl]
    go_enter Try.func61, Try.ntmps61
    go_wp2
    go_ret
    exact ⟨rfl, rfl⟩
  · rw [show sigB l = allB sampB l by rw [sigB, decide_eq_true (by rw [Hn.out]; omega), Bool.true_and]]
    go_enter Try.func61, Try.ntmps61
    go_wp2_with (go_at_call 106; refine (areSamples_any _ _ _ _ _ hx).mono ?_; rintro e w' ⟨rfl, rfl⟩)
    go_ret
    exact ⟨rfl, rfl⟩

set_option maxHeartbeats 400000 in
theorem floorDiv256_any (z : Int) (w : World) (h1 : -4611686018427387904 ≤ z) (h2 : z ≤ 4611686018427387904) :
    Calls Try.prog 107 #[iv z, iv 256] w fun e w' => e = .returned (iv (fl z)) ∧ w = w' := by
  obtain ⟨h3, h4⟩ := tdiv_bd z h1 h2
  by_cases h : z.tmod 256 < 0
  · go_enter Try.func107, Try.ntmps107
    go_wp2
    go_ret
    exact ⟨reti (fl_yes z h), rfl⟩
  · go_enter Try.func107, Try.ntmps107
    go_wp2
    go_ret
    exact ⟨reti (fl_no z (by omega)), rfl⟩
set_option maxHeartbeats 400000 in
theorem clone_any (A : Option Addr) (n c : Nat) (l : List Int) (w : World) (hx : Rd w 1 A n c (ints l)) (h0 : n ≤ 68719476736) :
    Calls Try.prog 63 #[.slice A n c] w (RetI l w) := by
  have Hn : Hid (l.length = n) := by have := hx.1; rw [ints_len] at this; show _ = _; omega
  · have hx1 : Rd (w.alloc (.cells #[] 2)) 1 A n c (ints l) := hx.below ((Below.refl _ _).alloc (Nat.le_refl _) _)
    go_enter Try.func63, Try.ntmps63
    go_wp2_with (at_builtin; refine wp_appendS el_i64 (own_empty 2 1 w) (by simp) hx1 (by omega) (ints_one l) rfl rfl rfl rfl ?_; intro v1 w1 h1 hg1 hb1)
    go_ret
    refine ⟨_, rfl, ?_, ((Below.refl _ _).alloc (Nat.le_refl _) _).trans hb1⟩
    unfold OwnI
    rw [Hn.out]
    simpa using h1

set_option maxHeartbeats 800000 in
theorem reversed_any (A : Option Addr) (n c : Nat) (l : List Int) (w : World) (hx : Rd w 1 A n c (ints l)) (h0 : n ≤ 1000000) :
    Calls Try.prog 59 #[.slice A n c] w (RetI l.reverse w) := by
  have Hn : Hid (l.length = n) := by have := hx.1; rw [ints_len] at this; show _ = _; omega
  go_enter Try.func59, Try.ntmps59
  go_wp2
  go_loopw [3, 4] (fun v i wr => ∃ k : Nat, i = iv (n - 1 - k) ∧ k ≤ n ∧ wr.ownsRow w.heap.size 2 1 v k (ints (revL l k)) ∧ Below w.heap.size w wr) (fun _ i _ => (intOf i + 1).toNat)
  case atStart => exact ⟨0, by go_num, Nat.zero_le _, own_empty _ _ _, (Below.refl _ _).alloc (Nat.le_refl _) _⟩
  case round =>
    obtain ⟨k, rfl, hk, how, hbw⟩ := hrel
    by_cases hlt : k < n
    · obtain ⟨a1, rfl, -, h1⟩ := (hx.below hbw).ints_at (k := n - 1 - k) (by omega)
      obtain ⟨j, hj⟩ : ∃ j : Nat, Hid ((n : Int) - 1 - k = j ∧ n - 1 - k = j) := ⟨n - 1 - k, by omega, rfl⟩
      have hj1 : j < n := by have := hj.out.2; omega
      rw [hj.out.2] at h1
      rw [hj.out.1]
      go_wp2_with (at_builtin; refine wp_push el_i64 (m := 1) how hbw.size (by omega) _ rfl rfl rfl rfl rfl rfl rfl ?_; intro v1 w1 how1 hg1 hb1)
      have hb2 := hbw.trans hb1
      go_roundw
      case rel => exact ⟨k + 1, by have := hj.out.1; go_num, by omega, by rw [revL_succ (by rw [Hn.out]; exact hlt), Hn.out, hj.out.2, ints_snoc]; exact how1, hb2⟩
      case measure => have := hj.out.1; simp [intOf] <;> omega
    · go_wp2
      go_ret
      obtain rfl : k = n := by omega
      refine ⟨_, rfl, ?_, hbw⟩
      unfold OwnI
      have e : revL l k = l.reverse := by unfold revL; exact List.take_of_length_le (by simp [Hn.out])
      rw [e] at how
      rw [List.length_reverse, Hn.out]
      exact how

set_option maxHeartbeats 800000 in
theorem ComplementWindow_impl (A : Option Addr) (n c : Nat) (l : List Int) (w : World) (hx : Rd w 1 A n c (ints l)) :
    Calls Try.prog 16 #[.slice A n c] w (RetI (if winB l then compL l else []) w) := by
  have Hn : Hid (l.length = n) := by have := hx.1; rw [ints_len] at this; show _ = _; omega
  cases hw : winB l
  · go_enter Try.func16, Try.ntmps16
    go_wp2_with (go_at_call 56; refine (isWindow_any _ _ _ _ _ hx).mono ?_; rintro e w' ⟨rfl, rfl⟩)
    go_ret
    exact ⟨_, rfl, World.ownsRow_nil _ _ _ _, Below.refl _ _⟩
  · have hl := (winB_len hw).2
    rw [Hn.out] at hl
    go_enter Try.func16, Try.ntmps16
    go_wp2_with (go_at_call 56; refine (isWindow_any _ _ _ _ _ hx).mono ?_; rintro e w' ⟨rfl, rfl⟩)
    go_loopw [3, 12] (fun v i wr => ∃ k : Nat, i = iv k ∧ k ≤ n ∧ wr.ownsRow w.heap.size 2 1 v k (ints (compL (l.take k))) ∧ Below w.heap.size w wr) (fun _ i _ => n - (intOf i).toNat)
    case atStart => exact ⟨0, rfl, Nat.zero_le _, own_empty _ _ _, (Below.refl _ _).alloc (Nat.le_refl _) _⟩
    case round =>
      obtain ⟨k, rfl, hk, how, hbw⟩ := hrel
      by_cases hlt : k < n
      · obtain ⟨a1, rfl, -, h1⟩ := (hx.below hbw).ints_at hlt
        obtain ⟨h2, h3⟩ := winB_get hw (k := k) (by rw [Hn.out]; exact hlt)
        go_wp2_with (at_builtin; refine wp_push el_i64 (m := 1) how hbw.size (by omega) _ rfl rfl rfl rfl rfl rfl rfl ?_; intro v1 w1 how1 hg1 hb1)
        have hb2 := hbw.trans hb1
        go_roundw
        case rel => exact ⟨k + 1, by go_num, by omega, by rw [compL_take_succ (by rw [Hn.out]; exact hlt), ints_snoc]; exact how1, hb2⟩
        case measure => simp [intOf]; omega
      · go_wp2
        go_ret
        obtain rfl : k = n := by omega
        refine ⟨_, rfl, ?_, hbw⟩
        rw [List.take_of_length_le (by rw [Hn.out]; omega)] at how
        unfold OwnI
        rw [show (compL l).length = k by rw [compL, List.length_map, Hn.out]]
        exact how

theorem cross_bd {x y v : Int} (h1 : -2147483648 ≤ x) (h2 : x ≤ 2147483647) (h3 : -2147483648 ≤ y) (h4 : y ≤ 2147483647) (h5 : 0 ≤ v) (h6 : v ≤ 256) :
    (-549755813888 ≤ x * (256 - v) ∧ x * (256 - v) ≤ 549755813888) ∧ (-549755813888 ≤ y * v ∧ y * v ≤ 549755813888) :=
  ⟨mulw_bd h1 h2 (by omega) (by omega), mulw_bd h3 h4 h5 h6⟩
set_option maxHeartbeats 400000 in
theorem between_any (x y v : Int) (w : World) (h1 : -2147483648 ≤ x) (h2 : x ≤ 2147483647) (h3 : -2147483648 ≤ y) (h4 : y ≤ 2147483647) (h5 : 0 ≤ v) (h6 : v ≤ 256) :
    Calls Try.prog 115 #[iv x, iv y, iv v] w fun e w' => e = .returned (iv (crossV x y v)) ∧ w = w' := by
  obtain ⟨⟨b1, b2⟩, b3, b4⟩ := cross_bd h1 h2 h3 h4 h5 h6
  go_enter Try.func115, Try.ntmps115
  go_wp2_with (go_at_call 107; refine (floorDiv256_any _ _ (by omega) (by omega)).mono ?_; rintro e w' ⟨rfl, rfl⟩)
  go_ret
  exact ⟨rfl, rfl⟩
set_option maxHeartbeats 800000 in
theorem crossfade_any (A B C : Option Addr) (n a b c c1 c2 : Nat) (x y m : List Int) (w : World) (hx : Rd w 1 A a c (ints x)) (hy : Rd w 1 B b c1 (ints y)) (hm : Rd w 1 C n c2 (ints m))
    (sx : sigB x = true) (sy : sigB y = true) (sm : winB m = true) (ha : n ≤ a) (hb : n ≤ b) :
    Calls Try.prog 68 #[.slice A a c, .slice B b c1, .slice C n c2] w (RetI (crossL x y m n) w) := by
  have Hx : Hid (x.length = a) := by have := hx.1; rw [ints_len] at this; show _ = _; omega
  have Hy : Hid (y.length = b) := by have := hy.1; rw [ints_len] at this; show _ = _; omega
  have Hm : Hid (m.length = n) := by have := hm.1; rw [ints_len] at this; show _ = _; omega
  have lm := (winB_len sm).2
  have lx := sigB_len sx
  have ly := sigB_len sy
  rw [Hm.out] at lm
  rw [Hx.out] at lx
  rw [Hy.out] at ly
  go_enter Try.func68, Try.ntmps68
  go_wp2
  go_loopw [7, 13] (fun v i wr => ∃ k : Nat, i = iv k ∧ k ≤ n ∧ wr.ownsRow w.heap.size 2 1 v k (ints (crossL x y m k)) ∧ Below w.heap.size w wr) (fun _ i _ => n - (intOf i).toNat)
  case atStart => exact ⟨0, rfl, Nat.zero_le _, own_empty _ _ _, (Below.refl _ _).alloc (Nat.le_refl _) _⟩
  case round =>
    obtain ⟨k, rfl, hk, how, hbw⟩ := hrel
    by_cases hlt : k < n
    · obtain ⟨a1, rfl, g1, q1'⟩ := hx.ints_at (k := k) (by omega)
      have q1 := (hbw.cell (p := a1.add k) (by rw [block_add]; exact g1)).trans q1'
      obtain ⟨a2, rfl, g2, q2'⟩ := hy.ints_at (k := k) (by omega)
      have q2 := (hbw.cell (p := a2.add k) (by rw [block_add]; exact g2)).trans q2'
      clear q1' q2'
      obtain ⟨a3, rfl, -, q3⟩ := (hm.below hbw).ints_at (k := k) (by omega)
      obtain ⟨p1, p2⟩ := sigB_get sx (k := k) (by rw [Hx.out]; omega)
      obtain ⟨p3, p4⟩ := sigB_get sy (k := k) (by rw [Hy.out]; omega)
      obtain ⟨p5, p6⟩ := winB_get sm (k := k) (by rw [Hm.out]; omega)
      go_wp2
      have i1 : (0 : Int) ≤ (k : Int) := by omega
      have i2 : (k : Int) < (a : Int) := by omega
      have i3 : (k : Int) < (b : Int) := by omega
      go_region_held3 (fun w' => w'.cell? (a1.add k) = some (iv (gi x k)) ∧ w'.cell? (a2.add k) = some (iv (gi y k))) (first | go_keep | exact ⟨(hb1.cell (p := a1.add k) (by rw [block_add]; exact g1)).trans q1, (hb1.cell (p := a2.add k) (by rw [block_add]; exact g2)).trans q2⟩)
        (first
          | (refine step_push el_i64 (m := 1) (World.ownsRow.drew how) (w0 := wr.drew) hbw.size (by omega) _ rfl rfl rfl rfl rfl rfl rfl ?_; intro v1 w1 how1 hg1 hb1)
          | (go_at_call 115; refine (between_any _ _ _ _ (by omega) (by omega) (by omega) (by omega) (by omega) (by omega)).mono ?_; rintro e w' ⟨rfl, rfl⟩))
      go_wp2
      have hb2 := hbw.trans ((Below.refl _ wr).drew.trans hb1)
      go_roundw
      case rel => exact ⟨k + 1, by go_num, by omega, by rw [crossL_succ, ints_snoc]; exact how1, hb2⟩
      case measure => simp [intOf]; omega
    · go_wp2
      go_ret
      obtain rfl : k = n := by omega
      exact ⟨_, rfl, by unfold OwnI; rw [crossL_len]; exact how, hbw⟩

def crossR (x y m : List Int) : List Int := if sigB x && sigB y && winB m && decide (x.length = y.length) && decide (x.length = m.length) then crossL x y m m.length else []
def crossC (x y m : List Int) : Int := if sigB x && sigB y && winB m then (if x.length = y.length ∧ x.length = m.length then 0 else 6) else 1

set_option maxHeartbeats 600000 in
theorem Crossfade_impl (A B C : Option Addr) (n a b c c1 c2 : Nat) (x y m : List Int) (w : World) (hx : Rd w 1 A a c (ints x)) (hy : Rd w 1 B b c1 (ints y)) (hm : Rd w 1 C n c2 (ints m)) :
    Calls Try.prog 24 #[.slice A a c, .slice B b c1, .slice C n c2] w (ResI (crossR x y m) (crossC x y m) w) := by
  have Hx : Hid (x.length = a) := by have := hx.1; rw [ints_len] at this; show _ = _; omega
  have Hy : Hid (y.length = b) := by have := hy.1; rw [ints_len] at this; show _ = _; omega
  have Hm : Hid (m.length = n) := by have := hm.1; rw [ints_len] at this; show _ = _; omega
  cases sx : sigB x
  · rw [show crossR x y m = [] by simp [crossR, sx], show crossC x y m = 1 by simp [crossC, sx]]
    go_enter Try.func24, Try.ntmps24
    go_wp2_with (first
      | (go_at_call 61; refine (isSignal_any _ _ _ _ _ (by assumption)).mono ?_; rintro e w' ⟨rfl, rfl⟩)
      | (go_at_call 56; refine (isWindow_any _ _ _ _ _ hm).mono ?_; rintro e w' ⟨rfl, rfl⟩))
    go_ret2
    exact ⟨_, rfl, World.ownsRow_nil _ _ _ _, Below.refl _ _⟩
  cases sy : sigB y
  · rw [show crossR x y m = [] by simp [crossR, sy], show crossC x y m = 1 by simp [crossC, sy]]
    go_enter Try.func24, Try.ntmps24
    go_wp2_with (first
      | (go_at_call 61; refine (isSignal_any _ _ _ _ _ (by assumption)).mono ?_; rintro e w' ⟨rfl, rfl⟩)
      | (go_at_call 56; refine (isWindow_any _ _ _ _ _ hm).mono ?_; rintro e w' ⟨rfl, rfl⟩))
    go_ret2
    exact ⟨_, rfl, World.ownsRow_nil _ _ _ _, Below.refl _ _⟩
  cases sm : winB m
  · rw [show crossR x y m = [] by simp [crossR, sm], show crossC x y m = 1 by simp [crossC, sm]]
    go_enter Try.func24, Try.ntmps24
    go_wp2_with (first
      | (go_at_call 61; refine (isSignal_any _ _ _ _ _ (by assumption)).mono ?_; rintro e w' ⟨rfl, rfl⟩)
      | (go_at_call 56; refine (isWindow_any _ _ _ _ _ hm).mono ?_; rintro e w' ⟨rfl, rfl⟩))
    go_ret2
    exact ⟨_, rfl, World.ownsRow_nil _ _ _ _, Below.refl _ _⟩
  by_cases hl : a = b ∧ a = n
  · rw [show crossR x y m = crossL x y m m.length by simp [crossR, sx, sy, sm, Hx.out, Hy.out, Hm.out, hl.1.symm, hl.2.symm], show crossC x y m = 0 by simp [crossC, sx, sy, sm, Hx.out, Hy.out, Hm.out, hl.1.symm, hl.2.symm]]
    obtain ⟨rfl, rfl⟩ := hl
    have lm := (winB_len sm).2
    rw [Hm.out] at lm
    have Hm2 := Hm.out
    rw [Hm2]
    clear Hm2
    go_enter Try.func24, Try.ntmps24
    go_wp2_with (first
      | (go_at_call 61; refine (isSignal_any _ _ _ _ _ (by assumption)).mono ?_; rintro e w' ⟨rfl, rfl⟩)
      | (go_at_call 56; refine (isWindow_any _ _ _ _ _ hm).mono ?_; rintro e w' ⟨rfl, rfl⟩)
      | (go_at_call 68; refine (crossfade_any _ _ _ _ _ _ _ _ _ _ _ _ _ hx hy hm sx sy sm (Nat.le_refl _) (Nat.le_refl _)).mono ?_; rintro e w' ⟨v, rfl, ho, hb⟩))
    go_ret2
    exact ⟨_, rfl, ho, hb⟩
  · rw [show crossR x y m = [] by simp only [crossR, sx, sy, sm, Hx.out, Hy.out, Hm.out]; simp; omega, show crossC x y m = 6 by simp only [crossC, sx, sy, sm, Hx.out, Hy.out, Hm.out]; simp; omega]
    by_cases h1 : a = b
    · subst h1
      have h2 : ¬ a = n := by omega
      go_enter Try.func24, Try.ntmps24
      go_wp2_with (first
      | (go_at_call 61; refine (isSignal_any _ _ _ _ _ (by assumption)).mono ?_; rintro e w' ⟨rfl, rfl⟩)
      | (go_at_call 56; refine (isWindow_any _ _ _ _ _ hm).mono ?_; rintro e w' ⟨rfl, rfl⟩))
      go_ret2
      exact ⟨_, rfl, World.ownsRow_nil _ _ _ _, Below.refl _ _⟩
    · go_enter Try.func24, Try.ntmps24
      go_wp2_with (first
      | (go_at_call 61; refine (isSignal_any _ _ _ _ _ (by assumption)).mono ?_; rintro e w' ⟨rfl, rfl⟩)
      | (go_at_call 56; refine (isWindow_any _ _ _ _ _ hm).mono ?_; rintro e w' ⟨rfl, rfl⟩))
      go_ret2
      exact ⟨_, rfl, World.ownsRow_nil _ _ _ _, Below.refl _ _⟩

set_option maxHeartbeats 400000 in
theorem ReverseWindow_impl (A : Option Addr) (n c : Nat) (l : List Int) (w : World) (hx : Rd w 1 A n c (ints l)) :
    Calls Try.prog 15 #[.slice A n c] w (RetI (if winB l then l.reverse else []) w) := by
  have Hn : Hid (l.length = n) := by have := hx.1; rw [ints_len] at this; show _ = _; omega
  cases hw : winB l
  · go_enter Try.func15, Try.ntmps15
    go_wp2_with (go_at_call 56; refine (isWindow_any _ _ _ _ _ hx).mono ?_; rintro e w' ⟨rfl, rfl⟩)
    go_ret
    exact ⟨_, rfl, World.ownsRow_nil _ _ _ _, Below.refl _ _⟩
  · have hl := (winB_len hw).2
    rw [Hn.out] at hl
    go_enter Try.func15, Try.ntmps15
    go_wp2_with (first
      | (go_at_call 56; refine (isWindow_any _ _ _ _ _ hx).mono ?_; rintro e w' ⟨rfl, rfl⟩)
      | (go_at_call 59; refine (reversed_any _ _ _ _ _ hx (by omega)).mono ?_; rintro e w' ⟨v, rfl, ho, hb⟩))
    go_ret
    exact ⟨_, rfl, ho, hb⟩

end Go.Proofs.Ythopcmglcnlcfaa.Old
