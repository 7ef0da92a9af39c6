/- Walks: two signals spliced, in both packages. -/
import Derived.Test.YtoanpdoiigjehaaFade
import Derived.Deep.RegionHeld3
namespace Go.Proofs.Ytoanpdoiigjehaa
open Go.RowKit
set_option linter.unusedVariables false
set_option linter.unusedSimpArgs false

theorem Rd.take {w : World} {s n c k : Nat} {A : Option Addr} {xs : List Value} (h : Rd w s A n c xs) (hk : k ≤ n) : Rd w s A k c (xs.take (k * s)) := by
  obtain ⟨h1, h2, h3, h4⟩ := h
  refine ⟨?_, by omega, h3, fun hn => ?_⟩
  · rw [List.length_take, h1]
    exact Nat.min_eq_left (Nat.mul_le_mul_right s hk)
  · obtain ⟨ad, e, hl, hc⟩ := h4 (by omega)
    refine ⟨ad, e, hl, fun j u hu => hc j u ?_⟩
    rw [List.getElem?_take] at hu
    split at hu
    · exact hu
    · cases hu
theorem Rd.drop {w : World} {s n c k : Nat} {A : Option Addr} {xs : List Value} (h : Rd w s A n c xs) (hk : k ≤ n) : Rd w s (if c = k then A else A.map (·.add (k * s))) (n - k) (c - k) (xs.drop (k * s)) := by
  obtain ⟨h1, h2, h3, h4⟩ := h
  refine ⟨by rw [List.length_drop, h1, Nat.sub_mul], by omega, by omega, fun hn => ?_⟩
  obtain ⟨ad, e, hl, hc⟩ := h4 (by omega)
  subst e
  rw [if_neg (by omega)]
  refine ⟨ad.add (k * s), rfl, by rw [block_add]; exact hl, fun j u hu => ?_⟩
  rw [add_add']
  exact hc _ u (by rw [← hu, List.getElem?_drop])
theorem allB_mem {p : Int → Bool} {l m : List Int} (h : allB p l = true) (hm : ∀ z ∈ m, z ∈ l) : allB p m = true := by
  unfold allB at *
  rw [List.all_eq_true] at *
  exact fun z hz => h z (hm z hz)
theorem sig_drop {l : List Int} (h : sigB l = true) (k : Nat) : sigB (l.drop k) = true := by
  unfold sigB at *
  simp only [Bool.and_eq_true, decide_eq_true_eq] at *
  exact ⟨by rw [List.length_drop]; omega, allB_mem h.2 fun z hz => List.mem_of_mem_drop hz⟩
theorem sig_take {l : List Int} (h : sigB l = true) (k : Nat) : sigB (l.take k) = true := by
  unfold sigB at *
  simp only [Bool.and_eq_true, decide_eq_true_eq] at *
  exact ⟨by rw [List.length_take]; omega, allB_mem h.2 fun z hz => List.mem_of_mem_take hz⟩
theorem ints_take (l : List Int) (k : Nat) : (ints l).take k = ints (l.take k) := by simp [ints, List.map_take]
theorem ints_drop (l : List Int) (k : Nat) : (ints l).drop k = ints (l.drop k) := by simp [ints, List.map_drop]

set_option maxHeartbeats 800000 in
theorem Splice_spec0 (A B C : Option Addr) (a b n c c1 c2 : Nat) (x y m : List Int) (w : World) (hx : Rd w 1 A a c (ints x)) (hy : Rd w 1 B b c1 (ints y)) (hm : Rd w 1 C n c2 (ints m))
   (s1 : sigB x = true) (s2 : sigB y = true) (s3 : winB m = true) (l1 : n ≤ a) (l2 : n ≤ b) (l3 : a + b ≤ 4000 + n) :
    Calls Try.prog 22 #[.slice A a c, .slice B b c1, .slice C n c2] w (ResI (x.take (a - n) ++ crossL (x.drop (a - n)) y m n ++ y.drop n) 0 w) := by
  have C1 := l03Ok_any A a c x w hx
  have C2 := l03Ok_any B b c1 y w hy
  have C3 := l24Ok_any C n c2 m w hm
  rw [s1] at C1
  rw [s2] at C2
  rw [s3] at C3
  have hc := hx.2.1
  have hcm := hx.2.2.1
  unfold maxLen at hcm
  go_enter Try.func22, Try.ntmps22
  go_wp2_with fail
  refine C1.mono ?_; rintro e w' ⟨rfl, rfl⟩
  go_wp2_with fail
  refine C2.mono ?_; rintro e w' ⟨rfl, rfl⟩
  go_wp2_with fail
  refine C3.mono ?_; rintro e w' ⟨rfl, rfl⟩
  go_wp2_with fail
  have hx1 : Rd w 1 A (a - n) c (ints (x.take (a - n))) := by have := hx.take (k := a - n) (by omega); rwa [Nat.mul_one, ints_take] at this
  refine (l00Own_any A (a - n) c _ w hx1 (by omega)).mono ?_; rintro e w1 ⟨v, rfl, ho, hb⟩
  have Hx : Hid (x.length = a) := by have := hx.1; rw [ints_len] at this; show _ = _; omega
  have Hy : Hid (y.length = b) := by have := hy.1; rw [ints_len] at this; show _ = _; omega
  have Hm : Hid (m.length = n) := by have := hm.1; rw [ints_len] at this; show _ = _; omega
  obtain ⟨q, hq, hq2⟩ : ∃ q : Nat, q + n = a ∧ a - n = q := ⟨a - n, by omega, rfl⟩
  have hO : w1.ownsRow w.heap.size 2 1 v q (ints (x.take q)) := by have := ho; unfold OwnI at this; rw [List.length_take, Hx.out, Nat.min_eq_left (by omega), hq2] at this; exact this
  clear ho
  have lm := (winB_len s3).2
  rw [Hm.out] at lm
  rw [hq2]
  have Hq := Lib.hid hq2
  have hq3 : q + n ≤ a := by omega
  have hq4 : a ≤ q + n := by omega
  have l4 : a ≤ 4000 := by have := sigB_len s1; rw [Hx.out] at this; exact this
  clear hq hq2 C1 C2 C3
  go_wp2
  go_loopw [9, 10] (fun v i wr => ∃ k : Nat, i = iv k ∧ k ≤ n ∧ wr.ownsRow w.heap.size 2 1 v (q + k) (ints (x.take q ++ crossL (x.drop q) y m k)) ∧ Below w.heap.size w wr) (fun _ i _ => n - (intOf i).toNat)
  case atStart => exact ⟨0, rfl, Nat.zero_le _, by simpa [crossL] using hO, hb⟩
  case round =>
    obtain ⟨k, rfl, hk, how, hbw⟩ := hrel
    clear hO hb
    by_cases hlt : k < n
    · have gx : gi (x.drop q) k = gi x (q + k) := by simp [gi]
      obtain ⟨a1, rfl, g1, q1'⟩ := hx.ints_at (k := q + k) (by omega)
      have q1 := (hbw.cell (p := a1.add (q + k)) (by rw [block_add]; exact g1)).trans q1'
      obtain ⟨a2, rfl, g2, q2'⟩ := hy.ints_at (k := k) (by omega)
      have q2 := (hbw.cell (p := a2.add k) (by rw [block_add]; exact g2)).trans q2'
      obtain ⟨a3, rfl, g3, q3'⟩ := hm.ints_at (k := k) (by omega)
      have q3 := (hbw.cell (p := a3.add k) (by rw [block_add]; exact g3)).trans q3'
      clear q1' q2' q3'
      obtain ⟨p1, p2⟩ := sigB_get s1 (k := q + k) (by rw [Hx.out]; omega)
      obtain ⟨p3, p4⟩ := sigB_get s2 (k := k) (by rw [Hy.out]; omega)
      obtain ⟨p5, p6⟩ := winB_get s3 (k := k) (by rw [Hm.out]; omega)
      have Gx := Lib.hid gx
      clear gx
      go_wp2
      have i1 : (0 : Int) ≤ (k : Int) := by omega
      have i2 : (k : Int) < (b : Int) := by omega
      have i3 : (k : Int) < (n : Int) := by omega
      have j1 : IntKind.i64.wrap ((a : Int) - (n : Int)) = (a : Int) - (n : Int) := IntWalk.i64_in _ (by omega)
      have j2 : IntKind.i64.wrap ((a : Int) - (n : Int) + (k : Int)) = (a : Int) - (n : Int) + (k : Int) := IntWalk.i64_in _ (by omega)
      have j3 : (0 : Int) ≤ (a : Int) - (n : Int) + (k : Int) := by omega
      have j4 : (a : Int) - (n : Int) + (k : Int) < (a : Int) := by omega
      have j5 : ((a : Int) - (n : Int) + (k : Int)).toNat = q + k := by omega
      go_region_held3 (fun w' => w'.cell? (a1.add (q + k)) = some (iv (gi x (q + k))) ∧ w'.cell? (a2.add k) = some (iv (gi y k)) ∧ w'.cell? (a3.add k) = some (iv (gi m k)))
        (first | go_keep | exact ⟨(hb1.cell (p := a1.add (q + k)) (by rw [block_add]; exact g1)).trans q1, (hb1.cell (p := a2.add k) (by rw [block_add]; exact g2)).trans q2, (hb1.cell (p := a3.add k) (by rw [block_add]; exact g3)).trans q3⟩)
        (first
          | (refine step_push el_i64 (m := 1) (World.ownsRow.drew how) (w0 := wr.drew) hbw.size (by omega) _ rfl rfl rfl rfl rfl rfl rfl ?_; intro v1 w1 how1 hg1 hb1)
          | (go_at_call 45; refine (l24Cross_any _ _ _ _ (by omega) (by omega) (by omega) (by omega) (by omega) (by omega)).mono ?_; rintro e w' ⟨rfl, rfl⟩))
      clear j1 j2 j3 j4 j5
      go_wp2
      have hb2 := hbw.trans ((Below.refl _ wr).drew.trans hb1)
      go_roundw
      case rel => exact ⟨k + 1, by go_num, by omega, by rw [crossL_succ, ← List.append_assoc, ints_snoc, Gx.out]; exact how1, hb2⟩
      case measure => simp [intOf]; omega
    · obtain rfl : k = n := by omega
      have hy1 : Rd wr 1 (if c1 = k then B else B.map (·.add k)) (b - k) (c1 - k) (ints (y.drop k)) := by have := (hy.below hbw).drop (k := k) l2; rw [ints_drop] at this; simpa only [Nat.mul_one] using this
      go_wp2_with (at_builtin; go_loud (refine wp_appendS el_i64 how hbw.size hy1 (by omega) (ints_one _) rfl rfl rfl rfl ?_); intro v2 w2 how2 hg2 hb2)
      all_goals
        go_ret2
        refine ⟨_, rfl, ?_, hbw.trans hb2⟩
        rw [← ints_app, List.append_assoc] at how2
        have e := Hq.out
        have el : (x.take (a - k) ++ (crossL (x.drop (a - k)) y m k ++ y.drop k)).length = q + k + (b - k) := by
          rw [List.length_append, List.length_append, List.length_take, crossL_len, List.length_drop, Hx.out, Hy.out]; omega
        unfold OwnI
        rw [el, e]
        exact how2
/-- the splice and its code -/
def splC (x y m : List Int) : Int := if sigB x && sigB y && winB m then (if x.length < m.length ∨ y.length < m.length then 6 else if 4000 + m.length < x.length + y.length then 5 else 0) else 1
def splR (x y m : List Int) : List Int := if splC x y m = 0 then x.take (x.length - m.length) ++ crossL (x.drop (x.length - m.length)) y m m.length ++ y.drop m.length else []
theorem spl_cases (x y m : List Int) : (sigB x = false ∧ splC x y m = 1 ∧ splR x y m = []) ∨ (sigB x = true ∧ sigB y = false ∧ splC x y m = 1 ∧ splR x y m = []) ∨
    (sigB x = true ∧ sigB y = true ∧ winB m = false ∧ splC x y m = 1 ∧ splR x y m = []) ∨
    (sigB x = true ∧ sigB y = true ∧ winB m = true ∧ x.length < m.length ∧ splC x y m = 6 ∧ splR x y m = []) ∨
    (sigB x = true ∧ sigB y = true ∧ winB m = true ∧ m.length ≤ x.length ∧ y.length < m.length ∧ splC x y m = 6 ∧ splR x y m = []) ∨
    (sigB x = true ∧ sigB y = true ∧ winB m = true ∧ m.length ≤ x.length ∧ m.length ≤ y.length ∧ 4000 + m.length < x.length + y.length ∧ splC x y m = 5 ∧ splR x y m = []) ∨
    (sigB x = true ∧ sigB y = true ∧ winB m = true ∧ m.length ≤ x.length ∧ m.length ≤ y.length ∧ x.length + y.length ≤ 4000 + m.length ∧ splC x y m = 0 ∧
      splR x y m = x.take (x.length - m.length) ++ crossL (x.drop (x.length - m.length)) y m m.length ++ y.drop m.length) := by
  unfold splR splC
  cases sigB x
  · exact .inl ⟨rfl, rfl, rfl⟩
  cases sigB y
  · exact .inr (.inl ⟨rfl, rfl, rfl, rfl⟩)
  cases winB m
  · exact .inr (.inr (.inl ⟨rfl, rfl, rfl, rfl, rfl⟩))
  by_cases h1 : x.length < m.length
  · exact .inr (.inr (.inr (.inl ⟨rfl, rfl, rfl, h1, by simp [h1], by simp [h1]⟩)))
  by_cases h2 : y.length < m.length
  · exact .inr (.inr (.inr (.inr (.inl ⟨rfl, rfl, rfl, by omega, h2, by simp [h2], by simp [h2]⟩))))
  by_cases h3 : 4000 + m.length < x.length + y.length
  · exact .inr (.inr (.inr (.inr (.inr (.inl ⟨rfl, rfl, rfl, by omega, by omega, h3, by simp [h1, h2, h3], by simp [h1, h2, h3]⟩)))))
  · exact .inr (.inr (.inr (.inr (.inr (.inr ⟨rfl, rfl, rfl, by omega, by omega, by omega, by simp [h1, h2, h3], by simp [h1, h2, h3]⟩)))))

set_option maxHeartbeats 800000 in
theorem SpliceSignals_spec (A B C : Option Addr) (a b n c c1 c2 : Nat) (x y m : List Int) (w : World) (hx : Rd w 1 A a c (ints x)) (hy : Rd w 1 B b c1 (ints y)) (hm : Rd w 1 C n c2 (ints m)) :
    Calls Try.prog 22 #[.slice A a c, .slice B b c1, .slice C n c2] w (ResI (splR x y m) (splC x y m) w) := by
  have Hx : x.length = a := by have := hx.1; rw [ints_len] at this; omega
  have Hy : y.length = b := by have := hy.1; rw [ints_len] at this; omega
  have Hm : m.length = n := by have := hm.1; rw [ints_len] at this; omega
  have C1 := l03Ok_any A a c x w hx
  have C2 := l03Ok_any B b c1 y w hy
  have C3 := l24Ok_any C n c2 m w hm
  have hcase := spl_cases x y m
  rw [Hx, Hy, Hm] at hcase
  rcases hcase with ⟨s1, hC, hR⟩ | ⟨s1, s2, hC, hR⟩ | ⟨s1, s2, s3, hC, hR⟩ | ⟨s1, s2, s3, hl, hC, hR⟩ | ⟨s1, s2, s3, hl, hl2, hC, hR⟩ | ⟨s1, s2, s3, hl, hl2, hl3, hC, hR⟩ | ⟨s1, s2, s3, hl, hl2, hl3, hC, hR⟩
  · rw [hC, hR]
    rw [s1] at C1
    clear hC hR Hx Hy Hm
    go_enter Try.func22, Try.ntmps22
    go_wp2_with fail
    refine C1.mono ?_; rintro e w' ⟨rfl, rfl⟩
    go_wp2
    all_goals
      go_ret2
      exact ⟨_, rfl, World.ownsRow_nil _ _ _ _, Below.refl _ _⟩
  · rw [hC, hR]
    rw [s1] at C1
    rw [s2] at C2
    clear hC hR Hx Hy Hm
    go_enter Try.func22, Try.ntmps22
    go_wp2_with fail
    refine C1.mono ?_; rintro e w' ⟨rfl, rfl⟩
    go_wp2_with fail
    refine C2.mono ?_; rintro e w' ⟨rfl, rfl⟩
    go_wp2
    all_goals
      go_ret2
      exact ⟨_, rfl, World.ownsRow_nil _ _ _ _, Below.refl _ _⟩
  · rw [hC, hR]
    rw [s1] at C1
    rw [s2] at C2
    rw [s3] at C3
    clear hC hR Hx Hy Hm
    go_enter Try.func22, Try.ntmps22
    go_wp2_with fail
    refine C1.mono ?_; rintro e w' ⟨rfl, rfl⟩
    go_wp2_with fail
    refine C2.mono ?_; rintro e w' ⟨rfl, rfl⟩
    go_wp2_with fail
    refine C3.mono ?_; rintro e w' ⟨rfl, rfl⟩
    go_wp2
    all_goals
      go_ret2
      exact ⟨_, rfl, World.ownsRow_nil _ _ _ _, Below.refl _ _⟩
  · rw [hC, hR]
    rw [s1] at C1
    rw [s2] at C2
    rw [s3] at C3
    have l1 := sigB_len s1
    have l2 := sigB_len s2
    have l3 := (winB_len s3).2
    rw [Hx] at l1
    rw [Hy] at l2
    rw [Hm] at l3
    clear hC hR s1 s2 s3 Hx Hy Hm
    go_enter Try.func22, Try.ntmps22
    go_wp2_with fail
    refine C1.mono ?_; rintro e w' ⟨rfl, rfl⟩
    go_wp2_with fail
    refine C2.mono ?_; rintro e w' ⟨rfl, rfl⟩
    go_wp2_with fail
    refine C3.mono ?_; rintro e w' ⟨rfl, rfl⟩
    go_wp2
    all_goals
      go_ret2
      exact ⟨_, rfl, World.ownsRow_nil _ _ _ _, Below.refl _ _⟩
  · rw [hC, hR]
    rw [s1] at C1
    rw [s2] at C2
    rw [s3] at C3
    have l1 := sigB_len s1
    have l2 := sigB_len s2
    have l3 := (winB_len s3).2
    rw [Hx] at l1
    rw [Hy] at l2
    rw [Hm] at l3
    clear hC hR s1 s2 s3 Hx Hy Hm
    go_enter Try.func22, Try.ntmps22
    go_wp2_with fail
    refine C1.mono ?_; rintro e w' ⟨rfl, rfl⟩
    go_wp2_with fail
    refine C2.mono ?_; rintro e w' ⟨rfl, rfl⟩
    go_wp2_with fail
    refine C3.mono ?_; rintro e w' ⟨rfl, rfl⟩
    go_wp2
    all_goals
      go_ret2
      exact ⟨_, rfl, World.ownsRow_nil _ _ _ _, Below.refl _ _⟩
  · rw [hC, hR]
    rw [s1] at C1
    rw [s2] at C2
    rw [s3] at C3
    have l1 := sigB_len s1
    have l2 := sigB_len s2
    have l3 := (winB_len s3).2
    rw [Hx] at l1
    rw [Hy] at l2
    rw [Hm] at l3
    clear hC hR s1 s2 s3 Hx Hy Hm
    go_enter Try.func22, Try.ntmps22
    go_wp2_with fail
    refine C1.mono ?_; rintro e w' ⟨rfl, rfl⟩
    go_wp2_with fail
    refine C2.mono ?_; rintro e w' ⟨rfl, rfl⟩
    go_wp2_with fail
    refine C3.mono ?_; rintro e w' ⟨rfl, rfl⟩
    go_wp2
    all_goals
      go_ret2
      exact ⟨_, rfl, World.ownsRow_nil _ _ _ _, Below.refl _ _⟩
  · rw [hC, hR]
    exact Splice_spec0 A B C a b n c c1 c2 x y m w hx hy hm s1 s2 s3 hl hl2 hl3

end Go.Proofs.Ytoanpdoiigjehaa
