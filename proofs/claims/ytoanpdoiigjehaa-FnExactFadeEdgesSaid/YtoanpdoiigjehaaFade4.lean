/- Walks: fades at both ends, in both packages. -/
import Derived.Test.YtoanpdoiigjehaaFade3
namespace Go.Proofs.Ytoanpdoiigjehaa
open Go.RowKit
set_option linter.unusedVariables false
set_option linter.unusedSimpArgs false

theorem winB_reverse (l : List Int) : winB l.reverse = winB l := by simp [winB, allB]
/-- the signal faded at both ends, and the code -/
def edgC (x i o : List Int) : Int := if sigB x && winB i && winB o then (if x.length < i.length + o.length then 6 else 0) else 1
def edgR (x i o : List Int) : List Int := if edgC x i o = 0 then fadeK (fadeK x i 0 i.length) o.reverse (x.length - o.length) o.length else []
theorem edg_cases (x i o : List Int) : (sigB x = false ∧ edgC x i o = 1 ∧ edgR x i o = []) ∨ (sigB x = true ∧ winB i = false ∧ edgC x i o = 1 ∧ edgR x i o = []) ∨
    (sigB x = true ∧ winB i = true ∧ winB o = false ∧ edgC x i o = 1 ∧ edgR x i o = []) ∨
    (sigB x = true ∧ winB i = true ∧ winB o = true ∧ x.length < i.length + o.length ∧ edgC x i o = 6 ∧ edgR x i o = []) ∨
    (sigB x = true ∧ winB i = true ∧ winB o = true ∧ i.length + o.length ≤ x.length ∧ edgC x i o = 0 ∧ edgR x i o = fadeK (fadeK x i 0 i.length) o.reverse (x.length - o.length) o.length) := by
  unfold edgR edgC
  cases sigB x
  · exact .inl ⟨rfl, rfl, rfl⟩
  cases winB i
  · exact .inr (.inl ⟨rfl, rfl, rfl, rfl⟩)
  cases winB o
  · exact .inr (.inr (.inl ⟨rfl, rfl, rfl, rfl, rfl⟩))
  by_cases h : x.length < i.length + o.length
  · exact .inr (.inr (.inr (.inl ⟨rfl, rfl, rfl, h, by simp [h], by simp [h]⟩)))
  · exact .inr (.inr (.inr (.inr ⟨rfl, rfl, rfl, by omega, by simp [h], by simp [h]⟩)))

set_option maxHeartbeats 800000 in
theorem FadeEdges_impl (A B C : Option Addr) (a b n c c1 c2 : Nat) (x i o : List Int) (w : World) (hx : Rd w 1 A a c (ints x)) (hi : Rd w 1 B b c1 (ints i)) (ho : Rd w 1 C n c2 (ints o)) :
    Calls Try.prog 27 #[.slice A a c, .slice B b c1, .slice C n c2] w (ResI (edgR x i o) (edgC x i o) w) := by
  have Hx : Hid (x.length = a) := by have := hx.1; rw [ints_len] at this; show _ = _; omega
  have Hi : Hid (i.length = b) := by have := hi.1; rw [ints_len] at this; show _ = _; omega
  have Ho : Hid (o.length = n) := by have := ho.1; rw [ints_len] at this; show _ = _; omega
  have C1 := isSignal_any A a c x w hx
  have C2 := isWindow_any B b c1 i w hi
  have C3 := isWindow_any C n c2 o w ho
  rcases edg_cases x i o with ⟨s1, hC, hR⟩ | ⟨s1, s2, hC, hR⟩ | ⟨s1, s2, s3, hC, hR⟩ | ⟨s1, s2, s3, hl, hC, hR⟩ | ⟨s1, s2, s3, hl, hC, hR⟩
  · rw [hC, hR]
    rw [s1] at C1
    go_enter Try.func27, Try.ntmps27
    go_wp2_with fail
    refine C1.mono ?_; rintro e w' ⟨rfl, rfl⟩
    go_wp2
    go_ret2
    exact ⟨_, rfl, World.ownsRow_nil _ _ _ _, Below.refl _ _⟩
  · rw [hC, hR]
    rw [s1] at C1
    rw [s2] at C2
    go_enter Try.func27, Try.ntmps27
    go_wp2_with fail
    refine C1.mono ?_; rintro e w' ⟨rfl, rfl⟩
    go_wp2_with fail
    refine C2.mono ?_; rintro e w' ⟨rfl, rfl⟩
    go_wp2
    go_ret2
    exact ⟨_, rfl, World.ownsRow_nil _ _ _ _, Below.refl _ _⟩
  · rw [hC, hR]
    rw [s1] at C1
    rw [s2] at C2
    rw [s3] at C3
    go_enter Try.func27, Try.ntmps27
    go_wp2_with fail
    refine C1.mono ?_; rintro e w' ⟨rfl, rfl⟩
    go_wp2_with fail
    refine C2.mono ?_; rintro e w' ⟨rfl, rfl⟩
    go_wp2_with fail
    refine C3.mono ?_; rintro e w' ⟨rfl, rfl⟩
    go_wp2
    go_ret2
    exact ⟨_, rfl, World.ownsRow_nil _ _ _ _, Below.refl _ _⟩
  · rw [hC, hR]
    rw [s1] at C1
    rw [s2] at C2
    rw [s3] at C3
    have l1 := sigB_len s1
    have l2 := (winB_len s2).2
    have l3 := (winB_len s3).2
    rw [Hx.out] at l1 hl
    rw [Hi.out] at l2 hl
    rw [Ho.out] at l3 hl
    clear hC hR s1 s2 s3
    go_enter Try.func27, Try.ntmps27
    go_wp2_with fail
    refine C1.mono ?_; rintro e w' ⟨rfl, rfl⟩
    go_wp2_with fail
    refine C2.mono ?_; rintro e w' ⟨rfl, rfl⟩
    go_wp2_with fail
    refine C3.mono ?_; rintro e w' ⟨rfl, rfl⟩
    go_wp2
    go_ret2
    exact ⟨_, rfl, World.ownsRow_nil _ _ _ _, Below.refl _ _⟩
  · rw [hC, hR]
    clear hC hR
    rw [s1] at C1
    rw [s2] at C2
    rw [s3] at C3
    have lx := sigB_len s1
    have l1 := sigB_len s1
    have l2 := winB_len s2
    have l3 := winB_len s3
    have sx := sigB_smpl s1
    have so : winB o.reverse = true := by rw [winB_reverse]; exact s3
    rw [Hx.out] at l1 hl
    rw [Hi.out] at l2 hl
    rw [Ho.out] at l3 hl
    rw [Hx.out, Hi.out, Ho.out]
    obtain ⟨l21, l22⟩ := l2
    obtain ⟨l31, l32⟩ := l3
    have sx2 := fadeK_smpl sx s2 0 b (by rw [Hi.out]; omega)
    obtain ⟨q, hq, hq2⟩ : ∃ q : Nat, q + n = a ∧ a - n = q := ⟨a - n, by omega, rfl⟩
    rw [hq2]
    have hqi : Hid ((a : Int) - (n : Int) = (q : Int)) := by show _ = _; omega
    have hq1 : q ≤ 4000 := by omega
    clear hq hq2
    go_enter Try.func27, Try.ntmps27
    go_wp2_with fail
    refine C1.mono ?_; rintro e w' ⟨rfl, rfl⟩
    go_wp2_with fail
    refine C2.mono ?_; rintro e w' ⟨rfl, rfl⟩
    go_wp2_with fail
    refine C3.mono ?_; rintro e w' ⟨rfl, rfl⟩
    clear C1 C2 C3
    go_wp2_with fail
    refine (clone_any _ _ _ _ _ hx (by omega)).mono ?_; rintro e w1 ⟨v, rfl, h1, hb1⟩
    go_wp2_with fail
    refine (fade_any v x B b c1 i 0 w.heap.size w1 h1 (hi.below hb1) (own_ne h1 hi (by omega)) sx s2 (by omega) lx).mono ?_; rintro e w2 ⟨rfl, h2, hg2⟩
    have hb2 := hb1.grown hg2 hb1.size fun k hk => (h1.lt k hk).1
    go_wp2_with fail
    refine (reversed_any C n c2 o w2 (ho.below hb2) (by omega)).mono ?_; rintro e w3 ⟨u, rfl, h3, hb3⟩
    unfold OwnI at h3
    obtain ⟨D, d, rfl, -, -⟩ := own_open h3
    have hr := own_rd h3
    rw [List.length_reverse, Ho.out] at hr h3 ⊢
    have h4 := ownBlock_lt_of h2 hb3
    go_wp2_with (go_at_call 54; refine (size_any _ _ _ _).mono ?_; rintro e w' ⟨rfl, rfl⟩)
    rw [hqi.out]
    refine (fade_any v (fadeK x i 0 b) D n d o.reverse q w.heap.size w3 (by rw [fadeK_len]; exact h4) hr ?_ sx2 so hq1 (by rw [fadeK_len]; exact lx)).mono ?_
    · intro ad e1 e2
      subst e1
      have p1 := (h3.lt _ rfl).1
      have p2 := (h2.lt _ e2.symm).2
      omega
    rintro e w4 ⟨rfl, h5, hg5⟩
    go_wp2
    go_ret2
    exact ⟨_, rfl, by unfold OwnI; rw [fadeK_len]; exact h5, (hb2.trans (hb3.mono hb2.size)).grown hg5 (hb2.trans (hb3.mono hb2.size)).size fun k hk => (h1.lt k hk).1⟩

set_option maxHeartbeats 800000 in
theorem FadeEdges_spec (A B C : Option Addr) (a b n c c1 c2 : Nat) (x i o : List Int) (w : World) (hx : Rd w 1 A a c (ints x)) (hi : Rd w 1 B b c1 (ints i)) (ho : Rd w 1 C n c2 (ints o)) :
    Calls Try.prog 26 #[.slice A a c, .slice B b c1, .slice C n c2] w (ResI (edgR x i o) (edgC x i o) w) := by
  have Hx : Hid (x.length = a) := by have := hx.1; rw [ints_len] at this; show _ = _; omega
  have Hi : Hid (i.length = b) := by have := hi.1; rw [ints_len] at this; show _ = _; omega
  have Ho : Hid (o.length = n) := by have := ho.1; rw [ints_len] at this; show _ = _; omega
  have C1 := l03Ok_any A a c x w hx
  have C2 := l24Ok_any B b c1 i w hi
  have C3 := l24Ok_any C n c2 o w ho
  rcases edg_cases x i o with ⟨s1, hC, hR⟩ | ⟨s1, s2, hC, hR⟩ | ⟨s1, s2, s3, hC, hR⟩ | ⟨s1, s2, s3, hl, hC, hR⟩ | ⟨s1, s2, s3, hl, hC, hR⟩
  · rw [hC, hR]
    rw [s1] at C1
    go_enter Try.func26, Try.ntmps26
    go_wp2_with fail
    refine C1.mono ?_; rintro e w' ⟨rfl, rfl⟩
    go_wp2
    go_ret2
    exact ⟨_, rfl, World.ownsRow_nil _ _ _ _, Below.refl _ _⟩
  · rw [hC, hR]
    rw [s1] at C1
    rw [s2] at C2
    go_enter Try.func26, Try.ntmps26
    go_wp2_with fail
    refine C1.mono ?_; rintro e w' ⟨rfl, rfl⟩
    go_wp2_with fail
    refine C2.mono ?_; rintro e w' ⟨rfl, rfl⟩
    go_wp2
    go_ret2
    exact ⟨_, rfl, World.ownsRow_nil _ _ _ _, Below.refl _ _⟩
  · rw [hC, hR]
    rw [s1] at C1
    rw [s2] at C2
    rw [s3] at C3
    go_enter Try.func26, Try.ntmps26
    go_wp2_with fail
    refine C1.mono ?_; rintro e w' ⟨rfl, rfl⟩
    go_wp2_with fail
    refine C2.mono ?_; rintro e w' ⟨rfl, rfl⟩
    go_wp2_with fail
    refine C3.mono ?_; rintro e w' ⟨rfl, rfl⟩
    go_wp2
    go_ret2
    exact ⟨_, rfl, World.ownsRow_nil _ _ _ _, Below.refl _ _⟩
  · rw [hC, hR]
    rw [s1] at C1
    rw [s2] at C2
    rw [s3] at C3
    have l1 := sigB_len s1
    have l2 := (winB_len s2).2
    have l3 := (winB_len s3).2
    rw [Hx.out] at l1 hl
    rw [Hi.out] at l2 hl
    rw [Ho.out] at l3 hl
    clear hC hR s1 s2 s3
    go_enter Try.func26, Try.ntmps26
    go_wp2_with fail
    refine C1.mono ?_; rintro e w' ⟨rfl, rfl⟩
    go_wp2_with fail
    refine C2.mono ?_; rintro e w' ⟨rfl, rfl⟩
    go_wp2_with fail
    refine C3.mono ?_; rintro e w' ⟨rfl, rfl⟩
    go_wp2
    go_ret2
    exact ⟨_, rfl, World.ownsRow_nil _ _ _ _, Below.refl _ _⟩
  · rw [hC, hR]
    clear hC hR
    rw [s1] at C1
    rw [s2] at C2
    rw [s3] at C3
    have lx := sigB_len s1
    have l1 := sigB_len s1
    have l2 := winB_len s2
    have l3 := winB_len s3
    have sx := sigB_smpl s1
    have so : winB o.reverse = true := by rw [winB_reverse]; exact s3
    rw [Hx.out] at l1 hl
    rw [Hi.out] at l2 hl
    rw [Ho.out] at l3 hl
    rw [Hx.out, Hi.out, Ho.out]
    obtain ⟨l21, l22⟩ := l2
    obtain ⟨l31, l32⟩ := l3
    have sx2 := fadeK_smpl sx s2 0 b (by rw [Hi.out]; omega)
    obtain ⟨q, hq, hq2⟩ : ∃ q : Nat, q + n = a ∧ a - n = q := ⟨a - n, by omega, rfl⟩
    rw [hq2]
    have hqi : Hid ((a : Int) - (n : Int) = (q : Int)) := by show _ = _; omega
    have hq1 : q ≤ 4000 := by omega
    clear hq hq2
    go_enter Try.func26, Try.ntmps26
    go_wp2_with fail
    refine C1.mono ?_; rintro e w' ⟨rfl, rfl⟩
    go_wp2_with fail
    refine C2.mono ?_; rintro e w' ⟨rfl, rfl⟩
    go_wp2_with fail
    refine C3.mono ?_; rintro e w' ⟨rfl, rfl⟩
    clear C1 C2 C3
    go_wp2_with fail
    refine (l24Fade_any A B a c b c1 x i 0 w hx hi sx s2 (by omega) l1).mono ?_; rintro e w1 ⟨v, rfl, h1, hb1⟩
    unfold OwnI at h1
    obtain ⟨E, e1, rfl, -, -⟩ := own_open h1
    have hr1 := own_rd h1
    rw [fadeK_len, Hx.out] at hr1 ⊢
    go_wp2_with fail
    refine (l24Reverse_any C n c2 o w1 (ho.below hb1) (by omega)).mono ?_; rintro e w3 ⟨u, rfl, h3, hb3⟩
    unfold OwnI at h3
    obtain ⟨D, d, rfl, -, -⟩ := own_open h3
    have hr := own_rd h3
    rw [List.length_reverse, Ho.out] at hr h3 ⊢
    go_wp2_with fail
    rw [hqi.out]
    refine (l24Fade_any E D a e1 n d (fadeK x i 0 b) o.reverse q w3 (hr1.below hb3) hr sx2 so hq1 l1).mono ?_; rintro e w4 ⟨v, rfl, h5, hb5⟩
    go_wp2
    go_ret2
    have hbb := hb1.trans (hb3.mono hb1.size)
    exact ⟨_, rfl, OwnI.mono h5 hbb.size, hbb.trans (hb5.mono hbb.size)⟩
end Go.Proofs.Ytoanpdoiigjehaa
