/- Walks: the exported functions on fades, in both packages. -/
import Derived.Test.YthopcmglcnlcfaaOFade2
namespace Go.Proofs.Ythopcmglcnlcfaa.Old
open Go.RowKit
set_option linter.unusedVariables false
set_option maxRecDepth 100000
set_option linter.unusedSimpArgs false

/-- the code of a fade -/
def askC (x m : List Int) (f : Int) : Int := if sigB x && winB m then (if inB f 0 4000 then 0 else 2) else 1
def fadeR (x m : List Int) (f : Int) : List Int := if askC x m f = 0 then fadeK x m f.toNat m.length else []
def restR (x m : List Int) (f : Int) : List Int := if askC x m f = 0 then addL x (fadeK x m f.toNat m.length) (-1) else []
theorem askC_1 {x m : List Int} {f : Int} (h : (sigB x && winB m) = false) : askC x m f = 1 := by simp [askC, h]
theorem askC_2 {x m : List Int} {f : Int} (h1 : sigB x = true) (h2 : winB m = true) (h : inB f 0 4000 = false) : askC x m f = 2 := by simp [askC, h, h1, h2]
theorem askC_0 {x m : List Int} {f : Int} (h1 : sigB x = true) (h2 : winB m = true) (h : inB f 0 4000 = true) : askC x m f = 0 := by simp [askC, h, h1, h2]

/-- A code that is no 0, or the facts of a fade that is done. -/
theorem askC_cases (x m : List Int) (f : Int) : (askC x m f = 1 ∨ askC x m f = 2) ∨ (askC x m f = 0 ∧ sigB x = true ∧ winB m = true ∧ 0 ≤ f ∧ f ≤ 4000) := by
  cases sx : sigB x
  · exact .inl (.inl (askC_1 (by rw [sx]; rfl)))
  cases sm : winB m
  · exact .inl (.inl (askC_1 (by rw [sm]; simp)))
  cases sf : inB f 0 4000
  · exact .inl (.inr (askC_2 sx sm sf))
  · exact .inr ⟨askC_0 sx sm sf, rfl, rfl, inB_iff.1 sf⟩

theorem own_ne {w w' : World} {base e s n c : Nat} {v : Value} {xs ys : List Value} {C : Option Addr} (h : w'.ownsRow w.heap.size e s v base xs) (hm : Rd w 1 C n c ys) (hn : 0 < n) : ∀ ad, C = some ad → some ad.block ≠ v.ownBlock := by
  intro ad e1 e2
  obtain ⟨ad', e3, hl, -⟩ := hm.2.2.2 hn
  rw [e3] at e1
  injection e1 with e1
  subst e1
  have := (h.lt _ e2.symm).1
  omega

set_option maxHeartbeats 600000 in
theorem FadeSignal_impl (A C : Option Addr) (a c n c2 : Nat) (x m : List Int) (f : Int) (w : World) (hx : Rd w 1 A a c (ints x)) (hm : Rd w 1 C n c2 (ints m)) :
    Calls Try.prog 20 #[.slice A a c, .slice C n c2, iv f] w (ResI (fadeR x m f) (askC x m f) w) := by
  have Hx : Hid (x.length = a) := by have := hx.1; rw [ints_len] at this; show _ = _; omega
  have Hm : Hid (m.length = n) := by have := hm.1; rw [ints_len] at this; show _ = _; omega
  have C1 := isSignal_any A a c x w hx
  have C2 := isWindow_any C n c2 m w hm
  have C3 := isCount_any f w
  cases sx : sigB x
  · rw [show fadeR x m f = [] by simp [fadeR, askC, sx], askC_1 (by rw [sx]; rfl)]
    rw [sx] at C1
    go_enter Try.func20, Try.ntmps20
    go_wp2_with fail
    refine C1.mono ?_; rintro e w' ⟨rfl, rfl⟩
    go_wp2
    go_ret2
    exact ⟨_, rfl, World.ownsRow_nil _ _ _ _, Below.refl _ _⟩
  cases sm : winB m
  · rw [show fadeR x m f = [] by simp [fadeR, askC, sm], askC_1 (by rw [sm]; simp)]
    rw [sx] at C1
    rw [sm] at C2
    go_enter Try.func20, Try.ntmps20
    go_wp2_with fail
    refine C1.mono ?_; rintro e w' ⟨rfl, rfl⟩
    go_wp2_with fail
    refine C2.mono ?_; rintro e w' ⟨rfl, rfl⟩
    go_wp2
    go_ret2
    exact ⟨_, rfl, World.ownsRow_nil _ _ _ _, Below.refl _ _⟩
  rw [sx] at C1
  rw [sm] at C2
  cases sf : inB f 0 4000
  · rw [show fadeR x m f = [] by simp [fadeR, askC, sx, sm, sf], askC_2 sx sm sf]
    rw [sf] at C3
    go_enter Try.func20, Try.ntmps20
    go_wp2_with fail
    refine C1.mono ?_; rintro e w' ⟨rfl, rfl⟩
    go_wp2_with fail
    refine C2.mono ?_; rintro e w' ⟨rfl, rfl⟩
    go_wp2_with fail
    refine C3.mono ?_; rintro e w' ⟨rfl, rfl⟩
    go_wp2
    go_ret2
    exact ⟨_, rfl, World.ownsRow_nil _ _ _ _, Below.refl _ _⟩
  · rw [show fadeR x m f = fadeK x m f.toNat m.length by simp [fadeR, askC_0 sx sm sf], askC_0 sx sm sf]
    rw [sf] at C3
    obtain ⟨h1, h2⟩ := inB_iff.1 sf
    obtain ⟨k, rfl⟩ := Int.eq_ofNat_of_zero_le h1
    rw [Int.toNat_natCast, Hm.out]
    have lx := sigB_len sx
    have sx' := sigB_smpl sx
    have ln := (winB_len sm).1
    rw [Hm.out] at ln
    have lx2 := lx
    rw [Hx.out] at lx2
    go_enter Try.func20, Try.ntmps20
    go_wp2_with fail
    refine C1.mono ?_; rintro e w' ⟨rfl, rfl⟩
    go_wp2_with fail
    refine C2.mono ?_; rintro e w' ⟨rfl, rfl⟩
    go_wp2_with fail
    refine C3.mono ?_; rintro e w' ⟨rfl, rfl⟩
    clear C1 C2 C3
    go_wp2_with fail
    refine (clone_any _ _ _ _ _ hx (by omega)).mono ?_; rintro e w1 ⟨v, rfl, ho, hb⟩
    go_wp2_with fail
    refine (fade_any v x C n c2 m k w.heap.size w1 ho (hm.below hb) (own_ne ho hm (by omega)) sx' sm (by omega) lx).mono ?_; rintro e w2 ⟨rfl, ho2, hg2⟩
    go_wp2
    go_ret2
    refine ⟨_, rfl, by unfold OwnI; rw [fadeK_len]; exact ho2, hb.grown hg2 hb.size fun k hk => (ho.lt k hk).1⟩

set_option maxHeartbeats 600000 in
theorem FadeRest_impl (A C : Option Addr) (a c n c2 : Nat) (x m : List Int) (f : Int) (w : World) (hx : Rd w 1 A a c (ints x)) (hm : Rd w 1 C n c2 (ints m)) :
    Calls Try.prog 21 #[.slice A a c, .slice C n c2, iv f] w (ResI (restR x m f) (askC x m f) w) := by
  have Hx : Hid (x.length = a) := by have := hx.1; rw [ints_len] at this; show _ = _; omega
  have Hm : Hid (m.length = n) := by have := hm.1; rw [ints_len] at this; show _ = _; omega
  have CA := FadeSignal_impl A C a c n c2 x m f w hx hm
  rcases askC_cases x m f with h | ⟨h0, sx, sm, h1, h2⟩
  · rcases h with h | h
    all_goals
      rw [show restR x m f = [] by simp [restR, h]]
      rw [h] at CA ⊢
      clear h
      go_enter Try.func21, Try.ntmps21
      go_wp2_with fail
      refine CA.mono ?_; rintro e w' ⟨v, rfl, ho, hb⟩
      go_wp2
      go_ret2
      exact ⟨_, rfl, World.ownsRow_nil _ _ _ _, hb⟩
  · rw [show restR x m f = addL x (fadeK x m f.toNat m.length) (-1) by simp [restR, h0]]
    rw [show fadeR x m f = fadeK x m f.toNat m.length by simp [fadeR, h0], h0] at CA
    rw [h0]
    obtain ⟨k, rfl⟩ := Int.eq_ofNat_of_zero_le h1
    rw [Int.toNat_natCast, Hm.out] at CA ⊢
    have lx := sigB_len sx
    rw [Hx.out] at lx
    have sx' := sigB_smpl sx
    have sf' := fadeK_smpl sx' sm k n (by rw [Hm.out]; omega)
    clear h0
    go_enter Try.func21, Try.ntmps21
    go_wp2_with fail
    refine CA.mono ?_; rintro e w1 ⟨v, rfl, ho, hb⟩
    clear CA
    unfold OwnI at ho
    obtain ⟨D, d, rfl, -, -⟩ := own_open ho
    have hr := own_rd ho
    rw [fadeK_len, Hx.out] at hr ⊢
    go_wp2_with fail
    refine (addTimes_any A D a a c d x _ (-1) w1 (hx.below hb) hr sx' sf' (by omega) (by omega) (by omega) (by omega)).mono ?_; rintro e w2 ⟨v, rfl, ho2, hb2⟩
    go_wp2
    go_ret2
    exact ⟨_, rfl, OwnI.mono ho2 hb.size, hb.trans (hb2.mono hb.size)⟩
end Go.Proofs.Ythopcmglcnlcfaa.Old
