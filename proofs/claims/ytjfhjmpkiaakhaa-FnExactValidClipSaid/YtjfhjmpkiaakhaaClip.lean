/- Walks: a clip's validity, in both packages. -/
import Derived.Test.YtjfhjmpkiaakhaaSamp
import Derived.Test.YtjfhjmpkiaakhaaFlat
namespace Go.Proofs.Ytjfhjmpkiaakhaa
open Go.RowKit
set_option linter.unusedVariables false
set_option linter.unusedSimpArgs false

structure Clip where
  (s f l a g : Int)
deriving Inhabited, DecidableEq
def Clip.row (c : Clip) : List Int := [c.s, c.f, c.l, c.a, c.g]
def clipR : Rec Clip 5 where
  row := Clip.row
  make := fun zs => ⟨gi zs 0, gi zs 1, gi zs 2, gi zs 3, gi zs 4⟩
  len := fun _ => rfl
  make_row := fun _ => rfl
  row_make := fun zs h => by
    match zs, h with
    | [a, b, c, d, e], _ => rfl
abbrev Clip.v (c : Clip) : Value := .agg #[iv c.s, iv c.f, iv c.l, iv c.a, iv c.g]
def clipB (c : Clip) : Bool :=
  inB c.s 0 5 && inB c.l 1 4000 && inB c.f 0 (4000 - c.l) && inB c.a 0 (4000 - c.l) && sampB c.g

set_option maxHeartbeats 600000 in
theorem toClip_any (c : Clip) (w : World) : Calls Try.prog 10 #[c.v] w fun e w' => e = .returned c.v ∧ Below w.heap.size w w' := by
  go_enter Try.func10, Try.ntmps10
  go_wp2
  exact bodyPost_ret (v := c.v) (by simp [results, Try.results10, go_sem]) rfl ⟨rfl, (by repeat (first | exact Below.refl _ _ | assumption | (refine Below.alloc ?_ (by simp <;> omega) _) | (refine Below.setCell ?_ (by simp <;> omega) _) | (refine Below.drew ?_)))⟩

theorem clip_cells {w : World} {a : Addr} {c : Clip} (h : ∀ j, j < 5 → w.cell? (a.add j) = some (iv (gi c.row j))) :
    w.cell? a = some (iv c.s) ∧ w.cell? ⟨a.block, a.off + 1, none⟩ = some (iv c.f) ∧ w.cell? ⟨a.block, a.off + 2, none⟩ = some (iv c.l) ∧ w.cell? ⟨a.block, a.off + 3, none⟩ = some (iv c.a) ∧ w.cell? ⟨a.block, a.off + 4, none⟩ = some (iv c.g) :=
  ⟨h 0 (by omega), h 1 (by omega), h 2 (by omega), h 3 (by omega), h 4 (by omega)⟩

set_option maxHeartbeats 800000 in
theorem l23Clip_any (a : Addr) (c : Clip) (w : World) (h : ∀ j, j < 5 → w.cell? (a.add j) = some (iv (gi c.row j))) :
    Calls Try.prog 26 #[.pointer (some a)] w fun e w' => e = .returned (.bool (clipB c)) ∧ ∃ n, w' = w.drewN n := by
  obtain ⟨h0, h1, h2, h3, h4⟩ := clip_cells h
  have C1 := l00In_any c.s 0 5
  have C2 := l00In_any c.l 1 4000
  have C3 := l01Sample_any c.g
  cases s1 : inB c.s 0 5
  · rw [show clipB c = false by simp [clipB, s1]]
    rw [s1] at C1
    go_enter Try.func26, Try.ntmps26
    go_wp2_with fail
    refine (C1 _).mono ?_; rintro e w' ⟨rfl, rfl⟩
    go_wp2
    go_ret
    exact ⟨rfl, 0, rfl⟩
  cases s2 : inB c.l 1 4000
  · rw [show clipB c = false by simp [clipB, s2]]
    rw [s1] at C1
    rw [s2] at C2
    go_enter Try.func26, Try.ntmps26
    go_wp2_with fail
    refine (C1 _).mono ?_; rintro e w' ⟨rfl, rfl⟩
    go_wp2_with fail
    refine (C2 _).mono ?_; rintro e w' ⟨rfl, rfl⟩
    go_wp2
    go_ret
    exact ⟨rfl, 0, rfl⟩
  rw [s1] at C1
  rw [s2] at C2
  cases s3 : sampB c.g
  · rw [show clipB c = false by simp [clipB, s3]]
    rw [s3] at C3
    go_enter Try.func26, Try.ntmps26
    go_wp2_with fail
    refine (C1 _).mono ?_; rintro e w' ⟨rfl, rfl⟩
    go_wp2_with fail
    refine (C2 _).mono ?_; rintro e w' ⟨rfl, rfl⟩
    go_wp2_with fail
    refine (C3 _).mono ?_; rintro e w' ⟨rfl, rfl⟩
    go_wp2
    go_ret
    exact ⟨rfl, 0, rfl⟩
  rw [s3] at C3
  obtain ⟨b1, b2⟩ := inB_iff.1 s2
  have hw : IntKind.i64.wrap (4000 - c.l) = 4000 - c.l := IntWalk.i64_in _ (by omega)
  have C4 := l00In_any c.f 0 (4000 - c.l)
  have C5 := l00In_any c.a 0 (4000 - c.l)
  cases s4 : inB c.f 0 (4000 - c.l)
  · rw [show clipB c = false by simp [clipB, s4]]
    rw [s4] at C4
    go_enter Try.func26, Try.ntmps26
    go_wp2_with fail
    refine (C1 _).mono ?_; rintro e w' ⟨rfl, rfl⟩
    go_wp2_with fail
    refine (C2 _).mono ?_; rintro e w' ⟨rfl, rfl⟩
    go_wp2_with fail
    refine (C3 _).mono ?_; rintro e w' ⟨rfl, rfl⟩
    go_wp2_with fail
    go_quiet ((go_at_call 28; exact q_left (C4 _)))
    go_wp2
    go_ret
    exact ⟨rfl, _, rfl⟩
  · rw [show clipB c = inB c.a 0 (4000 - c.l) by simp [clipB, s1, s2, s3, s4]]
    rw [s4] at C4
    go_enter Try.func26, Try.ntmps26
    go_wp2_with fail
    refine (C1 _).mono ?_; rintro e w' ⟨rfl, rfl⟩
    go_wp2_with fail
    refine (C2 _).mono ?_; rintro e w' ⟨rfl, rfl⟩
    go_wp2_with fail
    refine (C3 _).mono ?_; rintro e w' ⟨rfl, rfl⟩
    go_wp2_with fail
    go_quiet ((go_at_call 28; first | (with_reducible exact q_left (C4 _)) | (with_reducible exact q_left (C5 _))))
    go_wp2
    go_ret
    exact ⟨rfl, _, rfl⟩

set_option maxHeartbeats 800000 in
theorem isClip_any (c : Clip) (w : World) : Calls Try.prog 27 #[c.v] w fun e w' => e = .returned (.bool (clipB c)) ∧ Below w.heap.size w w' := by
  cases s1 : inB c.s 0 5
  · rw [show clipB c = false by simp [clipB, s1]]
    go_enter Try.func27, Try.ntmps27
    go_wp2_with (go_at_call 30; refine (within_any _ _ _ _).mono ?_; rintro e w' ⟨rfl, rfl⟩)
    go_ret
    exact ⟨rfl, (by repeat (first | exact Below.refl _ _ | assumption | (refine Below.alloc ?_ (by simp <;> omega) _) | (refine Below.setCell ?_ (by simp <;> omega) _) | (refine Below.drew ?_)))⟩
  cases s2 : inB c.l 1 4000
  · rw [show clipB c = false by simp [clipB, s2]]
    go_enter Try.func27, Try.ntmps27
    go_wp2_with (go_at_call 30; refine (within_any _ _ _ _).mono ?_; rintro e w' ⟨rfl, rfl⟩)
    go_ret
    exact ⟨rfl, (by repeat (first | exact Below.refl _ _ | assumption | (refine Below.alloc ?_ (by simp <;> omega) _) | (refine Below.setCell ?_ (by simp <;> omega) _) | (refine Below.drew ?_)))⟩
  obtain ⟨b1, b2⟩ := inB_iff.1 s2
  go_enter Try.func27, Try.ntmps27
  go_wp2_with (first
    | (go_at_call 30; refine (within_any _ _ _ _).mono ?_; rintro e w' ⟨rfl, rfl⟩)
    | (go_at_call 39; refine (isSample_any _ _).mono ?_; rintro e w' ⟨rfl, rfl⟩))
  all_goals
    go_ret
    exact ⟨retb (by simp [clipB, *]), (by repeat (first | exact Below.refl _ _ | assumption | (refine Below.alloc ?_ (by simp <;> omega) _) | (refine Below.setCell ?_ (by simp <;> omega) _) | (refine Below.drew ?_)))⟩

set_option maxHeartbeats 400000 in
theorem ValidClip_impl (c : Clip) (w : World) : Calls Try.prog 11 #[c.v] w fun e w' => e = .returned (.bool (clipB c)) ∧ Below w.heap.size w w' := by
  go_enter Try.func11, Try.ntmps11
  go_wp2_with fail
  refine (isClip_any c _).mono ?_; rintro e w' ⟨rfl, hb⟩
  go_wp2
  go_ret
  exact ⟨rfl, ((Below.refl _ _).alloc (Nat.le_refl _) _).trans (hb.mono (by simp))⟩
set_option maxHeartbeats 400000 in
theorem ValidClip_spec (c : Clip) (w : World) : Calls Try.prog 9 #[c.v] w fun e w' => e = .returned (.bool (clipB c)) ∧ Below w.heap.size w w' := by
  go_enter Try.func9, Try.ntmps9
  go_wp2_with fail
  refine (l23Clip_any _ c _ ?_).mono ?_
  · intro j hj
    match j, hj with
    | 0, _ => go_simp; rfl
    | 1, _ => go_simp; rfl
    | 2, _ => go_simp; rfl
    | 3, _ => go_simp; rfl
    | 4, _ => go_simp; rfl
  rintro e w' ⟨rfl, n, rfl⟩
  go_wp2
  go_ret
  exact ⟨rfl, below_drewN ((Below.refl _ _).alloc (Nat.le_refl _) _) n⟩
end Go.Proofs.Ytjfhjmpkiaakhaa
