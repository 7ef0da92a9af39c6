/- Parts of the proof, together: Beats and tempo maps that are drawn. Notes that are drawn. Scores that are drawn. Draws: yes or no; fractions, also bent ones. Draws: bent fractions and beats. Draws: bent beats. Draws: bent notes. Draws: pitches. No conditions. -/
import Derived.Test.YtodbjnngkonklaaGreatZzI10
import Derived.Test.YtodbjnngkonklaaGreatZzI14
import Derived.Test.YtodbjnngkonklaaGreatZzI11
import Derived.Test.YtodbjnngkonklaaGreatZzI9
namespace Go.Proofs.YtodbjnngkonklaaGreat
open Go.RowKit
set_option linter.unusedVariables false
set_option linter.unusedSimpArgs false
set_option maxRecDepth 100000
attribute [local simp] List.getElem?_cons_zero
attribute [local irreducible] awCond awCall awLoop awDraw ow retQ retC resQ Keeps
theorem mkF_small {n d : Int} (h1 : -1000000000 ≤ n) (h2 : n ≤ 1000000000) (h3 : 1 ≤ d) (h4 : d ≤ 1000000) : (mkF n d).2 = 0 := by
  unfold mkF
  rw [if_neg (by omega)]
  have e1 : n.natAbs / n.natAbs.gcd d.natAbs ≤ n.natAbs := Nat.div_le_self _ _
  have e2 : d.natAbs / n.natAbs.gcd d.natAbs ≤ d.natAbs := Nat.div_le_self _ _
  rw [if_neg (by omega)]
theorem mkF_fst {n d : Int} (h0 : 0 ≤ n) (h2 : n ≤ 1000000000) (h3 : 1 ≤ d) (h4 : d ≤ 1000000) : ∃ g a b : Int, 0 < g ∧ n = g * a ∧ d = g * b ∧ 0 ≤ a ∧ 1 ≤ b ∧ (mkF n d).1 = ⟨a, b⟩ := by
  have e1 : n.natAbs / n.natAbs.gcd d.natAbs ≤ n.natAbs := Nat.div_le_self _ _
  have e2 : d.natAbs / n.natAbs.gcd d.natAbs ≤ d.natAbs := Nat.div_le_self _ _
  have hg : 0 < n.natAbs.gcd d.natAbs := Nat.gcd_pos_of_pos_right _ (by omega)
  unfold mkF
  rw [if_neg (by omega), if_neg (by omega)]
  clear e1 e2
  generalize hgg : n.natAbs.gcd d.natAbs = g at hg
  obtain ⟨a, ha⟩ : g ∣ n.natAbs := by rw [← hgg]; exact Nat.gcd_dvd_left _ _
  obtain ⟨b, hb⟩ : g ∣ d.natAbs := by rw [← hgg]; exact Nat.gcd_dvd_right _ _
  rw [ha, hb, Nat.mul_div_cancel_left _ hg, Nat.mul_div_cancel_left _ hg]
  have hn : ¬ n < 0 := by omega
  have hd : ¬ d < 0 := by omega
  have hb0 : 0 < b := by
    rcases Nat.eq_zero_or_pos b with h | h
    · rw [h] at hb; omega
    · exact h
  refine ⟨g, a, b, by omega, by rw [← Int.natCast_mul, ← ha]; omega, by rw [← Int.natCast_mul, ← hb]; omega, by omega, by omega, ?_⟩
  simp [hn, hd]
/-- A small beat. -/
structure SmallB (m : Int) (f : Frac) : Prop where
  frac : fracB f = true
  pos : 0 ≤ f.n
  le : f.n ≤ m * f.d
  den : f.d ≤ 8
theorem small_mk {m n d : Int} (hm : 0 ≤ m) (hm' : m ≤ 10) (h1 : 0 ≤ n) (h2 : n ≤ m * d) (h3 : 1 ≤ d) (h4 : d ≤ 8) : SmallB m (mkF n d).1 := by
  have hmd : m * d ≤ 10 * 8 := Int.mul_le_mul hm' h4 (by omega) (by omega)
  obtain ⟨g, a, b, hg, ea, eb, ha, hb, e⟩ := mkF_fst h1 (by omega) h3 (by omega)
  have hok := mkF_ok (mkF_small (n := n) (d := d) (by omega) (by omega) h3 (by omega))
  rw [e] at hok ⊢
  refine ⟨hok, ha, ?_, ?_⟩
  · show a ≤ m * b
    have h : g * a ≤ g * (m * b) := by
      have : g * (m * b) = m * (g * b) := by rw [← Int.mul_assoc, Int.mul_comm g m, Int.mul_assoc]
      rw [this, ← ea, ← eb]
      exact h2
    exact Int.le_of_mul_le_mul_left h hg
  · show b ≤ 8
    have : 1 * b ≤ g * b := Int.mul_le_mul_of_nonneg_right (by omega) (by omega)
    omega
set_option maxHeartbeats 2000000 in
theorem l02Beat_a {M : Mem} {b g k B : Nat} (m : Int) (hm : 0 ≤ m) (hm' : m ≤ 10) (h : Src g B M k) (hb : b ≤ g) (hB : B ≤ M.length) (hk : k ≤ 1000000) :
    Ctr Tryz.prog b 81 [.pointer (some ⟨g, 0, none⟩), iv m] M fun r M' => ∃ (f : Frac) (k' : Nat), r = f.v ∧ SmallB m f ∧ k' ≤ k + 4 ∧ Src g B M' k' ∧ Grow g M M' := by
  have hg := h.lt
  first | (refine ctr_fn Tryz.func81 rfl Tryz.ntmps81 Tryz.results81 rfl rfl (by simp) ?_) | (refine ctr_fnC Tryz.func81 rfl Tryz.ntmps81 Tryz.results81 rfl (by simp) ?_)
  simp (disch := omega) [fill9]
  have hc := among_new (b := b) (M := M ++ [.live ⟨[iv 0, iv 0], true, true, 34, 2⟩]) (n := 9) [1, 1, 2, 2, 3, 4, 4, 6, 8] rfl (h.app _) hb (by omega) (by omega) (by omega) rfl (by simp; omega)
  rw [List.append_assoc, List.length_append] at hc
  refine awCall_ctr hc ?_
  rintro r M1 ⟨d, k1, rfl, hd, hk1, h1, g1⟩
  have r1 : M1[M.length]? = some (.live ⟨[iv 0, iv 0], true, true, 34, 2⟩) := g1.2 _ _ (by omega) getElem?_snoc_eq
  have n1 := g1.1
  simp only [List.length_append, List.length_cons, List.length_nil] at n1
  have hd1 : 1 ≤ d ∧ d ≤ 8 := by simp at hd; omega
  have hmd : 0 ≤ m * d ∧ m * d ≤ 10 * 8 := ⟨Int.mul_nonneg hm (by omega), Int.mul_le_mul hm' hd1.2 (by omega) (by omega)⟩
  simp (disch := omega) [wrap_in]
  refine awCall_ctr (h1.pick (m * d + 1) hb (by omega) (by omega)) ?_
  rintro r M2 ⟨x, k2, rfl, x0, x1, hk2, h2, u2⟩
  have n2 := u2.1
  have r2 := u2.2 _ _ (show M.length ≠ g by omega) r1
  refine awCall_det' (MakeFrac_s x d (by omega) (by omega) (by omega) (by omega)) (by omega) ?_
  have hS : SmallB m (mkF x d).1 := small_mk hm hm' x0 (by omega) hd1.1 hd1.2
  generalize (mkF x d).1 = f at hS ⊢
  have g2 : Grow g M M2 := ((Grow.app g M _).trans g1).trans u2.grow
  have rr : ∀ L : Mem, (M2 ++ L)[M.length]? = some (.live ⟨[iv 0, iv 0], true, true, 34, 2⟩) := fun L => by rw [List.getElem?_append_left (List.getElem?_eq_some_iff.1 r2).1]; exact r2
  simp (disch := omega)
  have l2 := (List.getElem?_eq_some_iff.1 (rr [.live ⟨[iv f.n, iv f.d], true, true, 34, 2⟩])).1
  rw [put_whole (vs := [iv f.n, iv f.d]) (rr _) (by omega) rfl (by simp), ow_some, cells_hr (r := ⟨[iv f.n, iv f.d], true, true, 34, 2⟩) (n := 2) (set_get l2) rfl, ow_some]
  have g3 := g2.trans (Grow.app g M2 [.live ⟨[iv f.n, iv f.d], true, true, 34, 2⟩])
  refine ⟨f, rfl, hS, k2, by omega, (h2.app _).same (Same.set hB), by simpa using g3.1, fun i s hi hs => ?_⟩
  rw [List.getElem?_set_ne (by have := (List.getElem?_eq_some_iff.1 hs).1; omega)]
  exact g3.2 i s hi hs
theorem fr_build2 (x y : Int) : Instr.fill (fun x => [(0, 1), (1, 1)][x]?) #[iv 0, iv 0] [(0, iv x), (1, iv y)] = some #[iv x, iv y] := by rfl
end Go.Proofs.YtodbjnngkonklaaGreat

namespace Go.Proofs.YtodbjnngkonklaaGreat
open Go.RowKit
set_option linter.unusedVariables false
set_option linter.unusedSimpArgs false
set_option maxRecDepth 100000
attribute [local simp] List.getElem?_cons_zero
attribute [local irreducible] awCond awCall awLoop awDraw ow retQ retC resQ Keeps
theorem SmallB.up {m m' : Int} {f : Frac} (h : SmallB m f) (hm : m ≤ m') : SmallB m' f := ⟨h.frac, h.pos, Int.le_trans h.le (Int.mul_le_mul_of_nonneg_right hm (by have := (fracB_iff.1 h.frac).1.1; omega)), h.den⟩
theorem drawn_ok {f e : Frac} {k u o : Int} (hf : SmallB 8 f) (he : SmallB 3 e) (h0 : e.n ≠ 0) (hk : 0 ≤ k ∧ k ≤ 127) (hu : 1 ≤ u ∧ u ≤ 127) (ho : 0 ≤ o ∧ o ≤ 15) : noteB ⟨f.n, f.d, e.n, e.d, k, u, o⟩ = true := by
  have f1 := (fracB_iff.1 hf.frac).1.1
  have e1 := (fracB_iff.1 he.frac).1.1
  have hfn := hf.le
  have hen := he.le
  have hfd := hf.den
  have hed := he.den
  have fp := hf.pos
  have ep := he.pos
  refine noteB_iff.2 ⟨beatB_iff.2 ⟨hf.frac, fp, show f.n ≤ 1000 * f.d by omega⟩, beatB_iff.2 ⟨he.frac, ep, show e.n ≤ 1000 * e.d by omega⟩, h0, ?_, hk, hu, ho⟩
  show (addF f e).2 = 0
  unfold addF
  rw [if_pos ⟨hf.frac, he.frac⟩]
  have p1 : f.n * e.d ≤ 64 * 8 := Int.mul_le_mul (by omega) hed (by omega) (by omega)
  have p2 : e.n * f.d ≤ 24 * 8 := Int.mul_le_mul (by omega) hfd (by omega) (by omega)
  have p3 : f.d * e.d ≤ 8 * 8 := Int.mul_le_mul hfd hed (by omega) (by omega)
  have q1 : 0 ≤ f.n * e.d := Int.mul_nonneg fp (by omega)
  have q2 : 0 ≤ e.n * f.d := Int.mul_nonneg ep (by omega)
  have q3 : 0 < f.d * e.d := Int.mul_pos (by omega) (by omega)
  exact mkF_small (by omega) (by omega) (by omega) (by omega)
theorem n_build (x y : Int) : Instr.fill (fun x => [(0, 2), (2, 2), (4, 1), (5, 1), (6, 1)][x]?) #[iv 0, iv 0, iv 0, iv 0, iv 0, iv 0, iv 0] [(0, .agg #[iv x, iv y])] = some #[iv x, iv y, iv 0, iv 0, iv 0, iv 0, iv 0] := by rfl
set_option maxHeartbeats 2000000 in
theorem l18DrawNote_m {M : Mem} {b g k B : Nat} (most : Int) (hm0 : 0 ≤ most) (hm8 : most ≤ 8) (h : Src g B M k) (hb : b ≤ g) (hB : B ≤ M.length) (hk : k ≤ 500000) :
    Ctr Tryz.prog b 71 [.pointer (some ⟨g, 0, none⟩), iv most] M fun r M' => ∃ (n : Note) (k' : Nat), r = n.v ∧ noteB n = true ∧ k' ≤ k + 20 ∧ Src g B M' k' ∧ Grow g M M' := by
  have hg := h.lt
  first | (refine ctr_fn Tryz.func71 rfl Tryz.ntmps71 Tryz.results71 rfl rfl (by simp) ?_) | (refine ctr_fnC Tryz.func71 rfl Tryz.ntmps71 Tryz.results71 rfl (by simp) ?_)
  simp
  refine awCall_ctr (l02Beat_a most hm0 (by omega) (h.app _) hb (by simp; omega) (by omega)) ?_
  rintro _ M1 ⟨f, k1, rfl, hf, hk1, h1, g1⟩
  have n1 := g1.1
  have r1 := g1.2 _ _ (show M.length ≠ g by omega) getElem?_snoc_eq
  simp only [List.length_append, List.length_cons, List.length_nil] at n1
  have g1' : Grow g M M1 := (Grow.app g M _).trans g1
  simp (disch := omega) [n_build]
  have g2 : Grow g M (M1 ++ [Slot.live ⟨[iv f.n, iv f.d, iv 0, iv 0, iv 0, iv 0, iv 0], true, true, 36, 7⟩]) := g1'.trans (Grow.app g M1 _)
  have h2 := h1.app [Slot.live ⟨[iv f.n, iv f.d, iv 0, iv 0, iv 0, iv 0, iv 0], true, true, 36, 7⟩]
  have r2 : (M1 ++ [Slot.live ⟨[iv f.n, iv f.d, iv 0, iv 0, iv 0, iv 0, iv 0], true, true, 36, 7⟩])[M1.length]? = some (Slot.live ⟨[iv f.n, iv f.d, iv 0, iv 0, iv 0, iv 0, iv 0], true, true, 36, 7⟩) := getElem?_snoc_eq
  obtain ⟨M2, hM2⟩ : ∃ M' : Mem, M' = M1 ++ [Slot.live ⟨[iv f.n, iv f.d, iv 0, iv 0, iv 0, iv 0, iv 0], true, true, 36, 7⟩] := ⟨_, rfl⟩
  have rr2 : M2[M.length]? = some (Slot.live ⟨[iv 0, iv 0, iv 0, iv 0, iv 0, iv 0, iv 0], true, true, 36, 7⟩) := by rw [hM2, List.getElem?_append_left (List.getElem?_eq_some_iff.1 r1).1]; exact r1
  rw [← hM2] at g2 h2 r2 ⊢
  have n2 : M2.length = M1.length + 1 := by rw [hM2]; simp
  clear hM2 h1 r1 g1 g1'
  generalize hq : M1.length = q at *
  have hMq : M.length < q := by omega
  clear hq
  refine awCall_ctr (l02Beat_a 3 (by omega) (by omega) h2 hb (by omega) (by omega)) ?_
  rintro _ M3 ⟨e, k3, rfl, he, hk3, h3, g3⟩
  have r3 := g3.2 _ _ (by omega) r2
  have rr3 := g3.2 _ _ (by omega) rr2
  have n3 := g3.1
  have g3' := g2.trans g3
  obtain ⟨M4, p4, r4, h4, g4, n4, u4⟩ := put_field (b := b) (vs := [iv e.n, iv e.d]) (p := 2) r3 (by omega) (by simp) (by simp) (by omega) h3 (by omega) g3'
  have rr4 := u4 _ _ (by omega) rr3
  simp only [splice_cons, splice_nil, List.set_cons_succ, List.set_cons_zero] at r4
  refine ⟨rfl, ?_⟩
  rw [show e.v.cells.toList = [iv e.n, iv e.d] from rfl, p4, ow_some, cell_hr r4 2]
  simp
  by_cases z0 : e.n = 0
  · have e14 : SmallB 3 ⟨1, 4⟩ := ⟨by decide, by decide, by decide, by decide⟩
    obtain ⟨M5, p5, r5, h5, g5, n5, u5⟩ := put_field (b := b) (vs := [iv 1, iv 4]) (p := 2) r4 (by omega) (by simp) (by simp) (by omega) h4 (by omega) g4
    simp only [splice_cons, splice_nil, List.set_cons_succ, List.set_cons_zero] at r5
    have rr5 := u5 _ _ (by omega) rr4
    simp [z0, fr_build2, p5]
    refine awCall_ctr (h5.pick 25 hb (by omega) (by omega)) ?_
    rintro _ N1 ⟨ky, c1, rfl, ky0, ky1, hc1, i1, v1⟩
    have rN1 := v1.2 _ _ (by omega) r5
    have rrN1 := v1.2 _ _ (by omega) rr5
    have gN1 := g5.trans v1.grow
    have lN1 := v1.1
    obtain ⟨N2, pN2, rN2, i2, gN2, lN2, w2⟩ := put_field (b := b) (vs := [iv (48 + ky)]) (p := 4) rN1 (by omega) (by simp) (by simp) (by omega) i1 (by omega) gN1
    have rrN2 := w2 _ _ (by omega) rrN1
    simp only [splice_cons, splice_nil, List.set_cons_succ, List.set_cons_zero] at rN2
    simp (disch := omega) [wrap_in, pN2]
    refine awCall_ctr (i2.pick 127 hb (by omega) (by omega)) ?_
    rintro _ N3 ⟨vy, c3, rfl, vy0, vy1, hc3, i3, v3⟩
    have rN3 := v3.2 _ _ (by omega) rN2
    have rrN3 := v3.2 _ _ (by omega) rrN2
    have gN3 := gN2.trans v3.grow
    have lN3 := v3.1
    obtain ⟨N4, pN4, rN4, i4, gN4, lN4, w4⟩ := put_field (b := b) (vs := [iv (1 + vy)]) (p := 5) rN3 (by omega) (by simp) (by simp) (by omega) i3 (by omega) gN3
    have rrN4 := w4 _ _ (by omega) rrN3
    simp only [splice_cons, splice_nil, List.set_cons_succ, List.set_cons_zero] at rN4
    simp (disch := omega) [wrap_in, pN4, fill5]
    refine awCall_ctr (among_new (b := b) (M := N4) (n := 5) [0, 0, 0, 1, 15] rfl i4 hb (by omega) (by omega) (by omega) rfl (by omega)) ?_
    rintro _ N5 ⟨oy, c5, rfl, hoy, hc5, i5, g5⟩
    have rN5 := g5.2 _ _ (by omega) rN4
    have rrN5 := g5.2 _ _ (by omega) rrN4
    have gN5 := gN4.trans g5
    have lN5 := g5.1
    obtain ⟨N6, pN6, rN6, i6, gN6, lN6, w6⟩ := put_field (b := b) (vs := [iv oy]) (p := 6) rN5 (by omega) (by simp) (by simp) (by omega) i5 (by omega) gN5
    have rrN6 := w6 _ _ (by omega) rrN5
    simp only [splice_cons, splice_nil, List.set_cons_succ, List.set_cons_zero] at rN6
    obtain ⟨N7, pN7, rN7, i7, gN7, lN7, w7⟩ := put_field (b := b) (vs := [iv f.n, iv f.d, iv 1, iv 4, iv (48 + ky), iv (1 + vy), iv oy]) (p := 0) rrN6 (by omega) (by simp) (by simp) (by omega) i6 (by omega) gN6
    simp only [splice_cons, splice_nil, List.set_cons_succ, List.set_cons_zero] at rN7
    simp (disch := omega) [pN6, cells_hr (n := 7) rN6 rfl, pN7, cells_hr (n := 7) rN7 rfl]
    have hoy' : 0 ≤ oy ∧ oy ≤ 15 := by simp at hoy; omega
    exact ⟨⟨f.n, f.d, 1, 4, 48 + ky, 1 + vy, oy⟩, ⟨rfl, rfl, rfl, rfl, rfl, rfl, rfl⟩, drawn_ok (e := ⟨1, 4⟩) (hf.up hm8) e14 (by decide) (by omega) (by omega) hoy', c5, by omega, i7, gN7⟩
  · simp [z0]
    refine awCall_ctr (h4.pick 25 hb (by omega) (by omega)) ?_
    rintro _ N1 ⟨ky, c1, rfl, ky0, ky1, hc1, i1, v1⟩
    have rN1 := v1.2 _ _ (by omega) r4
    have rrN1 := v1.2 _ _ (by omega) rr4
    have gN1 := g4.trans v1.grow
    have lN1 := v1.1
    obtain ⟨N2, pN2, rN2, i2, gN2, lN2, w2⟩ := put_field (b := b) (vs := [iv (48 + ky)]) (p := 4) rN1 (by omega) (by simp) (by simp) (by omega) i1 (by omega) gN1
    have rrN2 := w2 _ _ (by omega) rrN1
    simp only [splice_cons, splice_nil, List.set_cons_succ, List.set_cons_zero] at rN2
    simp (disch := omega) [wrap_in, pN2]
    refine awCall_ctr (i2.pick 127 hb (by omega) (by omega)) ?_
    rintro _ N3 ⟨vy, c3, rfl, vy0, vy1, hc3, i3, v3⟩
    have rN3 := v3.2 _ _ (by omega) rN2
    have rrN3 := v3.2 _ _ (by omega) rrN2
    have gN3 := gN2.trans v3.grow
    have lN3 := v3.1
    obtain ⟨N4, pN4, rN4, i4, gN4, lN4, w4⟩ := put_field (b := b) (vs := [iv (1 + vy)]) (p := 5) rN3 (by omega) (by simp) (by simp) (by omega) i3 (by omega) gN3
    have rrN4 := w4 _ _ (by omega) rrN3
    simp only [splice_cons, splice_nil, List.set_cons_succ, List.set_cons_zero] at rN4
    simp (disch := omega) [wrap_in, pN4, fill5]
    refine awCall_ctr (among_new (b := b) (M := N4) (n := 5) [0, 0, 0, 1, 15] rfl i4 hb (by omega) (by omega) (by omega) rfl (by omega)) ?_
    rintro _ N5 ⟨oy, c5, rfl, hoy, hc5, i5, g5⟩
    have rN5 := g5.2 _ _ (by omega) rN4
    have rrN5 := g5.2 _ _ (by omega) rrN4
    have gN5 := gN4.trans g5
    have lN5 := g5.1
    obtain ⟨N6, pN6, rN6, i6, gN6, lN6, w6⟩ := put_field (b := b) (vs := [iv oy]) (p := 6) rN5 (by omega) (by simp) (by simp) (by omega) i5 (by omega) gN5
    have rrN6 := w6 _ _ (by omega) rrN5
    simp only [splice_cons, splice_nil, List.set_cons_succ, List.set_cons_zero] at rN6
    obtain ⟨N7, pN7, rN7, i7, gN7, lN7, w7⟩ := put_field (b := b) (vs := [iv f.n, iv f.d, iv e.n, iv e.d, iv (48 + ky), iv (1 + vy), iv oy]) (p := 0) rrN6 (by omega) (by simp) (by simp) (by omega) i6 (by omega) gN6
    simp only [splice_cons, splice_nil, List.set_cons_succ, List.set_cons_zero] at rN7
    simp (disch := omega) [pN6, cells_hr (n := 7) rN6 rfl, pN7, cells_hr (n := 7) rN7 rfl]
    have hoy' : 0 ≤ oy ∧ oy ≤ 15 := by simp at hoy; omega
    exact ⟨⟨f.n, f.d, e.n, e.d, 48 + ky, 1 + vy, oy⟩, ⟨rfl, rfl, rfl, rfl, rfl, rfl, rfl⟩, drawn_ok (e := e) (hf.up hm8) he z0 (by omega) (by omega) hoy', c5, by omega, i7, gN7⟩
theorem l18DrawNote_a {M : Mem} {b g k B : Nat} (h : Src g B M k) (hb : b ≤ g) (hB : B ≤ M.length) (hk : k ≤ 500000) :
    Ctr Tryz.prog b 71 [.pointer (some ⟨g, 0, none⟩), iv 6] M fun r M' => ∃ (n : Note) (k' : Nat), r = n.v ∧ noteB n = true ∧ k' ≤ k + 20 ∧ Src g B M' k' ∧ Grow g M M' := l18DrawNote_m 6 (by omega) (by omega) h hb hB hk
end Go.Proofs.YtodbjnngkonklaaGreat

namespace Go.Proofs.YtodbjnngkonklaaGreat
open Go.RowKit
set_option linter.unusedVariables false
set_option linter.unusedSimpArgs false
set_option maxRecDepth 100000
attribute [local simp] List.getElem?_cons_zero
attribute [local irreducible] awCond awCall awLoop awDraw ow retQ retC resQ Keeps
theorem note_cl {M : Mem} {id : Nat} {x : Note} {t o : Bool} {e : TypeId} (h : M[id]? = some (.live ⟨x.row, o, t, e, 7⟩)) : Cl M id 0 x.row := fun j y hy => by
  rw [cell_hr h, Nat.zero_add]; exact hy
theorem sc_build (A : Option Addr) (n c : Nat) : Instr.fill (fun x => [(0, 1)][x]?) #[.slice none 0 0] [(0, .slice A n c)] = some #[.slice A n c] := by rfl
theorem Keeps.same {M M' : Mem} {B : Nat} (h : Keeps M M') : Same B M M' := ⟨h.len, fun i s _ hs => h.get hs⟩
theorem Grow.new {g B : Nat} {M0 M M' : Mem} (h : Grow g M0 M) (hs : Same B M M') (hB : M0.length ≤ B) : Grow g M0 M' :=
  ⟨Nat.le_trans h.1 hs.1, fun i s hi h0 => hs.2 i s (by have := (List.getElem?_eq_some_iff.1 h0).1; omega) (h.2 i s hi h0)⟩
theorem Keeps.growQ {g : Nat} {M M' : Mem} (h : Keeps M M') : Grow g M M' := ⟨h.len, fun i s _ hs => h.get hs⟩
set_option maxHeartbeats 2000000 in
theorem l18Draw_b {M : Mem} {b g k B most : Nat} (h : Src g B M k) (hb : b ≤ g) (hB : B ≤ M.length) (hk : k ≤ 100000) (hm : most ≤ 60) :
    Ctr Tryz.prog b 39 [.pointer (some ⟨g, 0, none⟩), iv most] M fun r M' => ∃ (l : List Note) (v : Value), r = .agg #[v] ∧ Acc noteR 36 M.length M' v l ∧ l.length ≤ most ∧ (∀ x, x ∈ l → noteB x = true) ∧ SortTo l l.length ∧ Grow g M M' ∧ ∃ k' : Nat, k' ≤ k + 1300 ∧ Src g B M' k' := by
  have hg := h.lt
  first | (refine ctr_fn Tryz.func39 rfl Tryz.ntmps39 Tryz.results39 rfl rfl (by simp) ?_) | (refine ctr_fnC Tryz.func39 rfl Tryz.ntmps39 Tryz.results39 rfl (by simp) ?_)
  simp (disch := omega) [wrap_in]
  have h0 := h.app [Slot.live ⟨[.slice none 0 0], true, true, 26, 1⟩, Slot.live ⟨[], true, true, 36, 7⟩]
  refine awCall_ctr (h0.pick (most + 1) hb (by omega) (by omega)) ?_
  rintro r M1 ⟨ct, k1, rfl, ct0, ct1, hk1, h1, u1⟩
  obtain ⟨cn, rfl⟩ := Int.eq_ofNat_of_zero_le ct0
  have hcn : cn ≤ most := by omega
  have n1 := u1.1
  simp only [List.length_append, List.length_cons, List.length_nil] at n1
  have e0 : M1[M.length]? = some (Slot.live ⟨[.slice none 0 0], true, true, 26, 1⟩) := u1.2 _ _ (by omega) (by simp)
  have e1 : M1[M.length + 1]? = some (Slot.live ⟨[], true, true, 36, 7⟩) := u1.2 _ _ (by omega) (by simp)
  have s1 : Grow g M M1 := (Grow.app g M _).trans u1.grow
  have hA1 : Acc noteR 36 (M.length + 1) M1 (.slice (some ⟨M.length + 1, 0, none⟩) 0 0) [] := ⟨_, 0, 0, rfl, rfl, .inr ⟨M.length + 1, true, rfl, Nat.le_refl _, by simpa [cellsL] using e1⟩⟩
  try simp (disch := omega) [wrap_in]
  refine awLoop_T (fun m T M' => ∃ (l : List Note) (v : Value) (k' : Nat), l.length + m ≤ cn ∧ M'[M.length]? = some (Slot.live ⟨[.slice none 0 0], true, true, 26, 1⟩) ∧ Acc noteR 36 (M.length + 1) M' v l ∧ (∀ x, x ∈ l → noteB x = true) ∧ Src g B M' k' ∧ k' + 20 * m ≤ k + 2 + 20 * cn ∧ Grow g M M' ∧ M.length + 2 ≤ M'.length ∧ look T 6 = some (iv m) ∧ look T 5 = some v ∧ look T 4 = some (.pointer (some ⟨M.length, 0, none⟩)) ∧ look T 0 = some (.pointer (some ⟨g, 0, none⟩))) cn
    ⟨[], _, k1, by simp, e0, hA1, (fun x hx => by cases hx), h1, by omega, s1, by omega, by simp, by simp, by simp, by simp⟩ ?_
  rintro m T M2 ⟨l, v, k2, hl, r0, hA, hv, h2, hk2, s2, n2, t6, t5, t4, t0⟩
  rcases m with _ | m
  · simp (disch := omega) [t6, t5, t4]
    obtain ⟨A, q, c, rfl, hq, hsl, -⟩ := hA.sl
    have hcA : A = none → c = 0 := by
      obtain ⟨_, _, _, he, -, hh⟩ := hA
      injection he with e1 e2 e3
      subst e1; subst e2; subst e3
      intro hn
      rcases hh with ⟨-, -, hh⟩ | ⟨_, _, hh, -⟩
      · exact hh
      · rw [hn] at hh; cases hh
    refine awCall_ctr ((l18Sort_a hsl (by omega) hcA hv).weaken (by omega)) ?_
    rintro r M3 ⟨l3, hA3, hp, hs, k3⟩
    have hA3' := hA3.low (B' := M.length + 1) (by omega)
    obtain ⟨A3, q3, c3, rfl, hq3, -, -⟩ := hA3.sl
    have r3 := k3.get r0
    have l3' := k3.len
    simp [sc_build, t4]
    rw [put_whole (vs := [.slice A3 q3 c3]) r3 (by omega) rfl (by simp), ow_some, cells_hr (r := ⟨[.slice A3 q3 c3], true, true, 26, 1⟩) (n := 1) (set_get (by omega)) rfl, ow_some]
    have hpl := hp.length_eq
    exact ⟨l3, _, rfl, (hA3'.set_ne (by omega)).low (by omega), by omega, fun x hx => hv x (hp.mem_iff.1 hx), hs, (s2.trans k3.growQ).new (Same.set (B := M.length) (by omega)) (Nat.le_refl _), k2, by omega, (h2.same k3.same).same (Same.set (by omega))⟩
  · have e : (0 : Int) < (m : Int) + 1 := by omega
    simp (disch := omega) [t6, t5, t4, t0, e]
    refine awCall_ctr (l18DrawNote_a h2 hb (by omega) (by omega)) ?_
    rintro _ M3 ⟨x, k3, rfl, hx, hk3, h3, g3⟩
    have r3 := g3.2 _ _ (by omega) r0
    have hA3 := g3.acc hA (by omega)
    have n3 := g3.1
    refine ⟨rfl, ?_⟩
    rw [put_box (b := b) (cs := [iv 0, iv 0, iv 0, iv 0, iv 0, iv 0, iv 0]) (vs := x.v.cells.toList) (by omega) rfl (by simp), ow_some]
    obtain ⟨M4, hM4⟩ : ∃ M' : Mem, M' = M3 ++ [Slot.live ⟨x.v.cells.toList, true, true, 36, 7⟩] := ⟨_, rfl⟩
    have b4 : M4[M3.length]? = some (Slot.live ⟨x.row, true, true, 36, 7⟩) := by rw [hM4]; exact getElem?_snoc_eq
    have r4 : M4[M.length]? = some (Slot.live ⟨[.slice none 0 0], true, true, 26, 1⟩) := by rw [hM4, List.getElem?_append_left (by omega)]; exact r3
    have hA4 : Acc noteR 36 (M.length + 1) M4 v l := by rw [hM4]; exact hA3.keeps (keeps_app _)
    have h4 : Src g B M4 k3 := by rw [hM4]; exact h3.app _
    have n4 : M4.length = M3.length + 1 := by rw [hM4]; simp
    have s4 : Grow g M M4 := by rw [hM4]; exact (s2.trans g3).trans (Grow.app _ _ _)
    rw [← hM4]
    clear hM4
    obtain ⟨A, q, c, rfl, hq, hsl, h1o⟩ := hA4.sl
    have hcx := note_cl b4
    refine awLoop_T (fun m' T M' => ∃ (i : Nat) (tw : Bool), i + m' = l.length ∧ M' = M4 ∧ look T 8 = some (.bool tw) ∧ look T 9 = some (iv i) ∧ look T 7 = some (.pointer (some ⟨M3.length, 0, none⟩)) ∧ look T 6 = some (iv (m + 1)) ∧ look T 5 = some (.slice A q c) ∧ look T 4 = some (.pointer (some ⟨M.length, 0, none⟩)) ∧ look T 0 = some (.pointer (some ⟨g, 0, none⟩))) l.length
      ⟨0, false, by omega, rfl, by simp, by simp, by simp, by simp [t6], by simp [t5], by simp [t4], by simp [t0]⟩ ?_
    rintro m' T M' ⟨i, tw, hi, rfl, t8, t9, t7, t6, t5, t4, t0⟩
    by_cases hlt : i < q
    · have e1 : (i : Int) < q := by omega
      obtain ⟨id, off, rfl, he, hc⟩ := hsl.at_ hlt
      simp (disch := omega) [t9, t5, e1, t8]
      cases tw
      · simp (disch := omega) [t5, t9, t7, t8, e1, he]
        refine awCall_det' (l18Order_a hc hcx (hv _ (el_mem (by omega))) hx) (by omega) ?_
        simp (disch := omega) [t5, t9, t7, t8, e1, he, wrap_in]
        exact lpI (m' - 1) (by omega) ⟨i + 1, decide (ordN (el l i) x = 0), by omega, rfl, by simp, by simp, by simp [t7], by simp [t6], by simp [t5], by simp [t4], by simp [t0]⟩
      · simp (disch := omega) [t5, t9, t7, t8, e1, he, wrap_in]
        exact lpI (m' - 1) (by omega) ⟨i + 1, true, by omega, rfl, by simp, by simp, by simp [t7], by simp [t6], by simp [t5], by simp [t4], by simp [t0]⟩
    · have e1 : ¬ (i : Int) < q := by omega
      simp (disch := omega) [t9, t5, e1, t8]
      cases tw
      · have cx := cells_hr (n := 7) b4 rfl
        simp (disch := omega) [t9, t5, t7, cx, Note.row]
        refine (hA4.keeps (keeps_app _)).append (R := noteR) (e := 36) (by_ := 56) (a := x) (by omega) (by simp; omega) (by omega) (by simp) (by kernel_rfl) (by simp [srcOf, noteR, Note.row]) (by rfl) (by omega) (by unfold maxLen; omega) ?_
        intro v' M5 hA5 hS5
        simp (disch := omega) [t6, wrap_in]
        have n5 := hS5.1
        simp only [List.length_append, List.length_cons, List.length_nil] at n5
        have r5 := hS5.2 M.length _ (by omega) (by rw [List.getElem?_append_left (by omega)]; exact r4)
        have hs5 := hS5.low (B' := B) (by omega)
        refine lpI m (by omega) ⟨l ++ [x], v', k3, by simp; omega, r5, hA5, fun y hy => ?_, (h4.app _).same hs5, by omega, (s4.trans (Grow.app _ _ _)).new hS5 (by omega), by omega, by simp, by simp, by simp [t4], by simp [t0]⟩
        rcases List.mem_append.1 hy with hy | hy
        · exact hv y hy
        · rw [List.mem_singleton.1 hy]; exact hx
      · simp (disch := omega) [t9, t5, t7, t6, wrap_in]
        exact lpI m (by omega) ⟨l, _, k3, by omega, r4, hA4, hv, h4, by omega, s4, by omega, by simp, by simp [t5], by simp [t4], by simp [t0]⟩
end Go.Proofs.YtodbjnngkonklaaGreat

namespace Go.Proofs.YtodbjnngkonklaaGreat
open Go.RowKit
set_option linter.unusedVariables false
set_option linter.unusedSimpArgs false
set_option maxRecDepth 100000
attribute [local simp] List.getElem?_cons_zero
attribute [local irreducible] awCond awCall awLoop awDraw ow retQ retC resQ Keeps
theorem one_b {M : Mem} {b g k B : Nat} (m : Int) (h : Src g B M k) (hb : b ≤ g) (hk : k + 2 ≤ 1099511627776) (hm : m ≤ 1099511627776) :
    Ctr Tryz.prog b 14 [.pointer (some ⟨g, 0, none⟩), iv m] M fun r M' => ∃ (x : Bool) (k' : Nat), r = .bool x ∧ k' ≤ k + 2 ∧ Src g B M' k' ∧ UpdS g M M' := by
  first | (refine ctr_fn Tryz.func14 rfl Tryz.ntmps14 Tryz.results14 rfl rfl (by simp) ?_) | (refine ctr_fnC Tryz.func14 rfl Tryz.ntmps14 Tryz.results14 rfl (by simp) ?_)
  simp
  refine awCall_ctr (h.pick m hb hk hm) ?_
  rintro r M1 ⟨x, k1, rfl, x0, x1, hk1, h1, u1⟩
  simp
  exact ⟨by omega, k1, hk1, h1, u1⟩
set_option maxHeartbeats 4000000 in
theorem l02Draw_b {M : Mem} {b g k B : Nat} (h : Src g B M k) (hb : b ≤ g) (hB : B ≤ M.length) (hk : k ≤ 1000000) :
    Ctr Tryz.prog b 116 [.pointer (some ⟨g, 0, none⟩)] M fun r M' => ∃ (f : Frac) (k' : Nat), r = f.v ∧ k' ≤ k + 10 ∧ Src g B M' k' ∧ Grow g M M' := by
  have hg := h.lt
  first | (refine ctr_fn Tryz.func116 rfl Tryz.ntmps116 Tryz.results116 rfl rfl (by simp) ?_) | (refine ctr_fnC Tryz.func116 rfl Tryz.ntmps116 Tryz.results116 rfl (by simp) ?_)
  simp
  refine awCall_ctr ((h.app _).pick 40 hb (by omega) (by omega)) ?_
  rintro _ M1 ⟨x, k1, rfl, x0, x1, hk1, h1, u1⟩
  have g1 := (Grow.app g M [.live ⟨[iv 0, iv 0], true, true, 34, 2⟩]).trans u1.grow
  have r1 : M1[M.length]? = some (.live ⟨[iv 0, iv 0], true, true, 34, 2⟩) := u1.2 _ _ (by omega) getElem?_snoc_eq
  simp (disch := omega) [wrap_in]
  refine awCall_ctr (h1.pick 12 hb (by omega) (by omega)) ?_
  rintro _ M2 ⟨y, k2, rfl, y0, y1, hk2, h2, u2⟩
  have g2 := g1.trans u2.grow
  have r2 := u2.2 _ _ (by omega) r1
  simp (disch := omega) [wrap_in]
  refine awCall_ctr (one_b 8 h2 hb (by omega) (by omega)) ?_
  rintro _ M3 ⟨t, k3, rfl, hk3, h3, u3⟩
  have g3 := g2.trans u3.grow
  have r3 := u3.2 _ _ (by omega) r2
  refine awCond_join (fun T' M' => ∃ (num den : Int) (k' : Nat), (-1000000000 ≤ num ∧ num ≤ 1000000000) ∧ (1 ≤ den ∧ den ≤ 1000000) ∧ k' ≤ k + 10 ∧ Src g B M' k' ∧ Grow g M M' ∧ M'[M.length]? = some (.live ⟨[iv 0, iv 0], true, true, 34, 2⟩) ∧ look T' 3 = some (iv num) ∧ look T' 4 = some (iv den) ∧ look T' 2 = some (.pointer (some ⟨M.length, 0, none⟩)) ∧ look T' 0 = some (.pointer (some ⟨g, 0, none⟩))) ?_ ?_ ?_
  · intro Q' hQ _
    simp
    rw [fill6, ow_some]
    try simp
    refine awCall_ctr (among_new (b := b) (M := M3) (n := 6) [1000000000, -1000000000, 355, 999999, 123456789, 0] rfl h3 hb (by omega) (by omega) (by omega) rfl (by have := g3.1; omega)) ?_
    rintro _ N1 ⟨z, c1, rfl, hz, hc1, i1, v1⟩
    have rN1 := v1.2 _ _ (by omega) r3
    have gN1 := g3.trans v1
    have hz' : -1000000000 ≤ z ∧ z ≤ 1000000000 := by simp at hz; omega
    try simp
    rw [fill5, ow_some]
    try simp
    refine awCall_ctr (among_new (b := b) (M := N1) (n := 5) [1, 7, 113, 999983, 1000000] rfl i1 hb (by omega) (by omega) (by omega) rfl (by have := gN1.1; omega)) ?_
    rintro _ N2 ⟨w, c2, rfl, hw, hc2, i2, v2⟩
    have rN2 := v2.2 _ _ (by omega) rN1
    have hw' : 1 ≤ w ∧ w ≤ 1000000 := by simp at hw; omega
    try simp
    refine hQ _ _ ⟨z, w, c2, hz', hw', by omega, i2, gN1.trans v2, rN2, by simp, by simp, by simp, by simp⟩
  · intro Q' hQ _
    try simp
    refine hQ _ _ ⟨x - 12, 1 + y, k3, by omega, by omega, by omega, h3, g3, r3, by simp, by simp, by simp, by simp⟩
  rintro T4 M4 ⟨num, den, k4, hnum, hden, hk4, h4, g4, r4, t3, t4, t2, t0⟩
  have n4 := g4.1
  simp (disch := omega) [t3, t4]
  refine awCall_det' (MakeFrac_s num den (by omega) (by omega) (by omega) (by omega)) (by omega) ?_
  simp
  rw [put_box (b := b) (cs := [iv 0, iv 0]) (vs := [iv (mkF num den).1.n, iv (mkF num den).1.d]) (by omega) rfl (by simp), ow_some]
  obtain ⟨f, hf⟩ : ∃ f, f = (mkF num den).1 := ⟨_, rfl⟩
  rw [← hf]
  obtain ⟨M5, hM5⟩ : ∃ M5 : Mem, M5 = M4 ++ [Slot.live ⟨[iv f.n, iv f.d], true, true, 34, 2⟩] := ⟨_, rfl⟩
  have g5 : Grow g M M5 := by rw [hM5]; exact g4.trans (Grow.app g M4 _)
  have h5 : Src g B M5 k4 := by rw [hM5]; exact h4.app _
  have l5 : M5.length = M4.length + 1 := by rw [hM5]; simp
  have b5 : cellsAt M5 M4.length 0 2 = some [iv f.n, iv f.d] := by rw [hM5]; simp
  have r5 : M5[M.length]? = some (.live ⟨[iv 0, iv 0], true, true, 34, 2⟩) := by rw [hM5, List.getElem?_append_left (List.getElem?_eq_some_iff.1 r4).1]; exact r4
  rw [← hM5]
  clear hM5
  have lr := (List.getElem?_eq_some_iff.1 r5).1
  have fin : ∀ f : Frac, (∃ f' k', Frac.v f = Frac.v f' ∧ k' ≤ k + 10 ∧ Src g B (M5.set M.length (.live ⟨[iv f.n, iv f.d], true, true, 34, 2⟩)) k' ∧ Grow g M (M5.set M.length (.live ⟨[iv f.n, iv f.d], true, true, 34, 2⟩))) := fun f => ⟨f, k4, rfl, hk4, h5.same (Same.set hB), by simpa using g5.1, fun i s hi hs => by rw [List.getElem?_set_ne (by have := (List.getElem?_eq_some_iff.1 hs).1; omega)]; exact g5.2 i s hi hs⟩
  by_cases hz : (mkF num den).2 = 0
  · have hp := put_whole (b := b) (vs := [iv f.n, iv f.d]) r5 (by omega) rfl (by simp)
    simp (disch := omega) [hz, b5, t2, hp]
    rw [cells_hr (r := ⟨[iv f.n, iv f.d], true, true, 34, 2⟩) (n := 2) (set_get lr) rfl, ow_some]
    obtain ⟨_, k', _, q1, q2, q3⟩ := fin f
    exact ⟨⟨f, rfl⟩, k', q1, q2, q3⟩
  · have hp := put_whole (b := b) (vs := [iv 1, iv 1]) r5 (by omega) rfl (by simp)
    simp (disch := omega) [hz, t2, fr_build2, hp]
    rw [cells_hr (r := ⟨[iv 1, iv 1], true, true, 34, 2⟩) (n := 2) (set_get lr) rfl, ow_some]
    obtain ⟨_, k', _, q1, q2, q3⟩ := fin ⟨1, 1⟩
    exact ⟨⟨⟨1, 1⟩, rfl⟩, k', q1, q2, q3⟩
end Go.Proofs.YtodbjnngkonklaaGreat

namespace Go.Proofs.YtodbjnngkonklaaGreat
open Go.RowKit
set_option linter.unusedVariables false
set_option linter.unusedSimpArgs false
set_option maxRecDepth 100000
attribute [local simp] List.getElem?_cons_zero
attribute [local irreducible] awCond awCall awLoop awDraw ow retQ retC resQ Keeps
theorem fill3 (a b c : Int) : Instr.fill (fun i => some (i, 1)) (zrow [iv 0] 3).toArray [(0, iv a), (1, iv b), (2, iv c)] = some #[iv a, iv b, iv c] :=
  fill_ints (k := .i64) [a, b, c] rfl
set_option maxHeartbeats 4000000 in
theorem l02Bent_b {M : Mem} {b g k B : Nat} (h : Src g B M k) (hb : b ≤ g) (hB : B ≤ M.length) (hk : k ≤ 100000) :
    Ctr Tryz.prog b 101 [.pointer (some ⟨g, 0, none⟩)] M fun r M' => ∃ (f : Frac) (k' : Nat), r = f.v ∧ k' ≤ k + 20 ∧ Src g B M' k' ∧ Grow g M M' := by
  have hg := h.lt
  first | (refine ctr_fn Tryz.func101 rfl Tryz.ntmps101 Tryz.results101 rfl rfl (by simp) ?_) | (refine ctr_fnC Tryz.func101 rfl Tryz.ntmps101 Tryz.results101 rfl (by simp) ?_)
  simp
  refine awCall_ctr (l02Draw_b (h.app _) hb (by simp; omega) (by omega)) ?_
  rintro _ M1 ⟨f, k1, rfl, hk1, h1, g1⟩
  have n1 := g1.1
  simp only [List.length_append, List.length_singleton] at n1
  have r1 : M1[M.length]? = some (.live ⟨[iv 0, iv 0], true, true, 34, 2⟩) := g1.2 _ _ (by omega) getElem?_snoc_eq
  have g1' : Grow g M M1 := (Grow.app g M _).trans g1
  refine ⟨rfl, ?_⟩
  rw [put_box (b := b) (cs := [iv 0, iv 0]) (vs := f.v.cells.toList) (by omega) rfl (by simp), ow_some]
  obtain ⟨M2, hM2⟩ : ∃ M' : Mem, M' = M1 ++ [Slot.live ⟨[iv f.n, iv f.d], true, true, 34, 2⟩] := ⟨_, rfl⟩
  have h2 : Src g B M2 k1 := by rw [hM2]; exact h1.app _
  have g2 : Grow g M M2 := by rw [hM2]; exact g1'.trans (Grow.app g M1 _)
  have f2 : M2[M1.length]? = some (.live ⟨[iv f.n, iv f.d], true, true, 34, 2⟩) := by rw [hM2]; exact getElem?_snoc_eq
  have r2 : M2[M.length]? = some (.live ⟨[iv 0, iv 0], true, true, 34, 2⟩) := by rw [hM2, List.getElem?_append_left (by omega)]; exact r1
  rw [show f.v.cells.toList = [iv f.n, iv f.d] from rfl, ← hM2]
  clear hM2 g1 h1 r1
  refine awCall_ctr (h2.pick 24 hb (by omega) (by omega)) ?_
  rintro _ M3 ⟨x, k3, rfl, x0, x1, hk3, h3, u3⟩
  have g3 := g2.trans u3.grow
  have f3 := u3.2 _ _ (by omega) f2
  have r3 := u3.2 _ _ (by omega) r2
  have n3 := u3.1
  clear h2 g2 f2 r2
  generalize hq : M1.length = q at *
  clear hq
  have lM := (List.getElem?_eq_some_iff.1 r3).1
  have fin : ∀ (N : Mem) (a d : Int) (k' : Nat), N[q]? = some (.live ⟨[iv a, iv d], true, true, 34, 2⟩) → N[M.length]? = some (.live ⟨[iv 0, iv 0], true, true, 34, 2⟩) → Src g B N k' → Grow g M N → k' ≤ k + 20 → cellsAt N q 0 2 = some [iv a, iv d] ∧ putCells b N M.length 0 [iv a, iv d] = some (N.set M.length (.live ⟨[iv a, iv d], true, true, 34, 2⟩)) ∧ cellsAt (N.set M.length (.live ⟨[iv a, iv d], true, true, 34, 2⟩)) M.length 0 2 = some [iv a, iv d] ∧ (∃ f' : Frac, a = f'.n ∧ d = f'.d) ∧ ∃ k' : Nat, k' ≤ k + 20 ∧ Src g B (N.set M.length (.live ⟨[iv a, iv d], true, true, 34, 2⟩)) k' ∧ Grow g M (N.set M.length (.live ⟨[iv a, iv d], true, true, 34, 2⟩)) := by
    intro N a d k' e1 e2 e3 e4 e5
    have lr := (List.getElem?_eq_some_iff.1 e2).1
    refine ⟨cells_hr (n := 2) e1 rfl, put_whole e2 (by omega) rfl (by simp), cells_hr (n := 2) (set_get lr) rfl, ⟨⟨a, d⟩, rfl, rfl⟩, k', e5, e3.same (Same.set hB), by simpa using e4.1, fun i s hi hs => ?_⟩
    rw [List.getElem?_set_ne (by have := (List.getElem?_eq_some_iff.1 hs).1; omega)]
    exact e4.2 i s hi hs
  simp (disch := omega)
  by_cases e0 : x = 0
  · simp [e0]
    rw [fill4, ow_some]
    try simp
    refine awCall_ctr (among_new (b := b) (M := M3) (n := 4) [0, -1, 1000001, -9223372036854775808] rfl h3 hb (by omega) (by omega) (by omega) rfl (by omega)) ?_
    rintro _ N1 ⟨z, c1, rfl, hz, hc1, i1, v1⟩
    have fN1 := v1.2 _ _ (by omega) f3
    have rN1 := v1.2 _ _ (by omega) r3
    have gN1 := g3.trans v1
    obtain ⟨N2, pN2, fN2, i2, gN2, lN2, w2⟩ := put_field (b := b) (vs := [iv z]) (p := 1) fN1 (by omega) (by simp) (by simp) (by omega) i1 (by omega) gN1
    have rN2 := w2 _ _ (by omega) rN1
    simp only [splice_cons, splice_nil, List.set_cons_succ, List.set_cons_zero] at fN2
    obtain ⟨q1, q2, q3, q4⟩ := fin N2 f.n z c1 fN2 rN2 i2 gN2 (by omega)
    simp (disch := omega) [pN2, q1, q2, q3]
    exact q4
  simp [e0]
  by_cases e1 : x = 1
  · simp [e1]
    rw [fill3, ow_some]
    try simp
    refine awCall_ctr (among_new (b := b) (M := M3) (n := 3) [1000000001, -1000000001, -9223372036854775808] rfl h3 hb (by omega) (by omega) (by omega) rfl (by omega)) ?_
    rintro _ N1 ⟨z, c1, rfl, hz, hc1, i1, v1⟩
    have fN1 := v1.2 _ _ (by omega) f3
    have rN1 := v1.2 _ _ (by omega) r3
    have gN1 := g3.trans v1
    obtain ⟨N2, pN2, fN2, i2, gN2, lN2, w2⟩ := put_field (b := b) (vs := [iv z]) (p := 0) fN1 (by omega) (by simp) (by simp) (by omega) i1 (by omega) gN1
    have rN2 := w2 _ _ (by omega) rN1
    simp only [splice_cons, splice_nil, List.set_cons_succ, List.set_cons_zero] at fN2
    obtain ⟨q1, q2, q3, q4⟩ := fin N2 z f.d c1 fN2 rN2 i2 gN2 (by omega)
    simp (disch := omega) [pN2, q1, q2, q3]
    exact q4
  simp [e1]
  by_cases e2 : x = 2
  · obtain ⟨N1, pN1, fN1, i1, gN1, lN1, w1⟩ := put_field (b := b) (vs := [iv (IntKind.i64.wrap (f.n * 2))]) (p := 0) f3 (by omega) (by simp) (by simp) (by omega) h3 (by omega) g3
    have rN1 := w1 _ _ (by omega) r3
    simp only [splice_cons, splice_nil, List.set_cons_succ, List.set_cons_zero] at fN1
    obtain ⟨N2, pN2, fN2, i2, gN2, lN2, w2⟩ := put_field (b := b) (vs := [iv (IntKind.i64.wrap (f.d * 2))]) (p := 1) fN1 (by omega) (by simp) (by simp) (by omega) i1 (by omega) gN1
    have rN2 := w2 _ _ (by omega) rN1
    simp only [splice_cons, splice_nil, List.set_cons_succ, List.set_cons_zero] at fN2
    obtain ⟨q1, q2, q3, q4⟩ := fin N2 _ _ k3 fN2 rN2 i2 gN2 (by omega)
    simp (disch := omega) [e2, cell_hr f3 0, pN1, cell_hr fN1 1, pN2, q1, q2, q3]
    exact q4
  obtain ⟨q1, q2, q3, q4⟩ := fin M3 _ _ k3 f3 r3 h3 g3 (by omega)
  simp (disch := omega) [e2, q1, q2, q3]
  exact q4
end Go.Proofs.YtodbjnngkonklaaGreat

namespace Go.Proofs.YtodbjnngkonklaaGreat
open Go.RowKit
set_option linter.unusedVariables false
set_option linter.unusedSimpArgs false
set_option maxRecDepth 100000
attribute [local simp] List.getElem?_cons_zero
attribute [local irreducible] awCond awCall awLoop awDraw ow retQ retC resQ Keeps
theorem fill2I (a b : Int) : Instr.fill (fun i => some (i, 1)) (zrow [iv 0] 2).toArray [(0, iv a), (1, iv b)] = some #[iv a, iv b] :=
  fill_ints (k := .i64) [a, b] rfl
/-- The result's box, filled. -/
theorem fr_end {b g B : Nat} {M N : Mem} {f : Frac} {k k0 : Nat} (hb : b ≤ M.length) (hB : B ≤ M.length) (e2 : N[M.length]? = some (.live ⟨[iv 0, iv 0], true, true, 34, 2⟩)) (e3 : Src g B N k) (e4 : Grow g M N) (e5 : k ≤ k0) :
    putCells b N M.length 0 [iv f.n, iv f.d] = some (N.set M.length (.live ⟨[iv f.n, iv f.d], true, true, 34, 2⟩)) ∧ cellsAt (N.set M.length (.live ⟨[iv f.n, iv f.d], true, true, 34, 2⟩)) M.length 0 2 = some [iv f.n, iv f.d] ∧ (∃ f' : Frac, f.n = f'.n ∧ f.d = f'.d) ∧ ∃ k' : Nat, k' ≤ k0 ∧ Src g B (N.set M.length (.live ⟨[iv f.n, iv f.d], true, true, 34, 2⟩)) k' ∧ Grow g M (N.set M.length (.live ⟨[iv f.n, iv f.d], true, true, 34, 2⟩)) := by
  have lr := (List.getElem?_eq_some_iff.1 e2).1
  refine ⟨put_whole e2 (by omega) rfl (by simp), cells_hr (n := 2) (set_get lr) rfl, ⟨f, rfl, rfl⟩, k, e5, e3.same (Same.set hB), by simpa using e4.1, fun i s hi hs => ?_⟩
  rw [List.getElem?_set_ne (by have := (List.getElem?_eq_some_iff.1 hs).1; omega)]
  exact e4.2 i s hi hs
set_option maxHeartbeats 4000000 in
theorem l17BentBeat_b {M : Mem} {b g k B : Nat} (h : Src g B M k) (hb : b ≤ g) (hB : B ≤ M.length) (hk : k ≤ 90000) :
    Ctr Tryz.prog b 74 [.pointer (some ⟨g, 0, none⟩)] M fun r M' => ∃ (f : Frac) (k' : Nat), r = f.v ∧ k' ≤ k + 24 ∧ Src g B M' k' ∧ Grow g M M' := by
  have hg := h.lt
  first | (refine ctr_fn Tryz.func74 rfl Tryz.ntmps74 Tryz.results74 rfl rfl (by simp) ?_) | (refine ctr_fnC Tryz.func74 rfl Tryz.ntmps74 Tryz.results74 rfl (by simp) ?_)
  simp
  refine awCall_ctr ((h.app _).pick 14 hb (by omega) (by omega)) ?_
  rintro _ M1 ⟨x, k1, rfl, x0, x1, hk1, h1, u1⟩
  have g1 : Grow g M M1 := (Grow.app g M _).trans u1.grow
  have r1 : M1[M.length]? = some (.live ⟨[iv 0, iv 0], true, true, 34, 2⟩) := u1.2 _ _ (by omega) getElem?_snoc_eq
  have n1 := u1.1
  simp only [List.length_append, List.length_singleton] at n1
  clear u1
  simp
  by_cases e0 : x = 0
  · simp [e0]
    refine awCall_ctr (l02Bent_b h1 hb (by omega) (by omega)) ?_
    rintro _ N1 ⟨f, c1, rfl, hc1, i1, v1⟩
    have rN1 := v1.2 _ _ (by omega) r1
    obtain ⟨q1, q2, q3⟩ := fr_end (b := b) (f := f) (k0 := k + 24) (by omega) hB rN1 i1 (g1.trans v1) (by omega)
    simp (disch := omega) [q1, q2]
    exact q3
  simp [e0]
  by_cases e1 : x = 1
  · simp [e1]
    rw [fill4, ow_some]
    try simp
    refine awCall_ctr (among_new (b := b) (M := M1) (n := 4) [1000, 1001, 2001, -1] rfl h1 hb (by omega) (by omega) (by omega) rfl (by omega)) ?_
    rintro _ N1 ⟨z, c1, rfl, hz, hc1, i1, v1⟩
    have rN1 := v1.2 _ _ (by omega) r1
    have gN1 := g1.trans v1
    have nN1 := v1.1
    try simp
    rw [fill2I, ow_some]
    try simp
    refine awCall_ctr (among_new (b := b) (M := N1) (n := 2) [1, 2] rfl i1 hb (by omega) (by omega) (by omega) rfl (by omega)) ?_
    rintro _ N2 ⟨w, c2, rfl, hw, hc2, i2, v2⟩
    have rN2 := v2.2 _ _ (by omega) rN1
    have gN2 := gN1.trans v2
    have nN2 := v2.1
    have hz' : -1 ≤ z ∧ z ≤ 2001 := by simp at hz; omega
    have hw' : 1 ≤ w ∧ w ≤ 2 := by simp at hw; omega
    try simp
    refine awCall_det' (MakeFrac_s z w (by omega) (by omega) (by omega) (by omega)) (by omega) ?_
    simp
    obtain ⟨f, hf⟩ : ∃ f, f = (mkF z w).1 := ⟨_, rfl⟩
    rw [← hf]
    rw [put_box (b := b) (cs := [iv 0, iv 0]) (vs := [iv f.n, iv f.d]) (by omega) rfl (by simp), ow_some]
    obtain ⟨N3, hN3⟩ : ∃ N3 : Mem, N3 = N2 ++ [Slot.live ⟨[iv f.n, iv f.d], true, true, 34, 2⟩] := ⟨_, rfl⟩
    have gN3 : Grow g M N3 := by rw [hN3]; exact gN2.trans (Grow.app g N2 _)
    have i3 : Src g B N3 c2 := by rw [hN3]; exact i2.app _
    have b3 : cellsAt N3 N2.length 0 2 = some [iv f.n, iv f.d] := by rw [hN3]; simp
    have rN3 : N3[M.length]? = some (.live ⟨[iv 0, iv 0], true, true, 34, 2⟩) := by rw [hN3, List.getElem?_append_left (List.getElem?_eq_some_iff.1 rN2).1]; exact rN2
    rw [← hN3]
    clear hN3
    obtain ⟨q1, q2, q3⟩ := fr_end (b := b) (f := f) (k0 := k + 24) (by omega) hB rN3 i3 gN3 (by omega)
    simp (disch := omega) [b3, q1, q2]
    exact q3
  simp [e1]
  by_cases e2 : x = 2
  · simp [e2]
    refine awCall_ctr (h1.pick 5000 hb (by omega) (by omega)) ?_
    rintro _ N1 ⟨z, c1, rfl, z0, z1, hc1, i1, v1⟩
    have rN1 := v1.2 _ _ (by omega) r1
    obtain ⟨q1, q2, q3⟩ := fr_end (b := b) (f := ⟨1 + z, 999983⟩) (k0 := k + 24) (by omega) hB rN1 i1 (g1.trans v1.grow) (by omega)
    simp (disch := omega) [wrap_in, fr_build2, q1, q2]
    exact q3
  simp [e2]
  refine awCall_ctr (l02Beat_a 10 (by omega) (by omega) h1 hb (by omega) (by omega)) ?_
  rintro _ N1 ⟨f, c1, rfl, hf, hc1, i1, v1⟩
  have rN1 := v1.2 _ _ (by omega) r1
  obtain ⟨q1, q2, q3⟩ := fr_end (b := b) (f := f) (k0 := k + 24) (by omega) hB rN1 i1 (g1.trans v1) (by omega)
  simp (disch := omega) [q1, q2]
  exact q3
end Go.Proofs.YtodbjnngkonklaaGreat

namespace Go.Proofs.YtodbjnngkonklaaGreat
open Go.RowKit
set_option linter.unusedVariables false
set_option linter.unusedSimpArgs false
set_option maxRecDepth 100000
attribute [local simp] List.getElem?_cons_zero
attribute [local irreducible] awCond awCall awLoop awDraw ow retQ retC resQ Keeps
/-- The box of a drawn note is loaded into the result's. -/
theorem nt_end {b g B q : Nat} {M N : Mem} {n : Note} {k k0 : Nat} (hb : b ≤ M.length) (hB : B ≤ M.length) (e1 : N[q]? = some (.live ⟨[iv n.an, iv n.ad, iv n.ln, iv n.ld, iv n.k, iv n.u, iv n.o], true, true, 36, 7⟩)) (e2 : N[M.length]? = some (.live ⟨[iv 0, iv 0, iv 0, iv 0, iv 0, iv 0, iv 0], true, true, 36, 7⟩)) (e3 : Src g B N k) (e4 : Grow g M N) (e5 : k ≤ k0) :
    cellsAt N q 0 7 = some [iv n.an, iv n.ad, iv n.ln, iv n.ld, iv n.k, iv n.u, iv n.o] ∧
    putCells b N M.length 0 [iv n.an, iv n.ad, iv n.ln, iv n.ld, iv n.k, iv n.u, iv n.o] = some (N.set M.length (.live ⟨[iv n.an, iv n.ad, iv n.ln, iv n.ld, iv n.k, iv n.u, iv n.o], true, true, 36, 7⟩)) ∧ cellsAt (N.set M.length (.live ⟨[iv n.an, iv n.ad, iv n.ln, iv n.ld, iv n.k, iv n.u, iv n.o], true, true, 36, 7⟩)) M.length 0 7 = some [iv n.an, iv n.ad, iv n.ln, iv n.ld, iv n.k, iv n.u, iv n.o] ∧
    (∃ n' : Note, n.an = n'.an ∧ n.ad = n'.ad ∧ n.ln = n'.ln ∧ n.ld = n'.ld ∧ n.k = n'.k ∧ n.u = n'.u ∧ n.o = n'.o) ∧ ∃ k' : Nat, k' ≤ k0 ∧ Src g B (N.set M.length (.live ⟨[iv n.an, iv n.ad, iv n.ln, iv n.ld, iv n.k, iv n.u, iv n.o], true, true, 36, 7⟩)) k' ∧ Grow g M (N.set M.length (.live ⟨[iv n.an, iv n.ad, iv n.ln, iv n.ld, iv n.k, iv n.u, iv n.o], true, true, 36, 7⟩)) := by
  have lr := (List.getElem?_eq_some_iff.1 e2).1
  refine ⟨cells_hr (n := 7) e1 rfl, put_whole e2 (by omega) rfl (by simp), cells_hr (n := 7) (set_get lr) rfl, ⟨n, rfl, rfl, rfl, rfl, rfl, rfl, rfl⟩, k, e5, e3.same (Same.set hB), by simpa using e4.1, fun i s hi hs => ?_⟩
  rw [List.getElem?_set_ne (by have := (List.getElem?_eq_some_iff.1 hs).1; omega)]
  exact e4.2 i s hi hs
set_option maxHeartbeats 4000000 in
theorem l18BentNote_b {M : Mem} {b g k B : Nat} (h : Src g B M k) (hb : b ≤ g) (hB : B ≤ M.length) (hk : k ≤ 80000) :
    Ctr Tryz.prog b 40 [.pointer (some ⟨g, 0, none⟩)] M fun r M' => ∃ (n : Note) (k' : Nat), r = n.v ∧ k' ≤ k + 50 ∧ Src g B M' k' ∧ Grow g M M' := by
  have hg := h.lt
  first | (refine ctr_fn Tryz.func40 rfl Tryz.ntmps40 Tryz.results40 rfl rfl (by simp) ?_) | (refine ctr_fnC Tryz.func40 rfl Tryz.ntmps40 Tryz.results40 rfl (by simp) ?_)
  simp
  refine awCall_ctr (l18DrawNote_m 8 (by omega) (by omega) (h.app _) hb (by simp; omega) (by omega)) ?_
  rintro _ M0 ⟨n, k0, rfl, hnB, hk0, h0, u0⟩
  have r0 : M0[M.length]? = some (.live ⟨[iv 0, iv 0, iv 0, iv 0, iv 0, iv 0, iv 0], true, true, 36, 7⟩) := u0.2 _ _ (by omega) getElem?_snoc_eq
  have n0 := u0.1
  simp only [List.length_append, List.length_singleton] at n0
  have g0 : Grow g M M0 := (Grow.app g M _).trans u0
  refine ⟨rfl, ?_⟩
  rw [put_box (b := b) (cs := [iv 0, iv 0, iv 0, iv 0, iv 0, iv 0, iv 0]) (vs := n.v.cells.toList) (by omega) rfl (by simp), ow_some]
  rw [show n.v.cells.toList = [iv n.an, iv n.ad, iv n.ln, iv n.ld, iv n.k, iv n.u, iv n.o] from rfl]
  obtain ⟨M1, hM1⟩ : ∃ M' : Mem, M' = M0 ++ [Slot.live ⟨[iv n.an, iv n.ad, iv n.ln, iv n.ld, iv n.k, iv n.u, iv n.o], true, true, 36, 7⟩] := ⟨_, rfl⟩
  have h1 : Src g B M1 k0 := by rw [hM1]; exact h0.app _
  have g1 : Grow g M M1 := by rw [hM1]; exact g0.trans (Grow.app g M0 _)
  have f1 : M1[M0.length]? = some (.live ⟨[iv n.an, iv n.ad, iv n.ln, iv n.ld, iv n.k, iv n.u, iv n.o], true, true, 36, 7⟩) := by rw [hM1]; exact getElem?_snoc_eq
  have r1 : M1[M.length]? = some (.live ⟨[iv 0, iv 0, iv 0, iv 0, iv 0, iv 0, iv 0], true, true, 36, 7⟩) := by rw [hM1, List.getElem?_append_left (by omega)]; exact r0
  have n1 : M1.length = M0.length + 1 := by rw [hM1]; simp
  rw [← hM1]
  clear hM1 g0 h0 r0 u0
  generalize hq : M0.length = q at *
  clear hq
  refine awCall_ctr (h1.pick 14 hb (by omega) (by omega)) ?_
  rintro _ M2 ⟨x, k2, rfl, x0, x1, hk2, h2, u2⟩
  have g2 := g1.trans u2.grow
  have f2 := u2.2 _ _ (by omega) f1
  have r2 := u2.2 _ _ (by omega) r1
  have n2 := u2.1
  clear u2 h1 g1 f1 r1
  simp
  by_cases e0 : x = 0
  · simp [e0]
    refine awCall_ctr (l17BentBeat_b h2 hb (by omega) (by omega)) ?_
    rintro _ N1 ⟨f, c1, rfl, hc1, i1, v1⟩
    have fN1 := v1.2 _ _ (by omega) f2
    have rN1 := v1.2 _ _ (by omega) r2
    obtain ⟨N2, pN2, fN2, i2, gN2, lN2, w2⟩ := put_field (b := b) (vs := [iv f.n, iv f.d]) (p := 0) fN1 (by omega) (by simp) (by simp) (by omega) i1 (by omega) (g2.trans v1)
    have rN2 := w2 _ _ (by omega) rN1
    simp only [splice_cons, splice_nil, List.set_cons_succ, List.set_cons_zero] at fN2
    obtain ⟨q1, q2, q3, q4⟩ := nt_end (b := b) (k0 := k + 50) (n := ⟨f.n, f.d, n.ln, n.ld, n.k, n.u, n.o⟩) (by omega) hB fN2 rN2 i2 gN2 (by omega)
    simp (disch := omega) [pN2, q1, q2, q3]
    exact q4
  simp [e0]
  by_cases e1 : x = 1
  · simp [e1]
    refine awCall_ctr (l17BentBeat_b h2 hb (by omega) (by omega)) ?_
    rintro _ N1 ⟨f, c1, rfl, hc1, i1, v1⟩
    have fN1 := v1.2 _ _ (by omega) f2
    have rN1 := v1.2 _ _ (by omega) r2
    obtain ⟨N2, pN2, fN2, i2, gN2, lN2, w2⟩ := put_field (b := b) (vs := [iv f.n, iv f.d]) (p := 2) fN1 (by omega) (by simp) (by simp) (by omega) i1 (by omega) (g2.trans v1)
    have rN2 := w2 _ _ (by omega) rN1
    simp only [splice_cons, splice_nil, List.set_cons_succ, List.set_cons_zero] at fN2
    obtain ⟨q1, q2, q3, q4⟩ := nt_end (b := b) (k0 := k + 50) (n := ⟨n.an, n.ad, f.n, f.d, n.k, n.u, n.o⟩) (by omega) hB fN2 rN2 i2 gN2 (by omega)
    simp (disch := omega) [pN2, q1, q2, q3]
    exact q4
  simp [e1]
  by_cases e2 : x = 2
  · simp [e2]
    rw [fill4, ow_some]
    try simp
    refine awCall_ctr (among_new (b := b) (M := M2) (n := 4) [-1, 0, 127, 128] rfl h2 hb (by omega) (by omega) (by omega) rfl (by omega)) ?_
    rintro _ N1 ⟨z, c1, rfl, hz, hc1, i1, v1⟩
    have fN1 := v1.2 _ _ (by omega) f2
    have rN1 := v1.2 _ _ (by omega) r2
    obtain ⟨N2, pN2, fN2, i2, gN2, lN2, w2⟩ := put_field (b := b) (vs := [iv z]) (p := 4) fN1 (by omega) (by simp) (by simp) (by omega) i1 (by omega) (g2.trans v1)
    have rN2 := w2 _ _ (by omega) rN1
    simp only [splice_cons, splice_nil, List.set_cons_succ, List.set_cons_zero] at fN2
    obtain ⟨q1, q2, q3, q4⟩ := nt_end (b := b) (k0 := k + 50) (n := ⟨n.an, n.ad, n.ln, n.ld, z, n.u, n.o⟩) (by omega) hB fN2 rN2 i2 gN2 (by omega)
    simp (disch := omega) [pN2, q1, q2, q3]
    exact q4
  simp [e2]
  by_cases e3 : x = 3
  · simp [e3]
    rw [fill5, ow_some]
    try simp
    refine awCall_ctr (among_new (b := b) (M := M2) (n := 5) [0, 1, 127, 128, -1] rfl h2 hb (by omega) (by omega) (by omega) rfl (by omega)) ?_
    rintro _ N1 ⟨z, c1, rfl, hz, hc1, i1, v1⟩
    have fN1 := v1.2 _ _ (by omega) f2
    have rN1 := v1.2 _ _ (by omega) r2
    obtain ⟨N2, pN2, fN2, i2, gN2, lN2, w2⟩ := put_field (b := b) (vs := [iv z]) (p := 5) fN1 (by omega) (by simp) (by simp) (by omega) i1 (by omega) (g2.trans v1)
    have rN2 := w2 _ _ (by omega) rN1
    simp only [splice_cons, splice_nil, List.set_cons_succ, List.set_cons_zero] at fN2
    obtain ⟨q1, q2, q3, q4⟩ := nt_end (b := b) (k0 := k + 50) (n := ⟨n.an, n.ad, n.ln, n.ld, n.k, z, n.o⟩) (by omega) hB fN2 rN2 i2 gN2 (by omega)
    simp (disch := omega) [pN2, q1, q2, q3]
    exact q4
  simp [e3]
  by_cases e4 : x = 4
  · simp [e4]
    rw [fill3, ow_some]
    try simp
    refine awCall_ctr (among_new (b := b) (M := M2) (n := 3) [-1, 15, 16] rfl h2 hb (by omega) (by omega) (by omega) rfl (by omega)) ?_
    rintro _ N1 ⟨z, c1, rfl, hz, hc1, i1, v1⟩
    have fN1 := v1.2 _ _ (by omega) f2
    have rN1 := v1.2 _ _ (by omega) r2
    obtain ⟨N2, pN2, fN2, i2, gN2, lN2, w2⟩ := put_field (b := b) (vs := [iv z]) (p := 6) fN1 (by omega) (by simp) (by simp) (by omega) i1 (by omega) (g2.trans v1)
    have rN2 := w2 _ _ (by omega) rN1
    simp only [splice_cons, splice_nil, List.set_cons_succ, List.set_cons_zero] at fN2
    obtain ⟨q1, q2, q3, q4⟩ := nt_end (b := b) (k0 := k + 50) (n := ⟨n.an, n.ad, n.ln, n.ld, n.k, n.u, z⟩) (by omega) hB fN2 rN2 i2 gN2 (by omega)
    simp (disch := omega) [pN2, q1, q2, q3]
    exact q4
  obtain ⟨q1, q2, q3, q4⟩ := nt_end (b := b) (k0 := k + 50) (n := n) (by omega) hB f2 r2 h2 g2 (by omega)
  simp (disch := omega) [e4, q1, q2, q3]
  exact q4
end Go.Proofs.YtodbjnngkonklaaGreat

namespace Go.Proofs.YtodbjnngkonklaaGreat
open Go.RowKit
set_option linter.unusedVariables false
set_option linter.unusedSimpArgs false
set_option maxRecDepth 100000
attribute [local simp] List.getElem?_cons_zero
attribute [local irreducible] awCond awCall awLoop awDraw ow retQ retC resQ Keeps
theorem pt_build1 (a : Int) : Instr.fill (fun x => [(0, 1), (1, 1), (2, 1)][x]?) #[iv 0, iv 0, iv 0] [(0, iv a)] = some #[iv a, iv 0, iv 0] := by rfl
theorem pt_build3 (a : Int) : Instr.fill (fun x => [(0, 1), (1, 1), (2, 1)][x]?) #[iv 0, iv 0, iv 0] [(2, iv a)] = some #[iv 0, iv 0, iv a] := by rfl
theorem fill7I (a b c d e f g : Int) : Instr.fill (fun i => some (i, 1)) (zrow [iv 0] 7).toArray [(0, iv a), (1, iv b), (2, iv c), (3, iv d), (4, iv e), (5, iv f), (6, iv g)] = some #[iv a, iv b, iv c, iv d, iv e, iv f, iv g] :=
  fill_ints (k := .i64) [a, b, c, d, e, f, g] rfl
theorem fill10I (a b c d e f g h i j : Int) : Instr.fill (fun i => some (i, 1)) (zrow [iv 0] 10).toArray [(0, iv a), (1, iv b), (2, iv c), (3, iv d), (4, iv e), (5, iv f), (6, iv g), (7, iv h), (8, iv i), (9, iv j)] = some #[iv a, iv b, iv c, iv d, iv e, iv f, iv g, iv h, iv i, iv j] :=
  fill_ints (k := .i64) [a, b, c, d, e, f, g, h, i, j] rfl
theorem pt_end {b g B : Nat} {M N : Mem} {p : Pitch} {k k0 : Nat} (hb : b ≤ M.length) (hB : B ≤ M.length) (e2 : N[M.length]? = some (.live ⟨[iv 0, iv 0, iv 0], true, true, 62, 3⟩)) (e3 : Src g B N k) (e4 : Grow g M N) (e5 : k ≤ k0) :
    putCells b N M.length 0 [iv p.s, iv p.a, iv p.o] = some (N.set M.length (.live ⟨[iv p.s, iv p.a, iv p.o], true, true, 62, 3⟩)) ∧ cellsAt (N.set M.length (.live ⟨[iv p.s, iv p.a, iv p.o], true, true, 62, 3⟩)) M.length 0 3 = some [iv p.s, iv p.a, iv p.o] ∧ (∃ p' : Pitch, p.s = p'.s ∧ p.a = p'.a ∧ p.o = p'.o) ∧ ∃ k' : Nat, k' ≤ k0 ∧ Src g B (N.set M.length (.live ⟨[iv p.s, iv p.a, iv p.o], true, true, 62, 3⟩)) k' ∧ Grow g M (N.set M.length (.live ⟨[iv p.s, iv p.a, iv p.o], true, true, 62, 3⟩)) := by
  have lr := (List.getElem?_eq_some_iff.1 e2).1
  refine ⟨put_whole e2 (by omega) rfl (by simp), cells_hr (n := 3) (set_get lr) rfl, ⟨p, rfl, rfl, rfl⟩, k, e5, e3.same (Same.set hB), by simpa using e4.1, fun i s hi hs => ?_⟩
  rw [List.getElem?_set_ne (by have := (List.getElem?_eq_some_iff.1 hs).1; omega)]
  exact e4.2 i s hi hs
set_option maxHeartbeats 4000000 in
theorem l16Draw_b {M : Mem} {b g k B : Nat} (h : Src g B M k) (hb : b ≤ g) (hB : B ≤ M.length) (hk : k ≤ 1000000) :
    Ctr Tryz.prog b 82 [.pointer (some ⟨g, 0, none⟩)] M fun r M' => ∃ (p : Pitch) (k' : Nat), r = p.v ∧ k' ≤ k + 6 ∧ Src g B M' k' ∧ Grow g M M' := by
  have hg := h.lt
  first | (refine ctr_fn Tryz.func82 rfl Tryz.ntmps82 Tryz.results82 rfl rfl (by simp) ?_) | (refine ctr_fnC Tryz.func82 rfl Tryz.ntmps82 Tryz.results82 rfl (by simp) ?_)
  simp
  refine awCall_ctr ((h.app _).pick 7 hb (by omega) (by omega)) ?_
  rintro _ M1 ⟨x, k1, rfl, x0, x1, hk1, h1, u1⟩
  have g1 : Grow g M M1 := (Grow.app g M _).trans u1.grow
  have r1 : M1[M.length]? = some (.live ⟨[iv 0, iv 0, iv 0], true, true, 62, 3⟩) := u1.2 _ _ (by omega) getElem?_snoc_eq
  have n1 := u1.1
  simp only [List.length_append, List.length_singleton] at n1
  clear u1
  simp [pt_build1]
  rw [put_box (b := b) (cs := [iv 0, iv 0, iv 0]) (vs := [iv x, iv 0, iv 0]) (by omega) rfl (by simp), ow_some]
  obtain ⟨M2, hM2⟩ : ∃ M' : Mem, M' = M1 ++ [Slot.live ⟨[iv x, iv 0, iv 0], true, true, 62, 3⟩] := ⟨_, rfl⟩
  have h2 : Src g B M2 k1 := by rw [hM2]; exact h1.app _
  have g2 : Grow g M M2 := by rw [hM2]; exact g1.trans (Grow.app g M1 _)
  have f2 : M2[M1.length]? = some (.live ⟨[iv x, iv 0, iv 0], true, true, 62, 3⟩) := by rw [hM2]; exact getElem?_snoc_eq
  have r2 : M2[M.length]? = some (.live ⟨[iv 0, iv 0, iv 0], true, true, 62, 3⟩) := by rw [hM2, List.getElem?_append_left (by omega)]; exact r1
  have n2 : M2.length = M1.length + 1 := by rw [hM2]; simp
  rw [← hM2]
  clear hM2 h1 g1 r1
  generalize hq : M1.length = q at *
  clear hq
  rw [fill7I, ow_some]
  try simp
  refine awCall_ctr (among_new (b := b) (M := M2) (n := 7) [0, 0, 0, 1, -1, 2, -2] rfl h2 hb (by omega) (by omega) (by omega) rfl (by omega)) ?_
  rintro _ M3 ⟨y, k3, rfl, hy, hk3, h3, u3⟩
  obtain ⟨M4, p4, f4, h4, g4, n4, w4⟩ := put_field (b := b) (vs := [iv y]) (p := 1) (u3.2 _ _ (by omega) f2) (by omega) (by simp) (by simp) (by omega) h3 (by omega) (g2.trans u3)
  have r4 := w4 _ _ (by omega) (u3.2 _ _ (by omega) r2)
  simp only [splice_cons, splice_nil, List.set_cons_succ, List.set_cons_zero] at f4
  have n3 := u3.1
  clear f2 r2 g2 h2
  simp (disch := omega) [p4]
  rw [fill10I, ow_some]
  try simp
  refine awCall_ctr (among_new (b := b) (M := M4) (n := 10) [4, 4, 4, 3, 5, 2, 6, -1, 0, 9] rfl h4 hb (by omega) (by omega) (by omega) rfl (by omega)) ?_
  rintro _ M5 ⟨z, k5, rfl, hz, hk5, h5, u5⟩
  obtain ⟨M6, p6, f6, h6, g6, n6, w6⟩ := put_field (b := b) (vs := [iv z]) (p := 2) (u5.2 _ _ (by omega) f4) (by omega) (by simp) (by simp) (by omega) h5 (by omega) (g4.trans u5)
  have r6 := w6 _ _ (by omega) (u5.2 _ _ (by omega) r4)
  simp only [splice_cons, splice_nil, List.set_cons_succ, List.set_cons_zero] at f6
  have n5 := u5.1
  simp (disch := omega) [p6, cells_hr (n := 3) f6 rfl]
  refine awCall_det' (l16Ok_s ⟨x, y, z⟩) (by omega) ?_
  by_cases hB2 : pitchB ⟨x, y, z⟩ = true
  · obtain ⟨q1, q2, q3⟩ := pt_end (b := b) (p := ⟨x, y, z⟩) (k0 := k + 6) (by omega) hB r6 h6 g6 (by omega)
    simp (disch := omega) [hB2, cells_hr (n := 3) f6 rfl, q1, q2]
    exact q3
  · obtain ⟨q1, q2, q3⟩ := pt_end (b := b) (p := ⟨0, 0, 4⟩) (k0 := k + 6) (by omega) hB r6 h6 g6 (by omega)
    simp (disch := omega) [hB2, pt_build3, q1, q2]
    exact q3
end Go.Proofs.YtodbjnngkonklaaGreat
