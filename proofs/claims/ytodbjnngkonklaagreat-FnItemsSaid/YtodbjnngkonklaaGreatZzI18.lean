/- Parts of the proof, together: What items play: the reference's flat items. Draws: scores of many notes. Draws: bent scores. What items play: the reference's FlattenItems. No conditions. -/
import Derived.Test.YtodbjnngkonklaaGreatZzI13
import Derived.Test.YtodbjnngkonklaaGreatZzI14
import Derived.Test.YtodbjnngkonklaaGreatZzI17
import Derived.Test.YtodbjnngkonklaaGreatZzI15
namespace Go.Proofs.YtodbjnngkonklaaGreat
open Go.RowKit
set_option linter.unusedVariables false
set_option linter.unusedSimpArgs false
set_option maxRecDepth 100000
attribute [local simp] List.getElem?_cons_zero
attribute [local irreducible] awCond awCall awLoop awDraw ow retQ retC resQ Keeps
def PitOk (x : Item) : Prop := x.ps.length ≤ 6 ∧ ∀ i, i < x.ps.length → pitchB (el x.ps i) = true
theorem itemB_pit {x : Item} (h : itemB x = true) : PitOk x := ⟨itemB_ps h, itemB_pb h⟩
theorem el_set_neF {α : Type} [Inhabited α] {l : List α} {j q : Nat} {x : α} (h : j ≠ q) : el (l.set j x) q = el l q := by simp [el, List.getElem?_set_ne h]
theorem el_set_eqF {α : Type} [Inhabited α] {l : List α} {j : Nat} {x : α} (h : j < l.length) : el (l.set j x) j = x := by simp [el, h]
theorem awLoop_joinR {P : Program} {b n id : Nat} {F : (Ex → St → Prop) → St → Prop} {Y : Code} {Q : Ex → St → Prop} {T : List (Nat × Value)} {M : Mem} (J : List (Nat × Value) → Mem → Prop)
    (h1 : ∀ Q' : Ex → St → Prop, (∀ T' M', J T' M' → Q' .normal ⟨n, T', M'⟩) → (∀ S, Q .ret S → Q' .ret S) → awLoop F (sBlock id Q' tk) ⟨n, T, M⟩)
    (h3 : ∀ T' M', J T' M' → sAw P b Y Q ⟨n, T', M'⟩) : awLoop F (sBlock id (sThen P b Y Q tk) tk) ⟨n, T, M⟩ :=
  h1 _ (fun T' M' hJ => by rw [sThen_normal]; exact h3 T' M' hJ) fun S h => by rw [sThen_ret]; exact h
theorem pit_src {M : Mem} {A : Option Addr} {n c : Nat} {l : List Pitch} (h : Sl pitchR M A n l) (hc : A = none → c = 0) : srcOf Tryz.prog M 3 56 (.slice A n c) = some (l.length, cellsL pitchR l) := by
  have hl := h.1
  rcases A with _ | ad
  · have h0 : n = 0 := by
      rcases Nat.eq_zero_or_pos n with e | e
      · exact e
      · obtain ⟨_, _, e', _⟩ := h.2 e
        cases e'
    subst h0
    rw [nil_src Tryz.underlying56 hc, List.eq_nil_of_length_eq_zero hl]
    rfl
  · exact h.src (by omega) ⟨_, Tryz.underlying56⟩
theorem pit_clone {b B n c : Nat} {S : St} {A : Option Addr} {v : Value} {l : List Pitch} {K : Value → Mem → Prop} (hl : Sl pitchR S.M A n l) (hc : A = none → c = 0) (hA : Acc pitchR 62 B S.M v []) (hb : b ≤ B) (hB : B ≤ S.M.length) (hn : n ≤ 1048576) (hK : ∀ v' M', Acc pitchR 62 B M' v' l → Same B S.M M' → K v' M') : appendK Tryz.prog b S K 56 56 v (.slice A n c) := by
  have hll := hl.1
  refine hA.extend (ls := l) (by_ := 24) hb hB (by simp) (by kernel_rfl) (pit_src hl hc) (pitch_one _) (by simp; omega) (by unfold maxLen; simp; omega) ?_
  intro v' M' h1 h2
  exact hK v' M' h1 h2
def FlatToS (N : Nat) : Prop := ∀ (M : Mem) (A : Option Addr) (n c : Nat) (l : List Item) (lo hi d : Nat), SlP itemP lo hi M A n l → n ≤ 80 → d ≤ 3 → scanI d l = true → n < N →
  Ctr Tryz.prog M.length 76 [.slice A n c] M fun r M' => ∃ v e o, r = .tuple #[v, iv e] ∧ Keeps M M' ∧ Tab itN M.length M' v o ∧ o.length ≤ cntI l ∧ ∀ x, x ∈ o → PitOk x
set_option maxHeartbeats 8000000 in
theorem flats_step {N : Nat} (hN : FlatToS N) : FlatToS (N + 1) := by
  intro M A n c l lo hi d h hn hd hs0 hlt
  have hl := h.1
  have hsm := cnt_small hd (by omega) hs0
  first | (refine ctr_fn Tryz.func76 rfl Tryz.ntmps76 Tryz.results76 rfl rfl (by simp) ?_) | (refine ctr_fnC Tryz.func76 rfl Tryz.ntmps76 Tryz.results76 rfl (by simp) ?_)
  simp
  refine awLoop_T (fun m T M' => ∃ (i : Nat) (ps : List (Item × Value)) (v : Value), i + m = n ∧ Keeps M M' ∧ TabP itN M.length M' v ps ∧ ps.length + cntI (subI l i n) ≤ cntI l ∧ (∀ p, p ∈ ps → PitOk p.1) ∧ scanI d (subI l i n) = true ∧ look T 5 = some (iv i) ∧ look T 4 = some v ∧ look T 0 = some (.slice A n c)) n ⟨0, [], _, by omega, keeps_app _, TabP.box (N := itN) (t := true) (Nat.le_refl _) (by simp [itN]), by rw [show subI l 0 n = l by rw [← hl]; exact subI_all]; simp, (fun p hp => by cases hp), by rw [show subI l 0 n = l by rw [← hl]; exact subI_all]; exact hs0, by simp, by simp, by simp⟩ ?_
  rintro m T M1 ⟨i, ps, v, hm, hK, hT, hw, hpk, hs, t5, t4, t0⟩
  have hKl := hK.len
  by_cases hib : i < n
  case neg =>
    obtain rfl : i = n := by omega
    rw [subI_nil, cntI_nil] at hw
    simp (disch := omega) [t5, t4, t0]
    exact ⟨hK, _, ⟨ps, rfl, hT⟩, by simp; omega, fun x hx => by obtain ⟨p, hp, rfl⟩ := List.mem_map.1 hx; exact hpk p hp⟩
  have hib' : (i : Int) < n := by omega
  obtain ⟨id, off, us, rfl, he, hrd, hc⟩ := (h.keeps hK).at_ hib
  have hrd2 := hrd
  obtain ⟨A1, n1, c1', hu, hus, c0, c1, c2, c4, c5, c7, c8⟩ := item_cells hrd2 hc
  subst hus
  have hcons := subI_cons (l := l) hib (by omega)
  have hrl : (subI l (i + 1) n).length = n - (i + 1) := subI_len (by omega) (by omega)
  rw [hcons, cntI_cons] at hw
  rw [hcons, scanI_cons, Bool.and_eq_true] at hs
  obtain ⟨hB, hs⟩ := hs
  simp (disch := omega) [t5, t4, t0, hib, hib', he, c8]
  obtain ⟨M2, hM2⟩ : ∃ M2 : Mem, M2 = M1 ++ [Slot.live ⟨[iv (el l i).j, .slice A1 n1 c1', iv (el l i).ln, iv (el l i).ld, iv (el l i).x, iv (el l i).mt, iv (el l i).mh, iv (el l i).z], true, true, 60, 8⟩] := ⟨_, rfl⟩
  have k12 : Keeps M1 M2 := by rw [hM2]; exact keeps_app _
  have l2 : M2.length = M1.length + 1 := by rw [hM2]; simp
  have r2 : M2[M1.length]? = some (.live ⟨[iv (el l i).j, .slice A1 n1 c1', iv (el l i).ln, iv (el l i).ld, iv (el l i).x, iv (el l i).mt, iv (el l i).mh, iv (el l i).z], true, true, 60, 8⟩) := by rw [hM2]; simp
  rw [← hM2]
  clear hM2
  have b0 := cell_hr r2 0
  have b1 := cell_hr r2 1
  have b7 := cell_hr r2 7
  simp at b0 b1 b7
  have hps6 := itemB_ps hB
  have hps : (el l i).ps.length = n1 ∧ n1 ≤ 1048576 ∧ Sl pitchR M1 A1 n1 (el l i).ps := by
    obtain ⟨_, _, _, e', g1, g2, g3⟩ := hu
    cases e'
    exact ⟨g3.1, by have := g3.1; omega, g3.sl⟩
  have hA1c : A1 = none → c1' = 0 := by
    obtain ⟨_, _, _, e', -, g2, -⟩ := hu
    cases e'
    exact g2
  refine awCall_det' (l19Group_s b0) (by omega) ?_
  by_cases hg2 : grpB (el l i) = true
  case neg =>
    rw [if_neg hg2] at hs hw
    have b1L := fun L => cellAt_app b1 L
    simp (disch := omega) [hg2, b1L]
    refine pit_clone (l := (el l i).ps) ((hps.2.2.keeps k12).app _) hA1c (B := M2.length) ⟨_, 0, 0, rfl, rfl, .inr ⟨M2.length, true, rfl, Nat.le_refl _, by simp [cellsL]⟩⟩ (by omega) (by simp) hps.2.1 ?_
    intro w M3 hw3 s23
    have k23 : Keeps M2 M3 := s23.keeps (keeps_app _) (Nat.le_refl _)
    have n3 := k23.len
    have r3 := k23.get r2
    obtain ⟨A5, n5, c5, rfl, hn5, -, -⟩ := hw3.sl
    have hp := put_splice (b := M.length) (p := 1) (vs := [.slice A5 n5 c5]) r3 (by omega) (by simp) (by simp)
    simp only [splice_cons, splice_nil, List.set_cons_succ, List.set_cons_zero] at hp
    simp (disch := omega) [hp, t4]
    obtain ⟨M4, hM4⟩ : ∃ M4 : Mem, M4 = M3.set M1.length (.live ⟨[iv (el l i).j, .slice A5 n5 c5, iv (el l i).ln, iv (el l i).ld, iv (el l i).x, iv (el l i).mt, iv (el l i).mh, iv (el l i).z], true, true, 60, 8⟩) := ⟨_, rfl⟩
    have l3 := (List.getElem?_eq_some_iff.1 r3).1
    have k14 : Keeps M1 M4 := by rw [hM4]; exact (Same.set (B := M1.length) (Nat.le_refl _)).keeps (k12.trans k23) (Nat.le_refl _)
    have b84 : cellsAt M4 M1.length 0 8 = some [iv (el l i).j, .slice A5 n5 c5, iv (el l i).ln, iv (el l i).ld, iv (el l i).x, iv (el l i).mt, iv (el l i).mh, iv (el l i).z] := by rw [hM4]; exact cells_hrq (List.getElem?_set_self l3) rfl
    have hw4 : Acc pitchR 62 M2.length M4 (.slice A5 n5 c5) (el l i).ps := by rw [hM4]; exact hw3.set_ne (by omega)
    rw [← hM4]
    clear hM4 hp
    rw [b84, ow_some, fill_oneIt, ow_some]
    simp (disch := omega) [t4, hg2]
    have kx : Keeps M4 (M4 ++ [Slot.live ⟨[iv (el l i).j, .slice A5 n5 c5, iv (el l i).ln, iv (el l i).ld, iv (el l i).x, iv (el l i).mt, iv (el l i).mh, iv (el l i).z], true, true, 60, 8⟩]) := keeps_app _
    have k14l := k14.len
    refine TabP.snoc (p := (el l i, .slice A5 n5 c5)) (by_ := 80) ((hT.keeps k14).keeps kx) (by omega) (by simp; omega) (by simp [itN]) (by kernel_rfl) (by simp [srcOf, Tryz.underlying29, itN, cellsAt]) (by rfl) ((hw4.keeps kx).low (by omega)) (hw4.sep_new hT.1 (by omega)).symm (by omega) (by unfold maxLen; omega) ?_
    intro v' M5 g1 g2 g3
    simp (disch := omega) [t5, wrap_in]
    refine lpI (m - 1) (by omega) ⟨i + 1, _, v', by omega, (g2.keeps ((hK.trans k14).trans kx) (Nat.le_refl _)), g1, by simp; omega, fun p hp => ?_, hs, by simp, by simp, by simp [t0]⟩
    rcases List.mem_append.1 hp with hp | hp
    · exact hpk p hp
    · rw [List.mem_singleton.1 hp]; exact itemB_pit hB
  rw [if_pos hg2, hrl] at hs
  rw [if_pos hg2] at hw
  simp only [Bool.and_eq_true, decide_eq_true_eq] at hs
  obtain ⟨hd0, hz, hs1, hs2⟩ := hs
  have hz := inB_iff.1 hz
  obtain ⟨z, hz2⟩ : ∃ z : Nat, (el l i).z = z := ⟨(el l i).z.toNat, by omega⟩
  rw [hz2] at hz b7
  rw [hz2, Int.toNat_natCast, subI_take (by omega)] at hs1
  rw [hz2, Int.toNat_natCast, subI_drop] at hs2
  rw [hz2, Int.toNat_natCast, subI_take (by omega), subI_drop] at hw
  obtain ⟨xn, hxn1, hxn8, hxn4⟩ : ∃ xn : Nat, 1 ≤ xn ∧ xn ≤ 8 ∧ (if (el l i).j = 4 then (el l i).x.toNat else 1) = xn ∧ ((el l i).j = 4 → (el l i).x = xn) := by
    by_cases j4 : (el l i).j = 4
    · have hx := itemB_x hB j4
      exact ⟨(el l i).x.toNat, by omega, by omega, by rw [if_pos j4], fun _ => by omega⟩
    · exact ⟨1, by omega, by omega, by rw [if_neg j4], fun h => absurd h j4⟩
  rw [hxn4.1] at hw
  have hpart := ((h.keeps hK).keeps k12).part (a := i + 1) (b := i + 1 + z) (by omega) (by omega)
  rw [show i + 1 + z - (i + 1) = z by omega] at hpart
  have esub : (l.drop (i + 1)).take z = subI l (i + 1) (i + 1 + z) := by unfold subI; rw [show i + 1 + z - (i + 1) = z by omega]
  rw [esub] at hpart
  have hcall := hN M2 (some ⟨id, off + (i + 1) * 8, none⟩) z z (subI l (i + 1) (i + 1 + z)) lo hi (d - 1) hpart (by omega) (by omega) hs1 (by omega)
  have he2 := rowEsz_keeps k12 he
  simp (disch := omega) [hg2, t5, t4, t0, b7, wrap_in, he2]
  refine ⟨by omega, ?_⟩
  have ez : ((i : Int) + 1 + z).toNat - (i + 1) = z := by omega
  rw [ez]
  refine awCall_ctr (hcall.weaken (by omega)) ?_
  rintro _ M3 ⟨mv, e, o, rfl, k23, ⟨qs, rfl, hQ⟩, hql, hqp⟩
  rw [List.length_map] at hql
  obtain ⟨A4, c4', rfl⟩ := hQ.one
  have n3 := k23.len
  have r3 := k23.get r2
  by_cases he0 : e = 0
  case neg =>
    simp (disch := omega) [he0]
    exact ⟨(hK.trans k12).trans k23, [], ⟨[], rfl, .nil, .nil⟩, by simp, fun x hx => by cases hx⟩
  subst he0
  simp (disch := omega)
  have b03 := cellAt_keeps k23 b0
  have b43 := cell_hr r3 4
  have b73 := cellAt_keeps k23 b7
  simp at b43
  simp (disch := omega) [b03]
  refine awCond_join (fun T' M' => M' = M3 ∧ look T' 9 = some (iv xn) ∧ look T' 7 = some (.slice A4 qs.length c4') ∧ look T' 6 = some (.pointer (some ⟨M1.length, 0, none⟩)) ∧ look T' 5 = some (iv i) ∧ look T' 4 = some v ∧ look T' 0 = some (.slice (some ⟨id, off, none⟩) n c)) ?_ ?_ ?_
  · intro Q' hQ' hj
    have j4 : (el l i).j = 4 := by simpa using hj
    simp (disch := omega) [b43]
    exact hQ' _ _ ⟨rfl, by simp [hxn4.2 j4], by simp, by simp, by simp [t5], by simp [t4], by simp [t0]⟩
  · intro Q' hQ' hj
    have j4 : ¬ (el l i).j = 4 := by simpa using hj
    have hx1 : xn = 1 := by rw [← hxn4.1, if_neg j4]
    try simp
    exact hQ' _ _ ⟨rfl, by simp [hx1], by simp, by simp, by simp [t5], by simp [t4], by simp [t0]⟩
  clear t5 t4 t0
  rintro T2 M3' ⟨rfl, t9, t7, t6, t5, t4, t0⟩
  have hF0 : FlI M.length M2.length M1.length M3' (.slice A4 qs.length c4') qs _ v ps := ⟨hT.keeps (k12.trans k23), hQ, hQ.sep hT.1 (by omega), (hQ.1.sep_new hT.1 (by omega)).symm, r3, hT.1.apartM (Nat.le_refl _)⟩
  obtain ⟨w1, hw1⟩ : ∃ w1, w1 = xn * qs.length := ⟨_, rfl⟩
  have hw2 : w1 ≤ xn * cntI (subI l (i + 1) (i + 1 + z)) := by rw [hw1]; exact Nat.mul_le_mul_left _ hql
  simp (disch := omega)
  refine awLoop_T (fun m T M' => ∃ (v : Value) (ps' : List (Item × Value)), m ≤ xn ∧ Keeps M M' ∧ M3'.length ≤ M'.length ∧ FlI M.length M2.length M1.length M' (.slice A4 qs.length c4') qs (.live ⟨[iv (el l i).j, .slice A1 n1 c1', iv (el l i).ln, iv (el l i).ld, iv (el l i).x, iv (el l i).mt, iv (el l i).mh, iv (el l i).z], true, true, 60, 8⟩) v ps' ∧ ps'.length + m * qs.length ≤ ps.length + w1 ∧ (∀ p, p ∈ ps' → PitOk p.1) ∧
      look T 9 = some (iv m) ∧ look T 7 = some (.slice A4 qs.length c4') ∧ look T 6 = some (.pointer (some ⟨M1.length, 0, none⟩)) ∧ look T 5 = some (iv i) ∧ look T 4 = some v ∧ look T 0 = some (.slice (some ⟨id, off, none⟩) n c)) xn
    ⟨v, ps, Nat.le_refl _, (hK.trans k12).trans k23, Nat.le_refl _, hF0, by omega, hpk, by simp [t9], by simp [t7], by simp [t6], by simp [t5], by simp [t4], by simp [t0]⟩ ?_
  clear t9 t7 t6 t5 t4 t0 hF0 b03 b43 b73 r3
  rintro m2 T3 M4 ⟨v4, ps4, hm2, hK4, hl4, hF, hp4, hpk4, t9, t7, t6, t5, t4, t0⟩
  rcases m2 with _ | m2
  · have c74 := cell_hr hF.box 7
    simp [hz2] at c74
    simp (disch := omega) [t9, t6, t5, c74, wrap_in]
    exact lpI (m - 1 - z) (by omega) ⟨i + 1 + z, ps4, v4, by omega, hK4, hF.tab, by omega, hpk4, hs2, by simp; omega, by simp [t4], by simp [t0]⟩
  have e2 : (0 : Int) < (m2 : Int) + 1 := by omega
  rw [Nat.add_mul, Nat.one_mul] at hp4
  simp (disch := omega) [t9, t7, e2]
  refine awLoop_T (fun m T M' => ∃ (k : Nat) (v : Value) (ps' : List (Item × Value)), k + m = qs.length ∧ Keeps M M' ∧ M3'.length ≤ M'.length ∧ FlI M.length M2.length M1.length M' (.slice A4 qs.length c4') qs (.live ⟨[iv (el l i).j, .slice A1 n1 c1', iv (el l i).ln, iv (el l i).ld, iv (el l i).x, iv (el l i).mt, iv (el l i).mh, iv (el l i).z], true, true, 60, 8⟩) v ps' ∧ ps'.length ≤ ps4.length + k ∧ (∀ p, p ∈ ps' → PitOk p.1) ∧
      look T 10 = some (iv k) ∧ look T 9 = some (iv (m2 + 1)) ∧ look T 7 = some (.slice A4 qs.length c4') ∧ look T 6 = some (.pointer (some ⟨M1.length, 0, none⟩)) ∧ look T 5 = some (iv i) ∧ look T 4 = some v ∧ look T 0 = some (.slice (some ⟨id, off, none⟩) n c)) qs.length
    ⟨0, v4, ps4, by omega, hK4, hl4, hF, by omega, hpk4, by simp, by simp [t9], by simp [t7], by simp [t6], by simp [t5], by simp [t4], by simp [t0]⟩ ?_
  clear t9 t7 t6 t5 t4 t0 hF hK4 hl4 hpk4
  rintro m3 T4 M5 ⟨k, v5, ps5, hm3, hK5, hl5, hF, hp5, hpk5, t10, t9, t7, t6, t5, t4, t0⟩
  by_cases hk : k < qs.length
  case neg =>
    obtain rfl : k = qs.length := by omega
    simp (disch := omega) [t10, t9, t7, wrap_in]
    exact lpI m2 (by omega) ⟨v5, ps5, by omega, hK5, hl5, hF, by omega, hpk5, by simp, by simp [t7], by simp [t6], by simp [t5], by simp [t4], by simp [t0]⟩
  have hk' : (k : Int) < qs.length := by omega
  obtain ⟨id6, off6, c6, A6, n6, c6', ev, he6, hq2, ld6, hs6⟩ := hF.more.at_ hk
  injection ev with ev1 ev2 ev3
  subst ev1 ev3
  obtain ⟨y, hy⟩ : ∃ y, y = (el qs k).1 := ⟨_, rfl⟩
  have hyP : PitOk y := by rw [hy]; exact hqp _ (List.mem_map.2 ⟨_, el_mem hk, rfl⟩)
  have hyc : A6 = none → c6' = 0 := by
    have := (hF.more.2 _ (el_mem hk)).1
    rw [hq2] at this
    obtain ⟨_, _, _, e1, -, e2⟩ := this
    cases e1
    intro e
    rcases e2 with e2 | ⟨_, _, e3, _⟩
    · exact e2.2.2
    · rw [e] at e3; cases e3
  rw [← hy] at ld6 hs6
  have hn6 := hs6.1
  have hy6 := hyP.1
  simp (disch := omega) [t10, t9, t7, hk, hk', he6, ld6]
  obtain ⟨M6, hM6⟩ : ∃ M6 : Mem, M6 = M5 ++ [Slot.live ⟨[iv y.j, .slice A6 n6 c6', iv y.ln, iv y.ld, iv y.x, iv y.mt, iv y.mh, iv y.z], true, true, 60, 8⟩] := ⟨_, rfl⟩
  have k56 : Keeps M5 M6 := by rw [hM6]; exact keeps_app _
  have l6 : M6.length = M5.length + 1 := by rw [hM6]; simp
  have r6 : M6[M5.length]? = some (.live ⟨[iv y.j, .slice A6 n6 c6', iv y.ln, iv y.ld, iv y.x, iv y.mt, iv y.mh, iv y.z], true, true, 60, 8⟩) := by rw [hM6]; simp
  rw [show M5 ++ [Slot.live ⟨[iv y.j, .slice A6 n6 c6', iv y.ln, iv y.ld, iv y.x, iv y.mt, iv y.mh, iv y.z], true, true, 60, 8⟩, Slot.live ⟨[], true, true, 62, 3⟩] = M6 ++ [Slot.live ⟨[], true, true, 62, 3⟩] by rw [hM6]; simp, ← l6]
  clear hM6
  have hK5l := hK5.len
  refine pit_clone (l := y.ps) ((hs6.keeps k56).app _) hyc (B := M6.length) ⟨_, 0, 0, rfl, rfl, .inr ⟨M6.length, true, rfl, Nat.le_refl _, by simp [cellsL]⟩⟩ (by omega) (by simp) (by omega) ?_
  intro w M7 hw7 s67
  have k67 : Keeps M6 M7 := s67.keeps (keeps_app _) (Nat.le_refl _)
  have n7 := k67.len
  have r7 := k67.get r6
  obtain ⟨A5, n5, c5, rfl, hn5, -, -⟩ := hw7.sl
  have hp := put_splice (b := M.length) (p := 1) (vs := [.slice A5 n5 c5]) r7 (by omega) (by simp) (by simp)
  simp only [splice_cons, splice_nil, List.set_cons_succ, List.set_cons_zero] at hp
  try simp (disch := omega) [hp]
  obtain ⟨M8, hM8⟩ : ∃ M8 : Mem, M8 = M7.set M5.length (.live ⟨[iv y.j, .slice A5 n5 c5, iv y.ln, iv y.ld, iv y.x, iv y.mt, iv y.mh, iv y.z], true, true, 60, 8⟩) := ⟨_, rfl⟩
  have l7 := (List.getElem?_eq_some_iff.1 r7).1
  have k58 : Keeps M5 M8 := by rw [hM8]; exact (Same.set (B := M5.length) (Nat.le_refl _)).keeps (k56.trans k67) (Nat.le_refl _)
  have r8 : M8[M5.length]? = some (.live ⟨[iv y.j, .slice A5 n5 c5, iv y.ln, iv y.ld, iv y.x, iv y.mt, iv y.mh, iv y.z], true, true, 60, 8⟩) := by rw [hM8]; exact List.getElem?_set_self l7
  have hw8 : Acc pitchR 62 M6.length M8 (.slice A5 n5 c5) y.ps := by rw [hM8]; exact hw7.set_ne (by omega)
  have l8 : M8.length = M7.length := by rw [hM8]; simp
  rw [← hM8]
  clear hM8 hp
  obtain ⟨x, hx⟩ : ∃ x, x = el l i := ⟨_, rfl⟩
  rw [← hx] at hF
  have hn5' : n5 = n6 := by omega
  have hA8 : Acc pitchR 62 (M5.length + 1) M8 (.slice A5 n5 c5) y.ps := hw8.low (by omega)
  refine awLoop_joinR (fun T' M' => ∃ pts : List Pitch, Keeps M5 M' ∧ M5.length + 1 ≤ M'.length ∧ M'[M5.length]? = some (.live ⟨[iv y.j, .slice A5 n5 c5, iv y.ln, iv y.ld, iv y.x, iv y.mt, iv y.mh, iv y.z], true, true, 60, 8⟩) ∧ Acc pitchR 62 (M5.length + 1) M' (.slice A5 n5 c5) pts ∧ pts.length = n5 ∧ (∀ i, i < pts.length → pitchB (el pts i) = true) ∧
      look T' 11 = some (.pointer (some ⟨M5.length, 0, none⟩)) ∧ look T' 10 = some (iv k) ∧ look T' 9 = some (iv (m2 + 1)) ∧ look T' 7 = some (.slice (some ⟨id6, off6, none⟩) qs.length c4') ∧ look T' 6 = some (.pointer (some ⟨M1.length, 0, none⟩)) ∧ look T' 5 = some (iv i) ∧ look T' 4 = some v5 ∧ look T' 0 = some (.slice (some ⟨id, off, none⟩) n c)) ?_ ?_
  · intro Q' hQ' hR
    refine awLoop_T (fun m T' M' => ∃ (j : Nat) (pts : List Pitch), j + m = n5 ∧ Keeps M5 M' ∧ M5.length + 1 ≤ M'.length ∧ M'[M5.length]? = some (.live ⟨[iv y.j, .slice A5 n5 c5, iv y.ln, iv y.ld, iv y.x, iv y.mt, iv y.mh, iv y.z], true, true, 60, 8⟩) ∧ Acc pitchR 62 (M5.length + 1) M' (.slice A5 n5 c5) pts ∧ pts.length = n5 ∧ (∀ i, i < pts.length → pitchB (el pts i) = true) ∧
      look T' 12 = some (iv j) ∧ look T' 11 = some (.pointer (some ⟨M5.length, 0, none⟩)) ∧ look T' 10 = some (iv k) ∧ look T' 9 = some (iv (m2 + 1)) ∧ look T' 7 = some (.slice (some ⟨id6, off6, none⟩) qs.length c4') ∧ look T' 6 = some (.pointer (some ⟨M1.length, 0, none⟩)) ∧ look T' 5 = some (iv i) ∧ look T' 4 = some v5 ∧ look T' 0 = some (.slice (some ⟨id, off, none⟩) n c)) n5
      ⟨0, y.ps, by omega, k58, by omega, r8, hA8, hn5, hyP.2, by simp, by simp, by simp [t10], by simp [t9], by simp [t7], by simp [t6], by simp [t5], by simp [t4], by simp [t0]⟩ ?_
    clear t10 t9 t7 t6 t5 t4 t0 hA8 hw8 r8 k58
    rintro m4 T5 M9 ⟨j, pts, hj, k59, l9, r9, hA9, hpl, hpv, t12, t11, t10, t9, t7, t6, t5, t4, t0⟩
    have y9 := cell_hr r9 1
    simp at y9
    have bx := k59.get hF.box
    have x90 := cell_hr bx 0
    simp at x90
    by_cases hj5 : j < n5
    case neg =>
      have hj5' : ¬ (j : Int) < n5 := by omega
      simp (disch := omega) [t12, t11, y9, hj5, hj5']
      exact hQ' _ _ ⟨pts, k59, l9, r9, hA9, hpl, hpv, by simp [t11], by simp [t10], by simp [t9], by simp [t7], by simp [t6], by simp [t5], by simp [t4], by simp [t0]⟩
    have hj5' : (j : Int) < n5 := by omega
    by_cases j5 : x.j = 5
    case neg =>
      simp (disch := omega) [t12, t11, y9, hj5, hj5', t6, x90, j5]
      exact hQ' _ _ ⟨pts, k59, l9, r9, hA9, hpl, hpv, by simp [t11], by simp [t10], by simp [t9], by simp [t7], by simp [t6], by simp [t5], by simp [t4], by simp [t0]⟩
    rw [j5] at x90
    simp (disch := omega) [t12, t11, y9, hj5, hj5', t6, x90]
    obtain ⟨id5, hid5, hid5b, he5, hcp5, -⟩ := hA9.put (b := M.length) (by omega) (by omega)
    subst hid5
    obtain ⟨p, hpe⟩ : ∃ p, p = el pts j := ⟨_, rfl⟩
    have hcl5 : Cl M9 id5 (j * 3) p.row := fun a b hab => hcp5 j a b (by omega) (by rw [← hpe]; exact hab)
    have ldp := pitch_load hcl5
    have ldm : cellsAt M9 M1.length 5 2 = some [iv x.mt, iv x.mh] := by simp [cellsAt, bx]
    refine awDraw_M 12 [[],[0],[],[1,0,2],[3,1,0,2],[],[5],[4,3,1,0,2,6,5],[7,4,3,1,0,2,6,5],[8,7,4,3,1,0,2,6,5],[8,7,4,3,1,0,2,6,5],[],[11,9,8,7,4,3,1,0,2,6,5],[10,8,7,4,3,1,0,2,6,5,12,11,9]] [10] (by kernel_rfl) (by decide +kernel) (by decide +kernel) ?_
    simp (disch := omega) [t12, t11, y9, hj5, hj5', t6, he5, ldp, ldm]
    refine awCall_det' (d := true) (MovePitch_w p ⟨x.mt, x.mh⟩) (by omega) ?_
    refine ⟨[], by simp, ?_⟩
    simp (disch := omega)
    obtain ⟨q, hq⟩ : ∃ q, q = (movP p ⟨x.mt, x.mh⟩).1 := ⟨_, rfl⟩
    have hqv : (movP p ⟨x.mt, x.mh⟩).2 = 0 → pitchB q = true := fun h => by rw [hq]; exact movP_ok h
    rw [← hq]
    clear hq
    generalize (movP p ⟨x.mt, x.mh⟩).2 = ec at *
    obtain ⟨M10, hM10⟩ : ∃ M10 : Mem, M10 = M9 ++ [Slot.live ⟨[iv q.s, iv q.a, iv q.o], true, true, 62, 3⟩] := ⟨_, rfl⟩
    have k910 : Keeps M9 M10 := by rw [hM10]; exact keeps_app _
    have q10 : cellsAt M10 M9.length 0 3 = some [iv q.s, iv q.a, iv q.o] := by rw [hM10]; simp
    have n10 : M10.length = M9.length + 1 := by rw [hM10]; simp
    rw [← hM10]
    clear hM10
    by_cases hec : ec = 0
    case neg =>
      simp (disch := omega) [hec]
      refine hR _ ?_
      simp
      exact ⟨((hK5.trans k59).trans k910), [], ⟨[], rfl, .nil, .nil⟩, by simp, fun x hx => by cases hx⟩
    have y10 := cellAt_keeps k910 y9
    obtain ⟨_, hh, -, he10, -, hput⟩ := (hA9.keeps k910).put (b := M.length) (by omega) (by omega)
    cases hh
    obtain ⟨M11, p11, hA11, n11, u11⟩ := hput j q (by omega) (by simp [pitchR, Pitch.row])
    replace p11 : putCells M.length M10 id5 (j * 3) [iv q.s, iv q.a, iv q.o] = some M11 := p11
    have k11 : Keeps M5 M11 := by
      unfold Keeps
      exact fun i s hs => u11 i s (by have := (List.getElem?_eq_some_iff.1 hs).1; omega) ((k59.trans k910).get hs)
    have r11 := u11 _ _ (by omega) (k910.get r9)
    simp (disch := omega) [hec, t11, t12, y10, he10, q10, p11, hj5', hj5, wrap_in]
    refine lpI (m4 - 1) (by omega) ⟨j + 1, _, by omega, k11, by omega, r11, hA11, by simp; omega, fun i hi => ?_, by simp, by simp [t11], by simp [t10], by simp [t9], by simp [t7], by simp [t6], by simp [t5], by simp [t4], by simp [t0]⟩
    simp at hi
    by_cases e : i = j
    · subst e
      rw [el_set_eqF hi]
      exact hqv hec
    · rw [el_set_neF (Ne.symm e)]
      exact hpv i hi
  rintro T5 M9 ⟨pts, k59, l9, r9, hA9, hpl, hpv, t11, t10, t9, t7, t6, t5, t4, t0⟩
  have y9 := cells_hr (n := 8) r9 rfl
  simp only at y9
  simp (disch := omega) [t11, t4, y9, fill_oneIt]
  obtain ⟨y', hy'⟩ : ∃ y' : Item, y' = ⟨y.j, pts, y.ln, y.ld, y.x, y.mt, y.mh, y.z⟩ := ⟨_, rfl⟩
  have hF9 := (hF.keeps k59)
  have kx := keeps_app (M := M9) [Slot.live ⟨[iv y.j, .slice A5 n5 c5, iv y.ln, iv y.ld, iv y.x, iv y.mt, iv y.mh, iv y.z], true, true, 60, 8⟩]
  have hsm2 : ps5.length ≤ 50000 := by omega
  refine FlI.push (p := (y', .slice A5 n5 c5)) (hF9.keeps kx) (by omega) (by simp; omega) (by rw [hy']; simp [srcOf, Tryz.underlying29, itN, cellsAt]) (by rfl) (by rw [hy']; exact (hA9.keeps kx).low (by omega)) (hA9.sep_new hF.tab.1 (by omega)).symm (by omega) ?_
  intro v' M10 g1 g2
  have n10 : M9.length + 1 ≤ M10.length := by have := g2.1; simpa using this
  simp (disch := omega) [t10, wrap_in]
  refine lpI (m3 - 1) (by omega) ⟨k + 1, v', _, by omega, g2.keeps ((hK5.trans k59).trans kx) (Nat.le_refl _), by omega, by rw [hx] at g1; exact g1, by simp; omega, fun p hp => ?_, by simp, by simp [t9], by simp [t7], by simp [t6], by simp [t5], by simp, by simp [t0]⟩
  rcases List.mem_append.1 hp with hp | hp
  · exact hpk5 p hp
  · rw [List.mem_singleton.1 hp, hy']
    exact ⟨by show pts.length ≤ 6; omega, hpv⟩
theorem flats_to : ∀ N, FlatToS N
  | 0 => fun M A n c l lo hi d _ _ _ _ h => by omega
  | N + 1 => flats_step (flats_to N)
end Go.Proofs.YtodbjnngkonklaaGreat

namespace Go.Proofs.YtodbjnngkonklaaGreat
open Go.RowKit
set_option linter.unusedVariables false
set_option linter.unusedSimpArgs false
set_option maxRecDepth 100000
attribute [local simp] List.getElem?_cons_zero
attribute [local irreducible] awCond awCall awLoop awDraw ow retQ retC resQ Keeps
theorem nt_build (a b : Int) : Instr.fill (fun x => [(0, 2), (2, 2), (4, 1), (5, 1), (6, 1)][x]?) #[iv 0, iv 0, iv 0, iv 0, iv 0, iv 0, iv 0] [(0, .agg #[iv a, iv b]), (1, .agg #[iv 1, iv 1]), (2, iv 60), (3, iv 64)] = some #[iv a, iv b, iv 1, iv 1, iv 60, iv 64, iv 0] := by kernel_rfl
theorem fill_oneNt (a b c d e f g : Int) : Instr.fill (fun i => some (i * 7, 7)) (zrow [iv 0, iv 0, iv 0, iv 0, iv 0, iv 0, iv 0] 1).toArray [(0, .agg #[iv a, iv b, iv c, iv d, iv e, iv f, iv g])] = some #[iv a, iv b, iv c, iv d, iv e, iv f, iv g] := by kernel_rfl
theorem put_box2 {b : Nat} {M : Mem} {s : Slot} {vs cs : List Value} {t : Bool} {e : TypeId} {z : Nat} (hb : b ≤ M.length + 1) (hl : vs.length = cs.length) (h1 : vs.all oneV = true) :
    putCells b (M ++ [s, .live ⟨cs, true, t, e, z⟩]) (M.length + 1) 0 vs = some (M ++ [s, .live ⟨vs, true, t, e, z⟩]) := by
  have := put_box (M := M ++ [s]) (b := b) (vs := vs) (cs := cs) (t := t) (e := e) (z := z) (by simpa using hb) hl h1
  simpa using this
set_option maxHeartbeats 4000000 in
theorem l18Many_b {M : Mem} {b g k B : Nat} (h : Src g B M k) (hb : b ≤ g) (hB : B ≤ M.length) (hk : k ≤ 200000) :
    Ctr Tryz.prog b 41 [.pointer (some ⟨g, 0, none⟩)] M fun r M' => ∃ (l : List Note) (v : Value), r = .agg #[v] ∧ Acc noteR 36 M.length M' v l ∧ l.length ≤ 61 ∧ Grow g M M' ∧ ∃ k' : Nat, k' ≤ k + 2 ∧ Src g B M' k' := by
  have hg := h.lt
  first | (refine ctr_fn Tryz.func41 rfl Tryz.ntmps41 Tryz.results41 rfl rfl (by simp) ?_) | (refine ctr_fnC Tryz.func41 rfl Tryz.ntmps41 Tryz.results41 rfl (by simp) ?_)
  simp [sc_build]
  rw [put_box2 (b := b) (vs := [.slice none 0 0]) (by omega) rfl (by simp), ow_some]
  obtain ⟨M0, hM0⟩ : ∃ M0 : Mem, M0 = M ++ [Slot.live ⟨[.slice none 0 0], true, true, 26, 1⟩, Slot.live ⟨[.slice none 0 0], true, true, 26, 1⟩] := ⟨_, rfl⟩
  have n0 : M0.length = M.length + 2 := by rw [hM0]; simp
  have g0 : Grow g M M0 := by rw [hM0]; exact Grow.app g M _
  have h0 : Src g B M0 k := by rw [hM0]; exact h.app _
  have a0 : M0[M.length]? = some (.live ⟨[.slice none 0 0], true, true, 26, 1⟩) := by rw [hM0]; simp
  have b0 : M0[M.length + 1]? = some (.live ⟨[.slice none 0 0], true, true, 26, 1⟩) := by rw [hM0]; simp
  rw [← hM0]
  clear hM0
  rw [fill3, ow_some]
  try simp
  refine awCall_ctr (among_new (b := b) (M := M0) (n := 3) [60, 61, 40] rfl h0 hb (by omega) (by omega) (by omega) rfl (by omega)) ?_
  rintro _ M1 ⟨z, k1, rfl, hz, hk1, h1, u1⟩
  have hz' : 40 ≤ z ∧ z ≤ 61 := by simp at hz; omega
  obtain ⟨cn, rfl⟩ := Int.eq_ofNat_of_zero_le (show 0 ≤ z by omega)
  have a1 := u1.2 _ _ (by omega) a0
  have b1 := u1.2 _ _ (by omega) b0
  have g1 := g0.trans u1
  have n1 := u1.1
  clear hz u1 h0 g0 a0 b0
  try simp
  refine awLoop_T (fun m T M' => ∃ (l : List Note) (v : Value), l.length + m = cn ∧ M'[M.length]? = some (.live ⟨[.slice none 0 0], true, true, 26, 1⟩) ∧ M'[M.length + 1]? = some (.live ⟨[v], true, true, 26, 1⟩) ∧ Acc noteR 36 (M.length + 2) M' v l ∧ Src g B M' k1 ∧ Grow g M M' ∧ M.length + 2 ≤ M'.length ∧ look T 4 = some (iv m) ∧ look T 3 = some (.pointer (some ⟨M.length + 1, 0, none⟩)) ∧ look T 2 = some (.pointer (some ⟨M.length, 0, none⟩))) cn
    ⟨[], _, by simp, a1, b1, .nil, h1, g1, by omega, by simp, by simp, by simp⟩ ?_
  rintro m T M2 ⟨l, v, hl, a2, b2, hA, h2, g2, n2, t4, t3, t2⟩
  obtain ⟨A, q, c, rfl, hq, hsl, -⟩ := hA.sl
  have c2 : cellAt M2 (M.length + 1) 0 = some (.slice A q c) := cell_hr b2 0
  rcases m with _ | m
  · have cc := cells_hr (n := 1) b2 rfl
    have l2 := (List.getElem?_eq_some_iff.1 a2).1
    simp (disch := omega) [t4, t3, t2, cc]
    rw [put_whole (vs := [.slice A q c]) a2 (by omega) rfl (by simp), ow_some, cells_hr (r := ⟨[.slice A q c], true, true, 26, 1⟩) (n := 1) (set_get l2) rfl, ow_some]
    exact ⟨l, _, rfl, (hA.set_ne (by omega)).low (by omega), by omega, g2.new (Same.set (B := M.length) (by omega)) (Nat.le_refl _), k1, hk1, h2.same (Same.set (by omega))⟩
  · have e : (0 : Int) < (m : Int) + 1 := by omega
    simp (disch := omega) [t4, t3, t2, c2, e, fr_build2, nt_build, fill_oneNt]
    refine (hA.keeps (keeps_app _)).append (R := noteR) (e := 36) (by_ := 56) (a := ⟨q, 1, 1, 1, 60, 64, 0⟩) (by omega) (by simp; omega) (by omega) (by simp) (by kernel_rfl) (by simp [srcOf, noteR, Note.row]) (by rfl) (by omega) (by unfold maxLen; omega) ?_
    intro v' M3 hA3 hS3
    have n3 := hS3.1
    simp only [List.length_append, List.length_cons, List.length_nil] at n3
    have a3 := hS3.2 _ _ (by omega) ((keeps_app _).get a2)
    have b3 := hS3.2 _ _ (by omega) ((keeps_app _).get b2)
    obtain ⟨A3, q3, c3, rfl, hq3, -, -⟩ := hA3.sl
    have hpu := put_whole (b := b) (vs := [.slice A3 q3 c3]) b3 (by omega) rfl (by simp)
    simp (disch := omega) [hpu, t4, wrap_in]
    exact lpI m (by omega) ⟨_, .slice A3 q3 c3, by simp; omega, by rw [List.getElem?_set_ne (by omega)]; exact a3, set_get (by omega), hA3.set_ne (by omega), ((h2.app _).same (hS3.low (by omega))).same (Same.set (by omega)), ((g2.trans (Grow.app g M2 _)).new hS3 (by omega)).new (Same.set (B := M.length) (by omega)) (Nat.le_refl _), by simp; omega, by simp, by simp [t3], by simp [t2]⟩
end Go.Proofs.YtodbjnngkonklaaGreat

namespace Go.Proofs.YtodbjnngkonklaaGreat
open Go.RowKit
set_option linter.unusedVariables false
set_option linter.unusedSimpArgs false
set_option maxRecDepth 100000
attribute [local simp] List.getElem?_cons_zero
attribute [local irreducible] awCond awCall awLoop awDraw ow retQ retC resQ Keeps
/-- A score in box q, its list apart from the box; the result's box; the source. -/
structure BnI (g B q k0 : Nat) (M N : Mem) (v : Value) (l : List Note) : Prop where
  box : N[q]? = some (.live ⟨[v], true, true, 26, 1⟩)
  res : N[M.length]? = some (.live ⟨[.slice none 0 0], true, true, 26, 1⟩)
  acc : Acc noteR 36 (M.length + 1) N v l
  ap : Apart v q
  src : ∃ k, k ≤ k0 ∧ Src g B N k
  grow : Grow g M N
  lt : M.length < q
theorem BnI.upd {g B q k0 k : Nat} {M N N' : Mem} {v : Value} {l : List Note} (h : BnI g B q k0 M N v l) (hB : B ≤ M.length) (u : Grow g N N') (hs : Src g B N' k) (hk : k ≤ k0) : BnI g B q k0 M N' v l := by
  have hg := hs.lt
  have := h.lt
  exact ⟨u.2 _ _ (by omega) h.box, u.2 _ _ (by omega) h.res, u.acc h.acc (by omega), h.ap, ⟨k, hk, hs⟩, h.grow.trans u, h.lt⟩
theorem BnI.up {g B q k0 k1 : Nat} {M N : Mem} {v : Value} {l : List Note} (h : BnI g B q k0 M N v l) (hk : k0 ≤ k1) : BnI g B q k1 M N v l := by
  obtain ⟨k, h1, h2⟩ := h.src
  exact ⟨h.box, h.res, h.acc, h.ap, ⟨k, by omega, h2⟩, h.grow, h.lt⟩
theorem BnI.app {g B q k0 : Nat} {M N : Mem} {v : Value} {l : List Note} (h : BnI g B q k0 M N v l) (hB : B ≤ M.length) (L : Mem) : BnI g B q k0 M (N ++ L) v l := by
  obtain ⟨k, h1, h2⟩ := h.src
  exact h.upd hB (Grow.app g N L) (h2.app L) h1
theorem BnI.fin {g B q k0 b : Nat} {M N : Mem} {v : Value} {l : List Note} (h : BnI g B q k0 M N v l) (hb : b ≤ M.length) (hB : B ≤ M.length) (hl : l.length ≤ 61) :
    ow (cellsAt N q 0 1) fun cs => 1 = (Value.agg cs.toArray).cells.size ∧ ow (putCells b N M.length 0 (Value.agg cs.toArray).cells.toList) fun M' => ow (cellsAt M' M.length 0 1) fun cs =>
      ∃ (l : List Note) (v : Value), Value.agg cs.toArray = .agg #[v] ∧ Acc noteR 36 M.length M' v l ∧ l.length ≤ 61 ∧ Grow g M M' ∧ ∃ k' : Nat, k' ≤ k0 ∧ Src g B M' k' := by
  have lr := (List.getElem?_eq_some_iff.1 h.res).1
  obtain ⟨k, h1, h2⟩ := h.src
  obtain ⟨A, n, c, rfl, -, -, -⟩ := h.acc.sl
  rw [cells_hr (n := 1) h.box rfl, ow_some]
  refine ⟨rfl, ?_⟩
  rw [show (Value.agg [Value.slice A n c].toArray).cells.toList = [.slice A n c] from rfl, put_whole (vs := [.slice A n c]) h.res hb rfl (by simp), ow_some, cells_hr (r := ⟨[.slice A n c], true, true, 26, 1⟩) (n := 1) (set_get lr) rfl, ow_some]
  exact ⟨l, _, rfl, (h.acc.set_ne (by omega)).low (by omega), hl, h.grow.new (Same.set (B := M.length) (Nat.le_refl _)) (Nat.le_refl _), k, h1, h2.same (Same.set hB)⟩
theorem BnI.setB {g B q k0 : Nat} {M N : Mem} {v v' : Value} {l l' : List Note} (hl : M.length < q) (hq : q < N.length) (hB : B ≤ M.length) (h1 : Acc noteR 36 (M.length + 1) N v' l') (h2 : Apart v' q) (h4 : N[M.length]? = some (.live ⟨[.slice none 0 0], true, true, 26, 1⟩)) (h5 : ∃ k, k ≤ k0 ∧ Src g B N k) (h6 : Grow g M N) :
    BnI g B q k0 M (N.set q (.live ⟨[v'], true, true, 26, 1⟩)) v' l' := by
  obtain ⟨k, k1, k2⟩ := h5
  exact ⟨set_get hq, by rw [List.getElem?_set_ne (by omega)]; exact h4, h1.setX h2, h2, ⟨k, k1, k2.same (Same.set (by omega))⟩, h6.new (Same.set (B := M.length) (by omega)) (Nat.le_refl _), hl⟩
theorem BnI.push {g B q k0 b : Nat} {M : Mem} {S : St} {v x : Value} {l : List Note} {a : Note} {K : Value → Mem → Prop} (h : BnI g B q k0 M S.M v l) (hb : b ≤ M.length + 1) (hB : B ≤ M.length) (hl : l.length ≤ 60) (hs : srcOf Tryz.prog S.M 7 24 x = some (1, noteR.row a)) (hq : q < S.M.length)
    (hK : ∀ v' M', Acc noteR 36 (M.length + 1) M' v' (l ++ [a]) → Apart v' q → M'[q]? = some (.live ⟨[v], true, true, 26, 1⟩) → M'[M.length]? = some (.live ⟨[.slice none 0 0], true, true, 26, 1⟩) → (∃ k, k ≤ k0 ∧ Src g B M' k) → Grow g M M' → K v' M') : appendK Tryz.prog b S K 24 24 v x := by
  have hlt := h.lt
  refine h.acc.append2 (R := noteR) (e := 36) (by_ := 56) (a := a) hb (by omega) (by omega) (by simp) (by kernel_rfl) hs (by rfl) (by omega) (by unfold maxLen; omega) ?_
  intro v' M' h1 h2 h3
  obtain ⟨q1, q2⟩ := h3 _ _ h.ap h.box
  obtain ⟨k, k1, k2⟩ := h.src
  exact hK v' M' h1 q2 q1 (h2.2 _ _ (by omega) h.res) ⟨k, k1, k2.same (h2.low (by omega))⟩ (h.grow.new h2 (by omega))
theorem BnI.turn {g B q k0 id n c : Nat} {M N N' : Mem} {l l' : List Note} (h : BnI g B q k0 M N (.slice (some ⟨id, 0, none⟩) n c) l) (hid : M.length + 1 ≤ id) (hB : B ≤ M.length) (hA : Acc noteR 36 (M.length + 1) N' (.slice (some ⟨id, 0, none⟩) n c) l') (hl : N'.length = N.length) (u : ∀ (i : Nat) s, i ≠ id → N[i]? = some s → N'[i]? = some s) :
    BnI g B q k0 M N' (.slice (some ⟨id, 0, none⟩) n c) l' := by
  have hne : q ≠ id := h.ap _ _ _ _ rfl rfl
  have hs : Same id N N' := ⟨by omega, fun i s hi hs => u i s (by omega) hs⟩
  obtain ⟨k, k1, k2⟩ := h.src
  refine ⟨u _ _ hne h.box, u _ _ (by omega) h.res, hA, fun A m d a e1 e2 => ?_, ⟨k, k1, k2.same (hs.low (by omega))⟩, h.grow.new hs (by omega), h.lt⟩
  cases e1
  cases e2
  exact hne
set_option maxHeartbeats 8000000 in
theorem l18Bent_b {M : Mem} {b g k B : Nat} (h : Src g B M k) (hb : b ≤ g) (hB : B ≤ M.length) (hk : k ≤ 60000) :
    Ctr Tryz.prog b 15 [.pointer (some ⟨g, 0, none⟩)] M fun r M' => ∃ (l : List Note) (v : Value), r = .agg #[v] ∧ Acc noteR 36 M.length M' v l ∧ l.length ≤ 61 ∧ Grow g M M' ∧ ∃ k' : Nat, k' ≤ k + 1400 ∧ Src g B M' k' := by
  have hg := h.lt
  first | (refine ctr_fn Tryz.func15 rfl Tryz.ntmps15 Tryz.results15 rfl rfl (by simp) ?_) | (refine ctr_fnC Tryz.func15 rfl Tryz.ntmps15 Tryz.results15 rfl (by simp) ?_)
  simp
  have hcall := l18Draw_b (most := 10) (h.app [.live ⟨[.slice none 0 0], true, true, 26, 1⟩]) hb (by simp; omega) (by omega) (by omega)
  refine awCall_ctr hcall ?_
  rintro _ M0 ⟨l, v, rfl, hA0, hl, -, -, g00, k0, hk0, h0⟩
  simp only [List.length_append, List.length_singleton] at hA0
  have r0 : M0[M.length]? = some (.live ⟨[.slice none 0 0], true, true, 26, 1⟩) := g00.2 _ _ (by omega) getElem?_snoc_eq
  have g0 : Grow g M M0 := (Grow.app g M _).trans g00
  have n0 : M.length < M0.length := (List.getElem?_eq_some_iff.1 r0).1
  obtain ⟨A0, q0, c0, rfl, hq0, -, -⟩ := hA0.sl
  refine ⟨rfl, ?_⟩
  rw [put_box (b := b) (cs := [.slice none 0 0]) (vs := (Value.agg #[.slice A0 q0 c0]).cells.toList) (by omega) rfl (by simp), ow_some]
  rw [show (Value.agg #[.slice A0 q0 c0]).cells.toList = [.slice A0 q0 c0] from rfl]
  obtain ⟨M1, hM1⟩ : ∃ M' : Mem, M' = M0 ++ [Slot.live ⟨[.slice A0 q0 c0], true, true, 26, 1⟩] := ⟨_, rfl⟩
  have hI1 : BnI g B M0.length (k + 1302) M M1 (.slice A0 q0 c0) l := by
    rw [hM1]
    exact ⟨getElem?_snoc_eq, by rw [List.getElem?_append_left (by omega)]; exact r0, hA0.keeps (keeps_app _), hA0.apartM (Nat.le_refl _), ⟨k0, by omega, h0.app _⟩, g0.trans (Grow.app g M0 _), n0⟩
  rw [← hM1]
  clear hM1 hcall hA0 r0 g0 h0 g00
  generalize hq : M0.length = q at *
  clear hq
  obtain ⟨k1, hk1, h1⟩ := hI1.src
  refine awCall_ctr (h1.pick 16 hb (by omega) (by omega)) ?_
  rintro _ M2 ⟨x, k2, rfl, x0, x1, hk2, h2, u2⟩
  have hI2 : BnI g B q (k + 1304) M M2 (.slice A0 q0 c0) l := (hI1.up (by omega)).upd hB u2.grow h2 (by omega)
  clear hI1 u2 h1
  have n2 : q < M2.length := (List.getElem?_eq_some_iff.1 hI2.box).1
  have c2 := cell_hr hI2.box 0
  simp
  by_cases e0 : x = 0
  · simp [e0]
    have hltq := hI2.lt
    refine awDraw_C [3, 4, 5, 7] (fun i v => match i with
      | 0 => v = .pointer (some ⟨q, 0, none⟩)
      | 1 => v = .slice A0 q0 c0
      | 2 => v = .pointer (some ⟨g, 0, none⟩)
      | 6 => v = .pointer (some ⟨q, 0, none⟩)
      | _ => True) (fun vs M' => match vs with
      | [] => M' = M2
      | [x] => ∃ y : Note, x = y.v ∧ BnI g B q (k + 1354) M M' (.slice A0 q0 c0) l
      | [_, s] => ∃ (y : Note) (M6 : Mem), s = .slice (some ⟨M6.length, 0, none⟩) 1 1 ∧ BnI g B q (k + 1354) M M6 (.slice A0 q0 c0) l ∧ M' = M6 ++ [.live ⟨[iv y.an, iv y.ad, iv y.ln, iv y.ld, iv y.k, iv y.u, iv y.o], true, true, 36, 7⟩]
      | [_, _, w] => ∃ y : Note, Acc noteR 36 (M.length + 1) M' w (l ++ [y]) ∧ Apart w q ∧ M'[q]? = some (.live ⟨[.slice A0 q0 c0], true, true, 26, 1⟩) ∧ M'[M.length]? = some (.live ⟨[.slice none 0 0], true, true, 26, 1⟩) ∧ (∃ k1, k1 ≤ k + 1354 ∧ Src g B M' k1) ∧ Grow g M M'
      | [_, _, _, _] => ∃ (y : Note) (w : Value), BnI g B q (k + 1354) M M' w (l ++ [y])
      | _ => False) (by kernel_rfl) (by decide +kernel) (by decide +kernel) (by decide +kernel) rfl ?_ ?_ ?_
    · intro i o T' M4' vs K hi ho hΨ hlate hp hf' hK
      have f0' : look T' 0 = some (.pointer (some ⟨g, 0, none⟩)) := by rw [hf' 0 (by decide +kernel)]; simp
      have f3' : look T' 3 = some (.pointer (some ⟨q, 0, none⟩)) := by rw [hf' 3 (by decide +kernel)]; simp
      rcases i with _ | _ | _ | _ | _ | _ | _ | _ | i
      · simp at ho; subst ho
        simp [f3']
        exact hK _ rfl
      · obtain ⟨v, d, q1, -⟩ := hp 0 11 (by decide +kernel) rfl
        rw [q1 (by decide)] at d
        have hlt := hlate 2 5 rfl (by decide +kernel)
        have hc : cellAt M4' q 0 = some (.slice A0 q0 c0) := by
          match vs, hΨ, hlt with
          | [], hΨ, _ => rw [hΨ]; exact c2
          | [x], ⟨y, _, hI⟩, _ => exact cell_hr hI.box 0
          | [x, s], ⟨y, M6, _, hI, e⟩, _ =>
            rw [e]
            exact cell_hr (hI.app hB _).box 0
        simp at ho; subst ho
        simp [d, hc]
        exact hK _ rfl
      · simp at ho; subst ho
        simp [f0']
        exact hK _ rfl
      · cases hi
      · cases hi
      · cases hi
      · simp at ho; subst ho
        simp [f3']
        exact hK _ rfl
      · cases hi
      · simp at ho
    · intro i i' o T' M4' vs K hi ho hΨ hlen hp hf' hK
      rcases i with _ | _ | _ | _ | i
      · obtain rfl : 3 = i' := by simpa using hi
        obtain rfl := List.eq_nil_of_length_eq_zero hlen
        obtain ⟨v4, d4, q4, -⟩ := hp 2 13 (by decide +kernel) rfl
        rw [q4 (by decide)] at d4
        replace hΨ : M4' = M2 := hΨ
        subst hΨ
        simp at ho; subst ho
        simp [d4]
        refine awCall_ctr (l18BentNote_b h2 hb (by omega) (by omega)) ?_
        rintro r M13 ⟨y, k13, rfl, hk13, h13, u13⟩
        exact hK _ _ ⟨y, rfl, (hI2.up (by omega)).upd hB u13 h13 (by omega)⟩
      · obtain rfl : 4 = i' := by simpa using hi
        obtain ⟨x, rfl⟩ : ∃ x, vs = [x] := by match vs, hlen with | [x], _ => exact ⟨x, rfl⟩
        obtain ⟨v7, d7, -, q7⟩ := hp 3 14 (by decide +kernel) rfl
        obtain rfl : x = v7 := by simpa using q7 0 rfl
        obtain ⟨y, rfl, hI⟩ := hΨ
        simp at ho; subst ho
        simp [d7, fill_oneNt]
        exact hK _ _ ⟨y, M4', rfl, hI, rfl⟩
      · obtain rfl : 5 = i' := by simpa using hi
        obtain ⟨x, s, rfl⟩ : ∃ x s, vs = [x, s] := by match vs, hlen with | [x, s], _ => exact ⟨x, s, rfl⟩
        obtain ⟨v1, d1, q1, -⟩ := hp 1 12 (by decide +kernel) rfl
        rw [q1 (by decide)] at d1
        obtain ⟨v8, d8, -, q8⟩ := hp 4 15 (by decide +kernel) rfl
        obtain rfl : s = v8 := by simpa using q8 1 rfl
        obtain ⟨y, M6, rfl, hI, rfl⟩ := hΨ
        have n6 := (List.getElem?_eq_some_iff.1 hI.box).1
        simp at ho; subst ho
        simp [d1, d8]
        refine BnI.push (a := y) (hI.app hB _) (by omega) hB (by omega) (by simp [srcOf, noteR, Note.row]) (by simp; omega) ?_
        intro v' M7 a1 a2 a3 a4 a5 a6
        exact hK _ _ ⟨y, a1, a2, a3, a4, a5, a6⟩
      · obtain rfl : 7 = i' := by simpa using hi
        obtain ⟨x, s, w, rfl⟩ : ∃ x s w, vs = [x, s, w] := by match vs, hlen with | [x, s, w], _ => exact ⟨x, s, w, rfl⟩
        obtain ⟨v9, d9, -, q9⟩ := hp 5 16 (by decide +kernel) rfl
        obtain rfl : w = v9 := by simpa using q9 2 rfl
        obtain ⟨v10, d10, q10, -⟩ := hp 6 17 (by decide +kernel) rfl
        rw [q10 (by decide)] at d10
        obtain ⟨y, a1, a2, a3, a4, a5, a6⟩ := hΨ
        obtain ⟨A3, q3, c3, rfl, hq3, -, -⟩ := a1.sl
        have nq := (List.getElem?_eq_some_iff.1 a3).1
        simp at ho; subst ho
        simp [d9, d10]
        rw [put_whole (vs := [.slice A3 q3 c3]) a3 (by omega) rfl (by simp), ow_some]
        exact hK _ _ ⟨y, _, BnI.setB (v := .slice A0 q0 c0) (l := l) hI2.lt nq hB a1 a2 a4 a5 a6⟩
      · simp at hi
    · intro T' M4' vs hlen hΨ hd hf'
      obtain ⟨x, s, w, z, rfl⟩ : ∃ x s w z, vs = [x, s, w, z] := by match vs, hlen with | [x, s, w, z], _ => exact ⟨x, s, w, z, rfl⟩
      have f2' : look T' 2 = some (.pointer (some ⟨M.length, 0, none⟩)) := by rw [hf' 2 (by decide +kernel)]; simp
      have f3' : look T' 3 = some (.pointer (some ⟨q, 0, none⟩)) := by rw [hf' 3 (by decide +kernel)]; simp
      obtain ⟨y, w', hI⟩ := hΨ
      simp [f2', f3']
      exact (hI.up (k1 := k + 1400) (by omega)).fin (by omega) hB (by simp; omega)
  simp [e0]
  by_cases e1 : x = 1
  · obtain ⟨_, _, _, hqe, -, hsl, -⟩ := hI2.acc.sl
    cases hqe
    have hll := hsl.1
    by_cases hp : 1 < q0
    case neg =>
      have hp' : ¬ (1 : Int) < q0 := by omega
      simp (disch := omega) [e1, c2, hp, hp']
      exact (hI2.up (k1 := k + 1400) (by omega)).fin (by omega) hB (by omega)
    have hp' : (1 : Int) < q0 := by omega
    have hp0 : (0 : Int) < q0 := by omega
    obtain ⟨id, hA0, hid, he, hcl, -⟩ := hI2.acc.put (b := b) (by omega) (by omega)
    subst hA0
    obtain ⟨y, hy⟩ : ∃ y, y = el l 0 := ⟨_, rfl⟩
    obtain ⟨w, hw⟩ : ∃ w, w = el l 1 := ⟨_, rfl⟩
    have hc0 : Cl M2 id 0 y.row := fun j x hx => by have := hcl 0 j x (by omega) (by rw [← hy]; exact hx); simpa using this
    have hc1 : Cl M2 id 7 w.row := fun j x hx => hcl 1 j x (by omega) (by rw [← hw]; exact hx)
    have l0 : cellsAt M2 id 0 7 = some [iv y.an, iv y.ad, iv y.ln, iv y.ld, iv y.k, iv y.u, iv y.o] := cellsAt_of (n := 7) hc0 rfl (by omega)
    have l1 : cellsAt M2 id 7 7 = some [iv w.an, iv w.ad, iv w.ln, iv w.ld, iv w.k, iv w.u, iv w.o] := cellsAt_of (n := 7) hc1 rfl (by omega)
    simp (disch := omega) [e1, c2, hp, hp', hp0, he, l0]
    refine ⟨by omega, ?_⟩
    obtain ⟨M3, hM3⟩ : ∃ M3 : Mem, M3 = M2 ++ [Slot.live ⟨[iv y.an, iv y.ad, iv y.ln, iv y.ld, iv y.k, iv y.u, iv y.o], true, true, 36, 7⟩] := ⟨_, rfl⟩
    have hI3 : BnI g B q (k + 1304) M M3 (.slice (some ⟨id, 0, none⟩) q0 c0) l := by rw [hM3]; exact hI2.app hB _
    have n3 : M3.length = M2.length + 1 := by rw [hM3]; simp
    have k3 : Keeps M2 M3 := by rw [hM3]; exact keeps_app _
    have by3 : M3[M2.length]? = some (Slot.live ⟨[iv y.an, iv y.ad, iv y.ln, iv y.ld, iv y.k, iv y.u, iv y.o], true, true, 36, 7⟩) := by rw [hM3]; exact getElem?_snoc_eq
    rw [← hM3]
    clear hM3
    have he3 := rowEsz_keeps k3 he
    have l13 := cellsAt_keeps k3 l1
    have c3 := cell_hr hI3.box 0
    have hidl : id < M2.length := by
      unfold rowEsz at he
      cases hm : M2[id]? with
      | none => rw [hm] at he; cases he
      | some s => exact (List.getElem?_eq_some_iff.1 hm).1
    have hne : q ≠ id := hI2.ap _ _ _ _ rfl rfl
    obtain ⟨_, hh, -, -, -, hput⟩ := hI3.acc.put (b := b) (by omega) (by omega)
    cases hh
    obtain ⟨M4, p4, hA4, n4, u4⟩ := hput 0 w (by omega) (by simp [noteR, Note.row])
    rw [Nat.zero_mul] at p4
    replace p4 : putCells b M3 id 0 [iv w.an, iv w.ad, iv w.ln, iv w.ld, iv w.k, iv w.u, iv w.o] = some M4 := p4
    have hI4 := hI3.turn hid hB hA4 n4 u4
    have by4 := u4 _ _ (by omega) by3
    have c4 := cell_hr hI4.box 0
    have he4 : rowEsz M4 id = some 7 := by
      obtain ⟨_, hh, -, he4, -⟩ := hI4.acc.put (b := b) (by omega) (by simp; omega)
      cases hh
      exact he4
    obtain ⟨_, hh, -, -, -, hput⟩ := hI4.acc.put (b := b) (by omega) (by simp; omega)
    cases hh
    obtain ⟨M5, p5, hA5, n5, u5⟩ := hput 1 y (by simp; omega) (by simp [noteR, Note.row])
    rw [Nat.one_mul] at p5
    replace p5 : putCells b M4 id 7 [iv y.an, iv y.ad, iv y.ln, iv y.ld, iv y.k, iv y.u, iv y.o] = some M5 := p5
    have hI5 := hI4.turn hid hB hA5 n5 u5
    have cy4 := cells_hr (n := 7) by4 rfl
    simp only at cy4
    try simp (disch := omega)
    refine awDraw_E 6 [[],[0],[],[2],[3,2],[4,3,2],[1,0,2,3,4,5],[6,1,0,2,3,4,5]] (by kernel_rfl) (by kernel_rfl) ?_
    simp (disch := omega) [c3, he3, l13, hp, hp', hp0]
    refine ⟨by omega, ?_⟩
    rw [p4, ow_some]
    simp (disch := omega) [c4, cy4, he4, hp, hp', p5]
    exact (hI5.up (k1 := k + 1400) (by omega)).fin (by omega) hB (by simp; omega)
  simp [e1]
  by_cases e2 : x = 2
  · obtain ⟨_, _, _, hqe, -, hsl, -⟩ := hI2.acc.sl
    cases hqe
    have hll := hsl.1
    by_cases hp : 0 < q0
    case neg =>
      have hp' : ¬ (0 : Int) < q0 := by omega
      simp (disch := omega) [e2, c2, hp, hp']
      exact (hI2.up (k1 := k + 1400) (by omega)).fin (by omega) hB (by omega)
    have hp' : (0 : Int) < q0 := by omega
    obtain ⟨id, off, hA0, he, hcx⟩ := hsl.at_ (i := q0 - 1) (by omega)
    subst hA0
    simp (disch := omega) [e2, c2, hp, hp']
    have c2L := fun L => cellAt_app c2 L
    have cxL := fun L => cellsAt_app (cellsAt_of (n := 7) hcx rfl (by omega)) L
    refine awDraw_M 11 [[],[0],[],[2],[],[4],[5,4],[6,5,4],[3,2,7,6,5,4],[8,3,2,7,6,5,4],[9,8,3,2,7,6,5,4],[1,0,10,9,8,3,2,7,6,5,4],[0,1,2,3,4,5,6,7,8,9,10,11],[12,0,1,2,3,4,5,6,7,8,9,10,11]] [] (by kernel_rfl) (by decide +kernel) (by decide +kernel) ?_
    simp (disch := omega) [c2, c2L, he, cxL, wrap_in]
    refine ⟨by omega, ?_⟩
    obtain ⟨a, ha⟩ : ∃ a, a = el l (q0 - 1) := ⟨_, rfl⟩
    rw [← ha, show (noteR.row a).toArray = #[iv a.an, iv a.ad, iv a.ln, iv a.ld, iv a.k, iv a.u, iv a.o] from rfl, fill_oneNt, ow_some]
    refine ⟨[Slot.live ⟨[iv a.an, iv a.ad, iv a.ln, iv a.ld, iv a.k, iv a.u, iv a.o], true, true, 36, 7⟩], by simp [maskP], ?_⟩
    simp (disch := omega) [c2, c2L, he, cxL, wrap_in]
    refine BnI.push (a := a) (hI2.app hB _) (by omega) hB (by omega) (by simp [srcOf, noteR, Note.row]) (by simp; omega) ?_
    intro v' M3 a1 a2 a3 a4 a5 a6
    obtain ⟨A3, q3, c3, rfl, hq3, -, -⟩ := a1.sl
    simp (disch := omega)
    rw [put_whole (vs := [.slice A3 q3 c3]) a3 (by have := hI2.lt; omega) rfl (by simp), ow_some]
    have nq := (List.getElem?_eq_some_iff.1 a3).1
    exact ((BnI.setB (v := .slice (some ⟨id, off, none⟩) q0 c0) (l := l) hI2.lt nq hB a1 a2 a4 a5 a6).up (k1 := k + 1400) (by omega)).fin (by omega) hB (by simp; omega)
  simp [e2]
  by_cases e3 : x = 3
  · simp [e3]
    refine awCall_ctr (l18Many_b h2 hb (by omega) (by omega)) ?_
    rintro _ M3 ⟨l3, v3, rfl, hA3, hl3, g3, k3, hk3, h3⟩
    obtain ⟨A3, q3, c3, rfl, hq3, -, -⟩ := hA3.sl
    have n3 := g3.1
    refine ⟨rfl, ?_⟩
    have hb3 := g3.2 _ _ (by have := hI2.lt; omega) hI2.box
    rw [show (Value.agg #[.slice A3 q3 c3]).cells.toList = [.slice A3 q3 c3] from rfl, put_whole (vs := [.slice A3 q3 c3]) hb3 (by have := hI2.lt; omega) rfl (by simp), ow_some]
    refine BnI.fin (l := l3) (BnI.setB (v := .slice A0 q0 c0) (l := l) hI2.lt (by omega) hB (hA3.low (by have := hI2.lt; omega)) (hA3.apartL (by omega)) (g3.2 _ _ (by omega) hI2.res) ⟨k3, by omega, h3⟩ (hI2.grow.trans g3)) (by omega) hB (by omega)
  simp [e3]
  exact (hI2.up (k1 := k + 1400) (by omega)).fin (by omega) hB (by omega)
end Go.Proofs.YtodbjnngkonklaaGreat

namespace Go.Proofs.YtodbjnngkonklaaGreat
open Go.RowKit
set_option linter.unusedVariables false
set_option linter.unusedSimpArgs false
set_option maxRecDepth 100000
attribute [local simp] List.getElem?_cons_zero
attribute [local irreducible] awCond awCall awLoop awDraw ow retQ retC resQ Keeps
theorem FlattenItems_s {M : Mem} {A : Option Addr} {n c lo hi : Nat} {l : List Item} (h : SlP itemP lo hi M A n l) (hn : n ≤ 1048576) : Ctr Tryz.prog M.length 43 [.slice A n c] M fun r M' => ∃ v e o, r = .tuple #[v, iv e] ∧ Keeps M M' ∧ Tab itN M.length M' v o ∧ o.length ≤ 80 ∧ ∀ x, x ∈ o → PitOk x := by
  have hl := h.1
  first | (refine ctr_fn Tryz.func43 rfl Tryz.ntmps43 Tryz.results43 rfl rfl (by simp) ?_) | (refine ctr_fnC Tryz.func43 rfl Tryz.ntmps43 Tryz.results43 rfl (by simp) ?_)
  simp
  refine awCall_det' (l19Ok_s h hn) (by omega) ?_
  by_cases hok : okI l = true
  case neg =>
    simp [hok]
    exact ⟨Keeps.refl _, [], ⟨[], rfl, .nil, .nil⟩, by simp, fun x hx => by cases hx⟩
  have h2 := hok
  unfold okI at h2
  simp only [Bool.and_eq_true, decide_eq_true_eq] at h2
  simp [hok]
  refine awCall_det' (counts_to (n + 1) M A n c l lo hi 3 h (by omega) (by omega) h2.2 (by omega)) (by omega) ?_
  by_cases hc : 80 < cntI l
  · have hc' : (80 : Int) < cntI l := by omega
    simp [hc, hc']
    exact ⟨Keeps.refl _, [], ⟨[], rfl, .nil, .nil⟩, by simp, fun x hx => by cases hx⟩
  have hc' : ¬ (80 : Int) < cntI l := by omega
  simp [hc, hc']
  refine awCall_ctr (flats_to (n + 1) M A n c l lo hi 3 h (by omega) (by omega) h2.2 (by omega)) ?_
  rintro _ M1 ⟨v, e, o, rfl, k1, hT, ho, hp⟩
  simp
  exact ⟨k1, o, hT, by omega, hp⟩
theorem sc_build0 : Instr.fill (fun x => [(0, 1)][x]?) #[.slice none 0 0] [] = some #[.slice none 0 0] := by rfl
theorem fr_buildD (y : Int) : Instr.fill (fun x => [(0, 1), (1, 1)][x]?) #[iv 0, iv 0] [(1, iv y)] = some #[iv 0, iv y] := by rfl
theorem fin_sc {M N : Mem} {v : Value} {ns : List Note} (hA : Acc noteR 36 (M.length + 1) N v ns) (hl : ns.length ≤ 60) (hk : Keeps M N) (hr : N[M.length]? = some (.live ⟨[.slice none 0 0], true, true, 26, 1⟩)) : ow (putCells M.length N M.length 0 [v]) fun M' => ow (cellsAt M' M.length 0 1) fun cs => (∃ v', Value.agg cs.toArray = .agg #[v'] ∧ Keeps M M' ∧ ∃ ns : List Note, Acc noteR 36 M.length M' v' ns ∧ ns.length ≤ 60) := by
  have lr := (List.getElem?_eq_some_iff.1 hr).1
  obtain ⟨A, n, c, rfl, -, -, -⟩ := hA.sl
  rw [put_whole (vs := [.slice A n c]) hr (Nat.le_refl _) rfl (by simp), ow_some, cells_hr (r := ⟨[.slice A n c], true, true, 26, 1⟩) (n := 1) (set_get lr) rfl, ow_some]
  exact ⟨_, rfl, keeps_set hk (Nat.le_refl _), ns, (hA.set_ne (by omega)).low (by omega), hl⟩
set_option maxHeartbeats 8000000 in
theorem PlayItems_s {M : Mem} {A : Option Addr} {n c lo hi : Nat} {l : List Item} (ch : Int) (h : SlP itemP lo hi M A n l) (hn : n ≤ 1048576) : Ctr Tryz.prog M.length 16 [.slice A n c, iv ch] M fun r M' => ∃ v e, r = .tuple #[.agg #[v], iv e] ∧ Keeps M M' ∧ ∃ ns, Acc noteR 36 M.length M' v ns ∧ ns.length ≤ 60 := by
  have hl := h.1
  first | (refine ctr_fn Tryz.func16 rfl Tryz.ntmps16 Tryz.results16 rfl rfl (by simp) ?_) | (refine ctr_fnC Tryz.func16 rfl Tryz.ntmps16 Tryz.results16 rfl (by simp) ?_)
  simp
  obtain ⟨M0, hM0⟩ : ∃ M0 : Mem, M0 = M ++ [Slot.live ⟨[.slice none 0 0], true, true, 26, 1⟩] := ⟨_, rfl⟩
  have k0 : Keeps M M0 := by rw [hM0]; exact keeps_app _
  have r0 : M0[M.length]? = some (.live ⟨[.slice none 0 0], true, true, 26, 1⟩) := by rw [hM0]; exact getElem?_snoc_eq
  have n0 : M0.length = M.length + 1 := by rw [hM0]; simp
  rw [← hM0]
  clear hM0
  refine awCall_det' (l19Ok_s (h.keeps k0) hn) (by omega) ?_
  by_cases hok : okI l = true
  case neg =>
    simp [hok, sc_build0]
    exact fin_sc .nil (by simp) k0 r0
  simp [hok]
  refine awCall_det' (l00In_a _ _ _) (by omega) ?_
  by_cases hch : inB ch 0 15 = true
  case neg =>
    simp [hch, sc_build0]
    exact fin_sc .nil (by simp) k0 r0
  simp [hch]
  refine awCall_ctr ((FlattenItems_s (h.keeps k0) hn).weaken (by omega)) ?_
  rintro _ M1 ⟨v1, e, o, rfl, k1, hT, hol, hop⟩
  obtain ⟨A4, c4, rfl, hsl, -⟩ := hT.slp (fun x hx => by have := (hop x hx).1; omega)
  have n1 := k1.len
  have r1 := k1.get r0
  have kk1 := k0.trans k1
  simp
  by_cases he : e = 0
  case neg =>
    simp [he, sc_build0]
    exact fin_sc .nil (by simp) kk1 r1
  subst he
  simp [fr_buildD]
  rw [put_box (b := M.length) (cs := [iv 0, iv 0]) (vs := [iv 0, iv 1]) (by omega) rfl (by simp), ow_some]
  generalize hol2 : o.length = q at *
  refine awLoop_T (fun m T M' => ∃ (i : Nat) (a : Frac) (u : Int) (v : Value) (acc : List Note), i + m = q ∧ Keeps M1 M' ∧ M1.length + 2 ≤ M'.length ∧ M'[M1.length]? = some (.live ⟨[iv a.n, iv a.d], true, true, 34, 2⟩) ∧ Acc noteR 36 (M1.length + 1) M' v acc ∧ acc.length ≤ 6 * i ∧ look T 11 = some (iv i) ∧ look T 10 = some v ∧ look T 9 = some (iv u) ∧ look T 8 = some (.pointer (some ⟨M1.length, 0, none⟩)) ∧ look T 6 = some (.slice A4 q c4) ∧ look T 4 = some (.pointer (some ⟨M.length, 0, none⟩)) ∧ look T 1 = some (iv ch)) q
    ⟨0, ⟨0, 1⟩, 80, _, [], by omega, (keeps_app _).trans (keeps_app _), by simp, by simp, ⟨_, 0, 0, rfl, rfl, .inr ⟨M1.length + 1, true, rfl, Nat.le_refl _, by simp [cellsL]⟩⟩, by simp, by simp, by simp, by simp, by simp, by simp, by simp, by simp⟩ ?_
  rintro m T M2 ⟨i, a, u, v, acc, hm, hK, hl2, ba, hA, hal, t11, t10, t9, t8, t6, t4, t1⟩
  have r2 := hK.get r1
  have kk2 := kk1.trans hK
  by_cases hi : i < q
  case neg =>
    have hi' : ¬ (i : Int) < q := by omega
    obtain ⟨A6, n6, c6, rfl, hn6, -, -⟩ := hA.sl
    by_cases h60 : 60 < n6
    · have h60' : (60 : Int) < n6 := by omega
      simp (disch := omega) [t11, t6, t10, t4, hi, hi', h60, h60', sc_build0]
      exact fin_sc .nil (by simp) kk2 r2
    · have h60' : ¬ (60 : Int) < n6 := by omega
      simp (disch := omega) [t11, t6, t10, t4, hi, hi', h60, h60', sc_build]
      exact fin_sc (hA.low (by omega)) (by omega) kk2 r2
  have hi' : (i : Int) < q := by omega
  obtain ⟨id, off, us, rfl, he1, hrd, hc⟩ := hsl.at_ hi
  obtain ⟨x, hx⟩ : ∃ x, x = el o i := ⟨_, rfl⟩
  have hxp : PitOk x := by rw [hx]; exact hop _ (el_mem (by omega))
  rw [← hx] at hrd
  obtain ⟨A1, n1', c1', hu, hus, z0, z1, z2, z4, z5, z7, z8⟩ := item_cells hrd hc
  have hps : Sl pitchR M1 A1 n1' x.ps := by
    obtain ⟨_, _, _, e', g1, g2, g3⟩ := hu
    cases e'
    exact g3.sl
  have hn1' := hps.1
  have hx6 := hxp.1
  have he6 := rowEsz_keeps hK he1
  have x0 := cellAt_keeps hK z0
  have x4 := cellAt_keeps hK z4
  simp (disch := omega) [t11, t6, hi, hi', he6, x0]
  by_cases j3 : x.j = 3
  · simp (disch := omega) [j3, x4, t11, wrap_in]
    exact lpI (m - 1) (by omega) ⟨i + 1, a, x.x, v, acc, by omega, hK, hl2, ba, hA, by omega, by simp, by simp [t10], by simp, by simp [t8], by simp [t6], by simp [t4], by simp [t1]⟩
  simp (disch := omega) [j3]
  refine awLoop_T (fun m T M' => ∃ (j : Nat) (v : Value) (acc : List Note), j + m = n1' ∧ Keeps M1 M' ∧ M1.length + 2 ≤ M'.length ∧ M'[M1.length]? = some (.live ⟨[iv a.n, iv a.d], true, true, 34, 2⟩) ∧ Acc noteR 36 (M1.length + 1) M' v acc ∧ acc.length ≤ 6 * i + j ∧ look T 13 = some (iv j) ∧ look T 12 = some (.pointer (some ⟨id, off + i * 8, none⟩)) ∧ look T 11 = some (iv i) ∧ look T 10 = some v ∧ look T 9 = some (iv u) ∧ look T 8 = some (.pointer (some ⟨M1.length, 0, none⟩)) ∧ look T 6 = some (.slice (some ⟨id, off, none⟩) q c4) ∧ look T 4 = some (.pointer (some ⟨M.length, 0, none⟩)) ∧ look T 1 = some (iv ch)) n1'
    ⟨0, v, acc, by omega, hK, hl2, ba, hA, by omega, by simp, by simp, by simp [t11], by simp [t10], by simp [t9], by simp [t8], by simp [t6], by simp [t4], by simp [t1]⟩ ?_
  clear t11 t10 t9 t8 t6 t4 t1 hK hl2 ba hA hal r2 kk2 x0 x4 he6
  rintro m2 T2 M3 ⟨j, v3, acc3, hm2, hK, hl3, ba, hA, hal, t13, t12, t11, t10, t9, t8, t6, t4, t1⟩
  have r3 := hK.get r1
  have kk3 := kk1.trans hK
  have x1 := cellAt_keeps hK z1
  have x2 := cellsAt_keeps hK z2
  have la := cells_hr (n := 2) ba rfl
  simp only at la
  by_cases hj : j < n1'
  case neg =>
    have hj' : ¬ (j : Int) < n1' := by omega
    simp (disch := omega) [t13, t12, x1, hj, hj']
    refine awDraw_M 10 [[],[],[1],[2,1],[3,2,1],[0,4,3,2,1],[5,0,4,3,2,1],[6,5,0,4,3,2,1],[6,5,0,4,3,2,1],[],[9,7,6,5,0,4,3,2,1],[8,6,5,0,4,3,2,1,10,9,7]] [8] (by kernel_rfl) (by decide +kernel) (by decide +kernel) ?_
    simp (disch := omega) [t12, t8, la, x2]
    refine awCall_det' (d := true) (l18Sum_a a ⟨x.ln, x.ld⟩) (by omega) ?_
    refine ⟨[], by simp, ?_⟩
    simp (disch := omega)
    obtain ⟨f, hf⟩ : ∃ f, f = (addF a ⟨x.ln, x.ld⟩).1 := ⟨_, rfl⟩
    rw [← hf]
    clear hf
    generalize (addF a ⟨x.ln, x.ld⟩).2 = ec at *
    obtain ⟨M4, hM4⟩ : ∃ M4 : Mem, M4 = M3 ++ [Slot.live ⟨[iv f.n, iv f.d], true, true, 34, 2⟩] := ⟨_, rfl⟩
    have k34 : Keeps M3 M4 := by rw [hM4]; exact keeps_app _
    have lf : cellsAt M4 M3.length 0 2 = some [iv f.n, iv f.d] := by rw [hM4]; simp
    have n4 : M4.length = M3.length + 1 := by rw [hM4]; simp
    rw [← hM4]
    clear hM4
    by_cases hec : ec = 0
    case neg =>
      simp (disch := omega) [hec, t4, sc_build0]
      exact fin_sc .nil (by simp) (kk3.trans k34) (k34.get r3)
    have hpa := put_whole (b := M.length) (vs := [iv f.n, iv f.d]) (k34.get ba) (by omega) rfl (by simp)
    simp (disch := omega) [hec, lf, t8, hpa, t11, wrap_in]
    exact lpI (m - 1) (by omega) ⟨i + 1, f, u, v3, acc3, by omega, (Same.set (B := M1.length) (Nat.le_refl _)).keeps (hK.trans k34) (Nat.le_refl _), by simp; omega, List.getElem?_set_self (by omega), (hA.keeps k34).set_ne (by omega), by omega, by simp, by simp [t10], by simp [t9], by simp [t8], by simp [t6], by simp [t4], by simp [t1]⟩
  have hj' : (j : Int) < n1' := by omega
  obtain ⟨ip, op, rfl, hep, hcp⟩ := (hps.keeps hK).at_ hj
  obtain ⟨p, hpe⟩ : ∃ p, p = el x.ps j := ⟨_, rfl⟩
  rw [← hpe] at hcp
  have lp := pitch_load hcp
  have hpB : pitchB p = true := by rw [hpe]; exact hxp.2 j (by omega)
  obtain ⟨p1, p2, p3, p4⟩ := pitchB_r hpB
  simp (disch := omega) [t13, t12, x1, hj, hj']
  refine awDraw_M 17 [[],[],[1],[2,1],[3,2,1],[],[5],[6,5],[7,6,5],[],[8,7,6,5,9],[10,8,7,6,5,9],[11,10,8,7,6,5,9],[],[],[0,4,3,2,1,12,11,10,8,7,6,5,9,13,14],[],[16,15,0,4,3,2,1,12,11,10,8,7,6,5,9,13,14]] [] (by kernel_rfl) (by decide +kernel) (by decide +kernel) ?_
  simp (disch := omega) [t13, t12, t8, t9, t1, x1, x2, la, hj, hj', hep, lp]
  refine awCall_det' (d := true) (l16Key_s p p1 p2 p3) (by omega) ?_
  refine ⟨[], by simp, ?_⟩
  rw [n_build5, ow_some]
  refine ⟨[], by simp [maskP], ?_⟩
  simp (disch := omega)
  obtain ⟨y, hy⟩ : ∃ y : Note, y = ⟨a.n, a.d, x.ln, x.ld, keyV p, u, ch⟩ := ⟨_, rfl⟩
  have hyr : ([iv a.n, iv a.d, iv x.ln, iv x.ld, iv (keyV p), iv u, iv ch] : List Value) = y.row := by rw [hy]; rfl
  rw [hyr]
  obtain ⟨M4, hM4⟩ : ∃ M4 : Mem, M4 = M3 ++ [Slot.live ⟨y.row, true, true, 36, 7⟩] := ⟨_, rfl⟩
  have k34 : Keeps M3 M4 := by rw [hM4]; exact keeps_app _
  have by4 : M4[M3.length]? = some (.live ⟨y.row, true, true, 36, 7⟩) := by rw [hM4]; exact getElem?_snoc_eq
  have n4 : M4.length = M3.length + 1 := by rw [hM4]; simp
  rw [← hM4]
  clear hM4
  refine awCall_det' (l18Note_a (note_cl by4)) (by omega) ?_
  by_cases hyB : noteB y = true
  case neg =>
    simp (disch := omega) [hyB, t4, sc_build0]
    exact fin_sc .nil (by simp) (kk3.trans k34) (k34.get r3)
  have ly := cells_hr (n := 7) by4 rfl
  simp only [Note.row] at ly
  simp (disch := omega) [hyB, t10, ly, fill_oneNt]
  have kx := keeps_app (M := M4) [Slot.live ⟨[iv y.an, iv y.ad, iv y.ln, iv y.ld, iv y.k, iv y.u, iv y.o], true, true, 36, 7⟩]
  refine (hA.keeps (k34.trans kx)).append (R := noteR) (e := 36) (by_ := 56) (a := y) (by omega) (by simp; omega) (by omega) (by simp) (by kernel_rfl) (by simp [srcOf, noteR, Note.row]) (by rfl) (by omega) (by unfold maxLen; omega) ?_
  intro v' M5 h1 h2
  have n5 : M4.length + 1 ≤ M5.length := by have := h2.1; simpa using this
  have ba5 := h2.2 _ _ (by omega) (kx.get (k34.get ba))
  simp (disch := omega) [t13, wrap_in]
  exact lpI (m2 - 1) (by omega) ⟨j + 1, v', _, by omega, (h2.low (B' := M1.length) (by omega)).keeps ((hK.trans k34).trans kx) (Nat.le_refl _), by omega, ba5, h1, by simp; omega, by simp, by simp [t12], by simp [t11], by simp, by simp [t9], by simp [t8], by simp [t6], by simp [t4], by simp [t1]⟩
end Go.Proofs.YtodbjnngkonklaaGreat
