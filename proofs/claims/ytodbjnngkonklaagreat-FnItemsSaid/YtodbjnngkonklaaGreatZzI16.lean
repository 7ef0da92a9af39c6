/- Parts of the proof, together: Draws: items. Draws: small intervals. The items that are played, without moves: the program's. Repetitions: the program's. Folding, in plain words: what is folded flattens back. No conditions. -/
import Derived.Test.YtodbjnngkonklaaGreatZzI15
import Derived.Test.YtodbjnngkonklaaGreatZzI13
import Derived.Test.YtodbjnngkonklaaGreatZzI14
namespace Go.Proofs.YtodbjnngkonklaaGreat
open Go.RowKit
set_option linter.unusedVariables false
set_option linter.unusedSimpArgs false
set_option maxRecDepth 100000
attribute [local simp] List.getElem?_cons_zero
attribute [local irreducible] awCond awCall awLoop awDraw ow retQ retC resQ Keeps
theorem bld_noteS (a b : Int) (A : Option Addr) (n c : Nat) : Instr.fill (fun x => [(0, 1), (1, 1), (2, 2), (4, 1), (5, 2), (7, 1)][x]?) #[iv 0, .slice none 0 0, iv 0, iv 0, iv 0, iv 0, iv 0, iv 0] [(0, iv 1), (2, .agg #[iv a, iv b]), (1, .slice A n c)] = some #[iv 1, .slice A n c, iv a, iv b, iv 0, iv 0, iv 0, iv 0] := by rfl
theorem fill_onePt (a b c : Int) : Instr.fill (fun i => some (i * 3, 3)) (zrow [iv 0, iv 0, iv 0] 1).toArray [(0, .agg #[iv a, iv b, iv c])] = some #[iv a, iv b, iv c] := by kernel_rfl
def zItem : Slot := .live ⟨[iv 0, .slice none 0 0, iv 0, iv 0, iv 0, iv 0, iv 0, iv 0], true, true, 60, 8⟩
def nItem (u : Value) (ln ld : Int) : Slot := .live ⟨[iv 1, u, iv ln, iv ld, iv 0, iv 0, iv 0, iv 0], true, true, 60, 8⟩
def PS (B : Nat) (M : Mem) (u : Value) : Prop := ∃ (p : Pitch) (id : Nat), u = .slice (some ⟨id, 0, none⟩) 1 1 ∧ B ≤ id ∧ M[id]? = some (.live ⟨[iv p.s, iv p.a, iv p.o], true, true, 62, 3⟩)
theorem PS.grow {B g : Nat} {M M' : Mem} {u : Value} (h : PS B M u) (hg : g < B) (w : Grow g M M') : PS B M' u := by
  obtain ⟨p, id, h1, h2, h3⟩ := h
  exact ⟨p, id, h1, h2, w.2 _ _ (by omega) h3⟩
structure R9 (g B k2 : Nat) (ln ld : Int) (M2 : Mem) (X : Nat → Bool) (γ : Nat → Value) (M : Mem) : Prop where
  grow : Grow g M2 M
  src : ∃ k', k' ≤ k2 + (if X 2 = true then 6 else 0) ∧ Src g B M k'
  o0 : X 0 = true → γ 0 = .agg #[iv ln, iv ld]
  o1 : X 1 = true → γ 1 = .pointer (some ⟨g, 0, none⟩)
  o2 : X 2 = true → ∃ p : Pitch, γ 2 = p.v
  o3 : X 3 = true → PS M2.length M (γ 3)
  o4 : X 4 = true → ∃ u, γ 4 = .agg #[iv 1, u, iv ln, iv ld, iv 0, iv 0, iv 0, iv 0] ∧ PS M2.length M u
  o5 : X 5 = true → X 6 = false → ∃ id, γ 5 = .pointer (some ⟨id, 0, none⟩) ∧ M2.length ≤ id ∧ M[id]? = some zItem
  o6 : X 6 = true → ∃ id u, γ 5 = .pointer (some ⟨id, 0, none⟩) ∧ M2.length ≤ id ∧ M[id]? = some (nItem u ln ld) ∧ PS M2.length M u
theorem R9.up {g B k2 k : Nat} {ln ld : Int} {M2 M M' : Mem} {X : Nat → Bool} {γ : Nat → Value} {v : Value} (h : R9 g B k2 ln ld M2 X γ M) (hgl : g < M2.length) (h6 : X 6 = false) (hg : Grow g M M') (hs : ∃ k', k' ≤ k2 + (if upX X k 2 = true then 6 else 0) ∧ Src g B M' k')
    (hv : match k with
      | 0 => v = .agg #[iv ln, iv ld]
      | 1 => v = .pointer (some ⟨g, 0, none⟩)
      | 2 => ∃ p : Pitch, v = p.v
      | 3 => PS M2.length M' v
      | 4 => ∃ u, v = .agg #[iv 1, u, iv ln, iv ld, iv 0, iv 0, iv 0, iv 0] ∧ PS M2.length M' u
      | 5 => ∃ id, v = .pointer (some ⟨id, 0, none⟩) ∧ M2.length ≤ id ∧ M'[id]? = some zItem
      | _ => False) : R9 g B k2 ln ld M2 (upX X k) (upG γ k v) M' := by
  refine ⟨h.grow.trans hg, hs, ?_, ?_, ?_, ?_, ?_, ?_, ?_⟩
  · intro hX
    by_cases e : 0 = k
    · subst e; simpa using hv
    · rw [upX_ne e] at hX; rw [upG_ne e]; exact h.o0 hX
  · intro hX
    by_cases e : 1 = k
    · subst e; simpa using hv
    · rw [upX_ne e] at hX; rw [upG_ne e]; exact h.o1 hX
  · intro hX
    by_cases e : 2 = k
    · subst e; simpa using hv
    · rw [upX_ne e] at hX; rw [upG_ne e]; exact h.o2 hX
  · intro hX
    by_cases e : 3 = k
    · subst e; simpa using hv
    · rw [upX_ne e] at hX; rw [upG_ne e]; exact (h.o3 hX).grow hgl hg
  · intro hX
    by_cases e : 4 = k
    · subst e; simpa using hv
    · rw [upX_ne e] at hX; rw [upG_ne e]
      obtain ⟨u, h1, h2⟩ := h.o4 hX
      exact ⟨u, h1, h2.grow hgl hg⟩
  · intro hX hX6
    by_cases e : 5 = k
    · subst e; simpa using hv
    · rw [upX_ne e] at hX; rw [upG_ne e]
      obtain ⟨id, h1, h2, h3⟩ := h.o5 hX h6
      exact ⟨id, h1, h2, hg.2 _ _ (by omega) h3⟩
  · intro hX
    by_cases e : 6 = k
    · subst e; exact hv.elim
    · rw [upX_ne e, h6] at hX; cases hX
theorem Acc.stayL {α : Type} {k : Nat} {R : RecV α k} {e : TypeId} {B : Nat} {M M' : Mem} {v : Value} {l : List α} (h : Acc R e B M v l) (hm : ∀ (i : Nat) s, B ≤ i → i < M.length → M[i]? = some s → M'[i]? = some s) : Acc R e B M' v l := by
  obtain ⟨A, n, c, rfl, hl, hA⟩ := h
  refine ⟨A, n, c, rfl, hl, ?_⟩
  rcases hA with hA | ⟨id, t, rfl, hid, hr⟩
  · exact .inl hA
  · exact .inr ⟨id, t, rfl, hid, hm id _ hid (List.getElem?_eq_some_iff.1 hr).1 hr⟩
theorem Acc.away {α : Type} {k id : Nat} {R : RecV α k} {e : TypeId} {B : Nat} {M M' : Mem} {v : Value} {l : List α} (h : Acc R e B M v l) (ha : Apart v id) (hm : ∀ (i : Nat) s, i ≠ id → M[i]? = some s → M'[i]? = some s) : Acc R e B M' v l := by
  obtain ⟨A, n, c, rfl, hl, hA⟩ := h
  refine ⟨A, n, c, rfl, hl, ?_⟩
  rcases hA with hA | ⟨i, t, rfl, hid, hr⟩
  · exact .inl hA
  · exact .inr ⟨i, t, rfl, hid, hm i _ (Ne.symm (ha _ _ _ _ rfl rfl)) hr⟩
theorem itm_end {b g B : Nat} {M N : Mem} {x : Item} {u : Value} {k k0 : Nat} (hb : b ≤ M.length) (hB : B ≤ M.length) (e2 : N[M.length]? = some zItem) (e3 : Src g B N k) (e4 : Grow g M N) (e5 : k ≤ k0) (hu : Acc pitchR 62 (M.length + 1) N u x.ps) (h1 : 1 ≤ x.j ∧ x.j ≤ 3) (h2 : x.ps.length ≤ 6) :
    ∃ N', putCells b N M.length 0 [iv x.j, u, iv x.ln, iv x.ld, iv x.x, iv x.mt, iv x.mh, iv x.z] = some N' ∧ cellsAt N' M.length 0 8 = some [iv x.j, u, iv x.ln, iv x.ld, iv x.x, iv x.mt, iv x.mh, iv x.z] ∧ 
    ∃ (x' : Item) (u' : Value), Value.agg #[iv x.j, u, iv x.ln, iv x.ld, iv x.x, iv x.mt, iv x.mh, iv x.z] = .agg #[iv x'.j, u', iv x'.ln, iv x'.ld, iv x'.x, iv x'.mt, iv x'.mh, iv x'.z] ∧ Acc pitchR 62 M.length N' u' x'.ps ∧ (1 ≤ x'.j ∧ x'.j ≤ 3) ∧ x'.ps.length ≤ 6 ∧ Grow g M N' ∧ ∃ k' : Nat, k' ≤ k0 ∧ Src g B N' k' := by
  have lr := (List.getElem?_eq_some_iff.1 e2).1
  obtain ⟨A, n, c, rfl, -, -, -⟩ := hu.sl
  refine ⟨_, put_whole e2 (by omega) rfl (by simp), cells_hr (n := 8) (set_get lr) rfl, x, _, rfl, (hu.set_ne (by omega)).low (by omega), h1, h2, e4.new (Same.set (B := M.length) (Nat.le_refl _)) (Nat.le_refl _), k, e5, e3.same (Same.set hB)⟩
set_option maxHeartbeats 8000000 in
theorem l19DrawItem_b {M : Mem} {b g k B : Nat} (h : Src g B M k) (hb : b ≤ g) (hB : B ≤ M.length) (hk : k ≤ 100000) :
    Ctr Tryz.prog b 47 [.pointer (some ⟨g, 0, none⟩)] M fun r M' => ∃ (x : Item) (u : Value), r = .agg #[iv x.j, u, iv x.ln, iv x.ld, iv x.x, iv x.mt, iv x.mh, iv x.z] ∧ Acc pitchR 62 M.length M' u x.ps ∧ (1 ≤ x.j ∧ x.j ≤ 3) ∧ x.ps.length ≤ 6 ∧ Grow g M M' ∧ ∃ k' : Nat, k' ≤ k + 40 ∧ Src g B M' k' := by
  have hg := h.lt
  first | (refine ctr_fn Tryz.func47 rfl Tryz.ntmps47 Tryz.results47 rfl rfl (by simp) ?_) | (refine ctr_fnC Tryz.func47 rfl Tryz.ntmps47 Tryz.results47 rfl (by simp) ?_)
  simp
  refine awCall_ctr (l02Beat_a 2 (by omega) (by omega) (h.app _) hb (by simp; omega) (by omega)) ?_
  rintro _ M1 ⟨f, k1, rfl, hf, hk1, h1, u1⟩
  have r1 : M1[M.length]? = some zItem := u1.2 _ _ (by omega) getElem?_snoc_eq
  have g1 : Grow g M M1 := (Grow.app g M _).trans u1
  have n1 := u1.1
  simp only [List.length_append, List.length_singleton] at n1
  clear u1 hf
  refine ⟨rfl, ?_⟩
  rw [put_box (b := b) (cs := [iv 0, iv 0]) (vs := f.v.cells.toList) (by omega) rfl (by simp), ow_some]
  rw [show f.v.cells.toList = [iv f.n, iv f.d] from rfl]
  obtain ⟨M2, hM2⟩ : ∃ M' : Mem, M' = M1 ++ [Slot.live ⟨[iv f.n, iv f.d], true, true, 34, 2⟩] := ⟨_, rfl⟩
  have h2 : Src g B M2 k1 := by rw [hM2]; exact h1.app _
  have g2 : Grow g M M2 := by rw [hM2]; exact g1.trans (Grow.app g M1 _)
  have f2 : M2[M1.length]? = some (.live ⟨[iv f.n, iv f.d], true, true, 34, 2⟩) := by rw [hM2]; exact getElem?_snoc_eq
  have r2 : M2[M.length]? = some zItem := by rw [hM2, List.getElem?_append_left (by omega)]; exact r1
  have n2 : M2.length = M1.length + 1 := by rw [hM2]; simp
  rw [← hM2]
  clear hM2 h1 g1 r1
  generalize hq : M1.length = q at *
  clear hq
  have c20 := cell_hr f2 0
  simp [c20]
  refine awCond_join (fun T' M' => ∃ (ln ld : Int), M'[q]? = some (.live ⟨[iv ln, iv ld], true, true, 34, 2⟩) ∧ M'[M.length]? = some zItem ∧ Src g B M' k1 ∧ Grow g M M' ∧ M'.length = q + 1 ∧ look T' 0 = some (.pointer (some ⟨g, 0, none⟩)) ∧ look T' 2 = some (.pointer (some ⟨M.length, 0, none⟩)) ∧ look T' 3 = some (.pointer (some ⟨q, 0, none⟩))) ?_ ?_ ?_
  · intro Q' hQ _
    simp [fr_build2]
    rw [put_whole (vs := [iv 1, iv 4]) f2 (by omega) rfl (by simp), ow_some]
    refine hQ _ _ ⟨1, 4, set_get (by omega), by rw [List.getElem?_set_ne (by omega)]; exact r2, h2.same (Same.set (by omega)), g2.new (Same.set (B := q) (Nat.le_refl _)) (by omega), by simp; omega, by simp, by simp, by simp⟩
  · intro Q' hQ _
    try simp
    exact hQ _ _ ⟨_, _, f2, r2, h2, g2, by omega, by simp, by simp, by simp⟩
  clear f2 r2 h2 g2 n2 c20 n1
  rintro T3 M3 ⟨ln, ld, f3, r3, h3, g3, n3, t0, t2, t3⟩
  have hMq : M.length < q := by
    have := (List.getElem?_eq_some_iff.1 r3).1
    rcases Nat.lt_trichotomy M.length q with h | h | h
    · exact h
    · rw [h, f3] at r3; cases r3
    · omega
  simp (disch := omega) [t0]
  refine awCall_ctr (h3.pick 6 hb (by omega) (by omega)) ?_
  rintro _ M4 ⟨x, k4, rfl, x0, x1, hk4, h4, u4⟩
  have f4 := u4.2 _ _ (by omega) f3
  have r4 := u4.2 _ _ (by omega) r3
  have n4 := u4.1
  have g4 := g3.trans u4.grow
  clear f3 r3 h3 g3 u4
  have cf := cells_hr (n := 2) f4 rfl
  simp only at cf
  simp
  by_cases e0 : x = 0
  · simp [e0, t3, t2, cf, bld_rest]
    obtain ⟨N', q1, q2, q3⟩ := itm_end (b := b) (x := ⟨2, [], ln, ld, 0, 0, 0, 0⟩) (u := .slice none 0 0) (k0 := k + 40) (by omega) hB r4 h4 g4 (by omega) .nil ⟨by show (1 : Int) ≤ 2; omega, by show (2 : Int) ≤ 3; omega⟩ (by simp)
    rw [q1, ow_some, q2, ow_some]
    exact q3
  simp [e0]
  by_cases e1 : x = 1
  · simp [e1, t0, t2]
    rw [fill5, ow_some]
    try simp
    refine awCall_ctr (among_new (b := b) (M := M4) (n := 5) [1, 64, 80, 90, 127] rfl h4 hb (by omega) (by omega) (by omega) rfl (by omega)) ?_
    rintro _ N1 ⟨z, c1, rfl, hz, hc1, i1, v1⟩
    have rN1 := v1.2 _ _ (by omega) r4
    simp [bld_loud, t2]
    obtain ⟨N', q1, q2, q3⟩ := itm_end (b := b) (x := ⟨3, [], 0, 0, z, 0, 0, 0⟩) (u := .slice none 0 0) (k0 := k + 40) (by omega) hB rN1 i1 (g4.trans v1) (by omega) .nil ⟨by show (1 : Int) ≤ 3; omega, by show (3 : Int) ≤ 3; omega⟩ (by simp)
    rw [q1, ow_some, q2, ow_some]
    exact q3
  simp [e1]
  have hgl : g < M4.length := by omega
  refine awDraw_G (R9 g B k4 ln ld M4) (by kernel_rfl) (by decide +kernel) (by decide +kernel) (fun γ => ⟨.refl _ _, ⟨k4, by omega, h4⟩, (fun h => by cases h), (fun h => by cases h), (fun h => by cases h), (fun h => by cases h), (fun h => by cases h), (fun h => by cases h), (fun h => by cases h)⟩) ?_ ?_
  · intro X γ T' M' kk o K hC hT hG ho hX ha hK
    have f0 := (hT.frame' 0 (by decide +kernel)).trans ((look_other (by omega)).trans ((look_other (by omega)).trans ((look_other (by omega)).trans ((look_other (by omega)).trans ((look_other (by omega)).trans ((look_other (by omega)).trans t0))))))
    have f3 := (hT.frame' 3 (by decide +kernel)).trans ((look_other (by omega)).trans ((look_other (by omega)).trans ((look_other (by omega)).trans ((look_other (by omega)).trans ((look_other (by omega)).trans ((look_other (by omega)).trans t3))))))
    have ah := fun j he => edge_ahead ho ha j he
    have dn := fun j d hj hd => hT.done j d hj hd
    have h6 : X 6 = false := by
      cases h6 : X 6 with
      | false => rfl
      | true =>
        have : ∀ j, j < 6 → X j = true := fun j hj => hC.at_ j h6 (by
          rcases j with _ | _ | _ | _ | _ | _ | j
          · decide +kernel
          · decide +kernel
          · decide +kernel
          · decide +kernel
          · decide +kernel
          · decide +kernel
          · omega)
        have hk7 : kk < 7 := by have := (List.getElem?_eq_some_iff.1 ho).1; simpa using this
        by_cases e : kk = 6
        · rw [e, h6] at hX; cases hX
        · rw [this kk (by omega)] at hX; cases hX
    obtain ⟨k', hk', hsrc⟩ := hG.src
    have hgr := hG.grow
    have nM := hgr.1
    have same : ∀ j : Nat, j ≠ 2 → ∃ k', k' ≤ k4 + (if upX X j 2 = true then 6 else 0) ∧ Src g B M' k' := fun j hj => ⟨k', by rw [upX_ne (Ne.symm hj)]; exact hk', hsrc⟩
    have sameL : ∀ (j : Nat) (L : Mem), j ≠ 2 → ∃ k', k' ≤ k4 + (if upX X j 2 = true then 6 else 0) ∧ Src g B (M' ++ L) k' := fun j L hj => ⟨k', by rw [upX_ne (Ne.symm hj)]; exact hk', hsrc.app L⟩
    rcases kk with _ | _ | _ | _ | _ | _ | _ | kk
    · have cf' := cells_hr (n := 2) (hgr.2 _ _ (by omega) f4) rfl
      simp only at cf'
      simp at ho; subst ho
      simp [f3, cf']
      exact hK _ _ (hG.up hgl h6 (.refl _ _) (same 0 (by omega)) rfl)
    · simp at ho; subst ho
      simp [f0]
      exact hK _ _ (hG.up hgl h6 (.refl _ _) (same 1 (by omega)) rfl)
    · have x1 := ah 1 (by decide +kernel)
      have d1 := dn 1 26 x1 rfl
      rw [hG.o1 x1] at d1
      simp at ho; subst ho
      simp [d1]
      refine awCall_ctr (l16Draw_b hsrc hb (by omega) (by split at hk' <;> omega)) ?_
      rintro r M5 ⟨p, k5, rfl, hk5, h5, u5⟩
      rw [if_neg (by rw [hX]; simp)] at hk'
      exact hK _ _ (hG.up hgl h6 u5 ⟨k5, by rw [upX_same]; simp; omega, h5⟩ ⟨p, rfl⟩)
    · have x2 := ah 2 (by decide +kernel)
      have d2 := dn 2 27 x2 rfl
      obtain ⟨p, hp⟩ := hG.o2 x2
      rw [hp] at d2
      simp at ho; subst ho
      simp [d2, fill_onePt]
      exact hK _ _ (hG.up hgl h6 (Grow.app g M' _) (sameL 3 _ (by omega)) ⟨p, M'.length, rfl, by omega, getElem?_snoc_eq⟩)
    · have x0' := ah 0 (by decide +kernel)
      have d0 := dn 0 25 x0' rfl
      rw [hG.o0 x0'] at d0
      have x3 := ah 3 (by decide +kernel)
      have d3 := dn 3 28 x3 rfl
      have h3' := hG.o3 x3
      obtain ⟨p, id, hu, _⟩ := h3'
      rw [hu] at d3
      simp at ho; subst ho
      simp [d0, d3, bld_noteS]
      refine hK _ _ (hG.up hgl h6 (.refl _ _) (same 4 (by omega)) ⟨_, rfl, ?_⟩)
      rw [← hu]
      exact hG.o3 x3
    · simp at ho; subst ho
      simp
      exact hK _ _ (hG.up hgl h6 (Grow.app g M' _) (sameL 5 _ (by omega)) ⟨M'.length, rfl, by omega, getElem?_snoc_eq⟩)
    · have x4 := ah 4 (by decide +kernel)
      have d4 := dn 4 29 x4 rfl
      obtain ⟨u, hu, hps⟩ := hG.o4 x4
      obtain ⟨p, id3, rfl, hid3, hr3⟩ := hps
      rw [hu] at d4
      have x5 := ah 5 (by decide +kernel)
      have d5 := dn 5 4 x5 rfl
      obtain ⟨id, hid, hidl, hrow⟩ := hG.o5 x5 h6
      rw [hid] at d5
      have hne : id3 ≠ id := by
        intro e
        rw [e, hrow] at hr3
        simp [zItem] at hr3
      simp at ho; subst ho
      simp [d4, d5]
      have hrow' : M'[id]? = some (.live ⟨[iv 0, .slice none 0 0, iv 0, iv 0, iv 0, iv 0, iv 0, iv 0], true, true, 60, 8⟩) := hrow
      rw [put_whole (vs := [iv 1, .slice (some ⟨id3, 0, none⟩) 1 1, iv ln, iv ld, iv 0, iv 0, iv 0, iv 0]) hrow' (by omega) rfl (by simp), ow_some]
      have hil := (List.getElem?_eq_some_iff.1 hrow).1
      refine hK _ _ ⟨hgr.new (Same.set (B := M4.length) (by omega)) (Nat.le_refl _), ⟨k', by rw [upX_ne (by omega)]; exact hk', hsrc.same (Same.set (by omega))⟩, ?_, ?_, ?_, ?_, ?_, ?_, ?_⟩
      · intro h; rw [upX_ne (by omega)] at h; rw [upG_ne (by omega)]; exact hG.o0 h
      · intro h; rw [upX_ne (by omega)] at h; rw [upG_ne (by omega)]; exact hG.o1 h
      · intro h; rw [upX_ne (by omega)] at h; rw [upG_ne (by omega)]; exact hG.o2 h
      · intro h
        rw [upX_ne (by omega)] at h
        rw [upG_ne (by omega)]
        obtain ⟨p', id', w1, w2, w3⟩ := hG.o3 h
        exact ⟨p', id', w1, w2, by rw [List.getElem?_set_ne (fun e => by rw [← e, hrow] at w3; simp [zItem] at w3)]; exact w3⟩
      · intro h
        rw [upG_ne (by omega)]
        exact ⟨_, hu, p, id3, rfl, hid3, by rw [List.getElem?_set_ne (Ne.symm hne)]; exact hr3⟩
      · intro _ h; rw [upX_same] at h; cases h
      · intro _
        exact ⟨id, .slice (some ⟨id3, 0, none⟩) 1 1, by rw [upG_ne (by omega)]; exact hid, hidl, List.getElem?_set_self hil, p, id3, rfl, hid3, by rw [List.getElem?_set_ne (Ne.symm hne)]; exact hr3⟩
    · simp at ho
  intro X γ T5 M5 hX hT hG
  have f0 := (hT.frame' 0 (by decide +kernel)).trans ((look_other (by omega)).trans ((look_other (by omega)).trans ((look_other (by omega)).trans ((look_other (by omega)).trans ((look_other (by omega)).trans ((look_other (by omega)).trans t0))))))
  have f2 := (hT.frame' 2 (by decide +kernel)).trans ((look_other (by omega)).trans ((look_other (by omega)).trans ((look_other (by omega)).trans ((look_other (by omega)).trans ((look_other (by omega)).trans ((look_other (by omega)).trans t2))))))
  obtain ⟨id, u, w1, hid, hrow, hps⟩ := hG.o6 (hX 6 (by simp))
  have f4' := hT.done 5 4 (hX 5 (by simp)) rfl
  rw [w1] at f4'
  obtain ⟨k5, hk5, h5⟩ := hG.src
  rw [if_pos (hX 2 (by simp))] at hk5
  have g5 := g4.trans hG.grow
  have r5 := hG.grow.2 _ _ (by omega) r4
  have n5 := hG.grow.1
  clear hG hT hX w1
  simp (disch := omega) [f0]
  refine awCall_ctr (h5.pick 3 hb (by omega) (by omega)) ?_
  rintro _ M6 ⟨ct, k6, rfl, ct0, ct1, hk6, h6, u6⟩
  obtain ⟨cn, rfl⟩ := Int.eq_ofNat_of_zero_le ct0
  have hcn : cn ≤ 2 := by omega
  have r6 := u6.2 _ _ (by omega) r5
  have b6 := u6.2 _ _ (by omega) hrow
  obtain ⟨p, id3, rfl, hid3, hr3⟩ := hps
  have hr6 := u6.2 _ _ (by omega) hr3
  have hA6 : Acc pitchR 62 (M.length + 1) M6 (.slice (some ⟨id3, 0, none⟩) 1 1) [p] := ⟨_, 1, 1, rfl, rfl, .inr ⟨id3, true, rfl, by omega, hr6⟩⟩
  have ha6 : Apart (.slice (some ⟨id3, 0, none⟩) 1 1) id := by
    intro A n c a e1 e2
    cases e1
    cases e2
    intro e
    change id = id3 at e
    rw [← e, hrow] at hr3
    simp [nItem] at hr3
  have g6 := g5.trans u6.grow
  clear u6 h5 hrow hr3 r5 g5 hr6
  try simp
  refine awLoop_T (fun m T M' => ∃ (u : Value) (ps : List Pitch) (k' : Nat), M'[id]? = some (nItem u ln ld) ∧ Acc pitchR 62 (M.length + 1) M' u ps ∧ Apart u id ∧ ps.length ≤ 6 ∧ M'[M.length]? = some zItem ∧ Src g B M' k' ∧ k' + 6 * m ≤ k + 26 ∧ Grow g M M' ∧ look T 5 = some (iv m) ∧ look T 4 = some (.pointer (some ⟨id, 0, none⟩)) ∧ look T 2 = some (.pointer (some ⟨M.length, 0, none⟩)) ∧ look T 0 = some (.pointer (some ⟨g, 0, none⟩))) cn
    ⟨_, [p], k6, b6, hA6, ha6, by simp, r6, h6, by omega, g6, by simp, by simp [f4'], by simp [f2], by simp [f0]⟩ ?_
  clear f0 f2 f4' hA6 ha6 r6 b6 h6 g6
  rintro m T M7 ⟨u, ps, k7, b7, hA, ha, hps, r7, h7, hk7, g7, t5, t4, t2, t0⟩
  obtain ⟨A, n, c, rfl, hn, -, -⟩ := hA.sl
  have l7 := (List.getElem?_eq_some_iff.1 b7).1
  rcases m with _ | m
  · have cc := cells_hr (n := 8) b7 rfl
    simp only [nItem] at cc
    simp (disch := omega) [t5, t4, t2, cc]
    obtain ⟨N', q1, q2, q3⟩ := itm_end (b := b) (x := ⟨1, ps, ln, ld, 0, 0, 0, 0⟩) (u := .slice A n c) (k0 := k + 40) (by omega) hB r7 h7 g7 (by omega) hA ⟨by show (1 : Int) ≤ 1; omega, by show (1 : Int) ≤ 3; omega⟩ hps
    rw [q1, ow_some, q2, ow_some]
    exact q3
  have e : (0 : Int) < (m : Int) + 1 := by omega
  have c71 : cellAt M7 id 1 = some (.slice A n c) := cell_hr b7 1
  have c71L := fun L => cellAt_app c71 L
  simp (disch := omega) [t5, t4, t2, t0, e, c71L]
  have hA0 : Acc pitchR 62 M7.length (M7 ++ [Slot.live ⟨[], true, true, 62, 3⟩]) (.slice (some ⟨M7.length, 0, none⟩) 0 0) [] := ⟨_, 0, 0, rfl, rfl, .inr ⟨M7.length, true, rfl, Nat.le_refl _, by simp [cellsL]⟩⟩
  refine hA0.extend (ls := ps) (by_ := 24) (by omega) (by simp) (by simp) (by kernel_rfl) ((hA.keeps (keeps_app _)).src ⟨_, Tryz.underlying56⟩) (pitch_one _) (by simp; omega) (by unfold maxLen; simp; omega) ?_
  intro v1 M8 hA8 hS8
  have k8 : Keeps M7 M8 := hS8.keeps (keeps_app _) (Nat.le_refl _)
  have n8 := k8.len
  obtain ⟨A8, q8, c8, rfl, hq8, -, -⟩ := hA8.sl
  try simp (disch := omega) [t0]
  refine awCall_ctr (l16Draw_b ((h7.app _).same (hS8.low (by omega))) hb (by omega) (by omega)) ?_
  rintro _ M9 ⟨p9, k9, rfl, hk9, h9, u9⟩
  have n9 := u9.1
  simp [fill_onePt]
  have hA9 := u9.acc hA8 (by omega)
  refine (hA9.keeps (keeps_app _)).append (R := pitchR) (e := 62) (by_ := 24) (a := p9) (by omega) (by simp; omega) (by omega) (by simp) (by kernel_rfl) (by simp [srcOf, pitchR, Pitch.row]) (by rfl) (by simp; omega) (by unfold maxLen; simp; omega) ?_
  intro v2 M10 hA10 hS10
  replace hA10 : Acc pitchR 62 M7.length M10 v2 (ps ++ [p9]) := hA10
  have b10 := hS10.2 _ _ l7 ((keeps_app _).get (u9.2 _ _ (by omega) (k8.get b7)))
  have r10 := hS10.2 _ _ (by omega) ((keeps_app _).get (u9.2 _ _ (by omega) (k8.get r7)))
  have h10 := (h9.app _).same (hS10.low (B' := B) (by omega))
  have g10 := ((((g7.trans k8.growQ).trans u9).trans (Grow.app g M9 _)).new hS10 (by omega))
  have hAu : Acc pitchR 62 (M.length + 1) M10 (.slice A n c) ps := hA.stayL fun i s h1 h2 hs => hS10.2 _ _ h2 ((keeps_app _).get (u9.2 _ _ (by omega) (k8.get hs)))
  obtain ⟨A2, q2, c2, rfl, hq2, hsl2, -⟩ := hA10.sl
  have hap2 := hA10.apartL (i := id) (by omega)
  have n10 := hS10.1
  try simp only [List.length_append, List.length_singleton] at n10
  have hq7 : q2 ≤ 7 := by rw [← hq2]; simp; omega
  try simp (disch := omega)
  refine awCall_det' (l19Chord_s hsl2 (by omega)) (by omega) ?_
  by_cases hch : chordB (ps ++ [p9]) = true
  · have hb10 : M10[id]? = some (.live ⟨[iv 1, .slice A n c, iv ln, iv ld, iv 0, iv 0, iv 0, iv 0], true, true, 60, 8⟩) := b10
    obtain ⟨M11, p11, b11, h11, g11, n11, w11⟩ := put_field (b := b) (vs := [.slice A2 q2 c2]) (p := 1) hb10 (by omega) (by simp) (by simp) (by omega) h10 (by omega) g10
    simp only [splice_cons, splice_nil, List.set_cons_succ, List.set_cons_zero] at b11
    simp (disch := omega) [hch, t4, p11, t5, wrap_in]
    refine lpI m (by omega) ⟨.slice A2 q2 c2, ps ++ [p9], k9, b11, (hA10.low (by omega)).away hap2 w11, hap2, by unfold chordB at hch; simp only [Bool.and_eq_true, decide_eq_true_eq] at hch; exact hch.2.2, w11 _ _ (by omega) r10, h11, by omega, g11, by simp, by simp [t4], by simp [t2], by simp [t0]⟩
  · simp (disch := omega) [hch, t4, t5, wrap_in]
    exact lpI m (by omega) ⟨_, ps, k9, b10, hAu, ha, hps, r10, h10, by omega, g10, by simp, by simp [t4], by simp [t2], by simp [t0]⟩
end Go.Proofs.YtodbjnngkonklaaGreat

namespace Go.Proofs.YtodbjnngkonklaaGreat
open Go.RowKit
set_option linter.unusedVariables false
set_option linter.unusedSimpArgs false
set_option maxRecDepth 100000
attribute [local simp] List.getElem?_cons_zero
attribute [local irreducible] awCond awCall awLoop awDraw ow retQ retC resQ Keeps
def strQ : RecV ByteArray 1 := ⟨fun s => [.string s], fun _ => rfl⟩
theorem fill_strs {z : ByteArray} (l : List ByteArray) {n : Nat} (hn : l.length = n) : Instr.fill (fun i => some (i, 1)) (zrow [.string z] n).toArray (((l.map Value.string).zipIdx 0).map fun x => (x.2, x.1)) = some (cellsL strQ l).toArray := by
  have h := Go.Great.fill_whole (s := 1) (by omega) (l.map Value.string) (zrow [.string z] n).toArray (fun v hv => by obtain ⟨x, -, rfl⟩ := List.mem_map.1 hv; rfl) (by simp [zrow, hn])
  simp only [Nat.mul_one] at h
  rw [h]
  congr 2
  clear h hn
  induction l with
  | nil => rfl
  | cons a l ih => simp only [List.map_cons, List.flatMap_cons, ih, cells_str]; rfl
theorem text_w {M : Mem} {b g k B n c : Nat} {A : Option Addr} {l : List ByteArray} (h : Src g B M k) (hb : b ≤ g) (hk : k + 2 ≤ 1099511627776) (hl : Sl strQ M A n l) (hA : ∀ a, A = some a → 0 < n → a.block ≠ g) (h0 : 0 < n) (hn : n ≤ 1099511627776) :
    Ctr Tryz.prog b 85 [.pointer (some ⟨g, 0, none⟩), .slice A n c] M fun r M' => ∃ (x : ByteArray) (k' : Nat), r = .string x ∧ x ∈ l ∧ k' ≤ k + 2 ∧ Src g B M' k' ∧ UpdS g M M' := by
  have hll := hl.1
  first | (refine ctr_fn Tryz.func85 rfl Tryz.ntmps85 Tryz.results85 rfl rfl (by simp) ?_) | (refine ctr_fnC Tryz.func85 rfl Tryz.ntmps85 Tryz.results85 rfl (by simp) ?_)
  simp
  refine awCall_ctr (h.pick n hb hk (by omega)) ?_
  rintro r M1 ⟨x, k1, rfl, x0, x1, hk1, h1, u1⟩
  obtain ⟨q, rfl⟩ := Int.eq_ofNat_of_zero_le x0
  have hq : q < n := by omega
  obtain ⟨id, off, rfl, he, hc⟩ := (u1.sl hl hA).at_ hq
  have c0 : cellAt M1 id (off + q * 1) = some (.string (el l q)) := hc 0 _ rfl
  simp only [Nat.mul_one] at c0
  simp (disch := omega) [hq, he, c0]
  exact ⟨el_mem (by omega), k1, hk1, h1, u1⟩
def mvL : List ByteArray := [⟨#[109, 51]⟩, ⟨#[77, 51]⟩, ⟨#[80, 53]⟩, ⟨#[80, 52]⟩, ⟨#[45, 80, 53]⟩, ⟨#[45, 109, 50]⟩, ⟨#[77, 50]⟩, ⟨#[65, 49]⟩, ⟨#[80, 49]⟩, ⟨#[80, 56]⟩, ⟨#[45, 80, 56]⟩]
theorem mvL_size : ∀ s, s ∈ mvL → s.size ≤ 1000 := by
  intro s hs
  simp only [mvL, List.mem_cons, List.not_mem_nil, or_false] at hs
  rcases hs with h | h | h | h | h | h | h | h | h | h | h <;> (rw [h]; decide)
theorem fin_mv {b g B k k0 : Nat} {M N : Mem} (t h : Int) (hb : b ≤ M.length) (hB : B ≤ M.length) (hr : N[M.length]? = some zInt) (hg : Grow g M N) (hs : Src g B N k) (hk : k ≤ k0) : ow (putCells b N M.length 0 [iv t, iv h]) fun M' => ow (cellsAt M' M.length 0 2) fun cs => (∃ x : Interval, Value.agg cs.toArray = x.v) ∧ Grow g M M' ∧ ∃ k' : Nat, k' ≤ k0 ∧ Src g B M' k' := by
  have lr := (List.getElem?_eq_some_iff.1 hr).1
  rw [put_whole (vs := [iv t, iv h]) hr hb rfl (by simp), ow_some, cells_hr (r := ⟨[iv t, iv h], true, true, 58, 2⟩) (n := 2) (set_get lr) rfl, ow_some]
  exact ⟨⟨⟨t, h⟩, rfl⟩, hg.new (Same.set (B := M.length) (Nat.le_refl _)) (Nat.le_refl _), k, hk, hs.same (Same.set hB)⟩
theorem mv_fill : Instr.fill (fun i => some (i, 1)) (zrow [Value.string ByteArray.empty] 11).toArray [(0, Value.string { data := #[109, 51] }), (1, Value.string { data := #[77, 51] }), (2, Value.string { data := #[80, 53] }), (3, Value.string { data := #[80, 52] }), (4, Value.string { data := #[45, 80, 53] }), (5, Value.string { data := #[45, 109, 50] }), (6, Value.string { data := #[77, 50] }), (7, Value.string { data := #[65, 49] }), (8, Value.string { data := #[80, 49] }), (9, Value.string { data := #[80, 56] }), (10, Value.string { data := #[45, 80, 56] })] = some (cellsL strQ mvL).toArray := fill_strs mvL rfl
set_option maxHeartbeats 4000000 in
theorem l19DrawMove_b {M : Mem} {b g k B : Nat} (h : Src g B M k) (hb : b ≤ g) (hB : B ≤ M.length) (hk : k ≤ 1000000) :
    Ctr Tryz.prog b 48 [.pointer (some ⟨g, 0, none⟩)] M fun r M' => ∃ i : Interval, r = i.v ∧ Grow g M M' ∧ ∃ k' : Nat, k' ≤ k + 2 ∧ Src g B M' k' := by
  have hg := h.lt
  first | (refine ctr_fn Tryz.func48 rfl Tryz.ntmps48 Tryz.results48 rfl rfl (by simp) ?_) | (refine ctr_fnC Tryz.func48 rfl Tryz.ntmps48 Tryz.results48 rfl (by simp) ?_)
  simp
  rw [mv_fill, ow_some]
  obtain ⟨M0, hM0⟩ : ∃ M0 : Mem, M0 = M ++ [Slot.live ⟨[iv 0, iv 0], true, true, 58, 2⟩] := ⟨_, rfl⟩
  have g0 : Grow g M M0 := by rw [hM0]; exact Grow.app g M _
  have h0 : Src g B M0 k := by rw [hM0]; exact h.app _
  have r0 : M0[M.length]? = some zInt := by rw [hM0]; exact getElem?_snoc_eq
  have n0 : M0.length = M.length + 1 := by rw [hM0]; simp
  rw [← hM0]
  clear hM0
  obtain ⟨M1, hM1⟩ : ∃ M1 : Mem, M1 = M0 ++ [Slot.live ⟨cellsL strQ mvL, true, true, 9, 1⟩] := ⟨_, rfl⟩
  have hsl : Sl strQ M1 (some ⟨M0.length, 0, none⟩) 11 mvL := by rw [hM1]; exact Sl.new rfl
  have g1 : Grow g M M1 := by rw [hM1]; exact g0.trans (Grow.app g M0 _)
  have h1 : Src g B M1 k := by rw [hM1]; exact h0.app _
  have r1 : M1[M.length]? = some zInt := by rw [hM1]; exact (keeps_app _).get r0
  have n1 : M1.length = M0.length + 1 := by rw [hM1]; simp
  simp
  rw [← hM1]
  clear hM1
  refine awCall_ctr (text_w (c := 11) h1 hb (by omega) hsl (fun a e _ => by injection e with e; subst e; show M0.length ≠ g; omega) (by omega) (by omega)) ?_
  rintro _ M2 ⟨x, k2, rfl, hx, hk2, h2, u2⟩
  have n2 := u2.1
  try simp
  refine awCall_ctr ((ReadInterval_w x (mvL_size x hx)).weaken (by omega)) ?_
  rintro _ M3 ⟨i, ok, rfl, k3⟩
  have n3 := k3.len
  simp
  rw [put_box (b := b) (cs := [iv 0, iv 0]) (vs := [iv i.t, iv i.h]) (by omega) rfl (by simp), ow_some]
  obtain ⟨M4, hM4⟩ : ∃ M4 : Mem, M4 = M3 ++ [Slot.live ⟨[iv i.t, iv i.h], true, true, 58, 2⟩] := ⟨_, rfl⟩
  have k4 : Keeps M2 M4 := by rw [hM4]; exact k3.trans (keeps_app _)
  have b4 : M4[M3.length]? = some (.live ⟨[iv i.t, iv i.h], true, true, 58, 2⟩) := by rw [hM4]; exact getElem?_snoc_eq
  rw [← hM4]
  clear hM4
  have cc4 := cells_hr (n := 2) b4 rfl
  simp only at cc4
  have r4 := k4.get (u2.2 _ _ (by omega) r1)
  have g4 : Grow g M M4 := (g1.trans u2.grow).trans k4.growQ
  have h4 : Src g B M4 k2 := h2.same k4.same
  cases ok
  · simp [in_build0]
    exact fin_mv 0 0 (by omega) hB r4 g4 h4 (by omega)
  · simp [cc4]
    exact fin_mv _ _ (by omega) hB r4 g4 h4 (by omega)
end Go.Proofs.YtodbjnngkonklaaGreat

namespace Go.Proofs.YtodbjnngkonklaaGreat
open Go.RowKit
set_option linter.unusedVariables false
set_option linter.unusedSimpArgs false
set_option maxRecDepth 100000
attribute [local simp] List.getElem?_cons_zero
attribute [local irreducible] awCond awCall awLoop awDraw ow retQ retC resQ Keeps
def flatI : List Item → List Item
  | [] => []
  | x :: r => if grpB x = true then (List.replicate (if x.j = 4 then x.x.toNat else 1) (flatI (r.take x.z.toNat))).flatten ++ flatI (r.drop x.z.toNat) else x :: flatI r
termination_by l => l.length
decreasing_by
  · simp only [List.length_take, List.length_cons]; omega
  · simp only [List.length_drop, List.length_cons]; omega
  · simp
theorem flatI_nil : flatI [] = [] := by rw [flatI]
theorem flatI_cons (x : Item) (r : List Item) : flatI (x :: r) = if grpB x = true then (List.replicate (if x.j = 4 then x.x.toNat else 1) (flatI (r.take x.z.toNat))).flatten ++ flatI (r.drop x.z.toNat) else x :: flatI r := by rw [flatI]
theorem rep_len {α : Type} (l : List α) : ∀ k, ((List.replicate k l).flatten).length = k * l.length
  | 0 => by simp
  | k + 1 => by rw [List.replicate_succ, List.flatten_cons, List.length_append, rep_len l k, Nat.add_mul, Nat.one_mul, Nat.add_comm]
theorem flat_len : ∀ (N : Nat) (l : List Item), l.length ≤ N → (flatI l).length = cntI l
  | 0, l, hl => by
    obtain rfl : l = [] := List.eq_nil_of_length_eq_zero (by omega)
    rw [flatI_nil, cntI_nil]; rfl
  | N + 1, [], _ => by rw [flatI_nil, cntI_nil]; rfl
  | N + 1, x :: r, hl => by
    simp only [List.length_cons] at hl
    rw [flatI_cons, cntI_cons]
    by_cases hg : grpB x = true
    · rw [if_pos hg, if_pos hg, List.length_append, rep_len, flat_len N _ (by rw [List.length_take]; omega), flat_len N _ (by rw [List.length_drop]; omega)]
    · rw [if_neg hg, if_neg hg, List.length_cons, flat_len N r (by omega), Nat.add_comm]
theorem flat_mem : ∀ (N : Nat) (l : List Item), l.length ≤ N → ∀ x, x ∈ flatI l → x ∈ l
  | 0, l, hl, x, h => by
    obtain rfl : l = [] := List.eq_nil_of_length_eq_zero (by omega)
    rw [flatI_nil] at h; exact h
  | N + 1, [], _, x, h => by rw [flatI_nil] at h; exact h
  | N + 1, y :: r, hl, x, h => by
    simp only [List.length_cons] at hl
    rw [flatI_cons] at h
    by_cases hg : grpB y = true
    · rw [if_pos hg] at h
      rcases List.mem_append.1 h with h | h
      · obtain ⟨s, hs, h⟩ := List.mem_flatten.1 h
        rw [(List.mem_replicate.1 hs).2] at h
        exact List.mem_cons_of_mem _ (List.mem_of_mem_take (flat_mem N _ (by rw [List.length_take]; omega) x h))
      · exact List.mem_cons_of_mem _ (List.mem_of_mem_drop (flat_mem N _ (by rw [List.length_drop]; omega) x h))
    · rw [if_neg hg] at h
      rcases List.mem_cons.1 h with h | h
      · rw [h]; exact List.mem_cons_self ..
      · exact List.mem_cons_of_mem _ (flat_mem N r (by omega) x h)
theorem TabP.at_ {B i : Nat} {M : Mem} {v : Value} {ps : List (Item × Value)} (h : TabP itN B M v ps) (hi : i < ps.length) : ∃ id off c A n c', v = .slice (some ⟨id, off, none⟩) ps.length c ∧ rowEsz M id = some 8 ∧ (el ps i).2 = .slice A n c' ∧ cellsAt M id (off + i * 8) 8 = some [iv (el ps i).1.j, .slice A n c', iv (el ps i).1.ln, iv (el ps i).1.ld, iv (el ps i).1.x, iv (el ps i).1.mt, iv (el ps i).1.mh, iv (el ps i).1.z] ∧ Sl pitchR M A n (el ps i).1.ps := by
  obtain ⟨A, n, c, rfl, hn, hs, -⟩ := h.1.sl
  obtain ⟨id, off, rfl, he, hc⟩ := hs.at_ (i := i) (by omega)
  obtain ⟨A2, n2, c2, hq, hn2, hs2, -⟩ := (h.2 _ (el_mem hi)).1.sl
  refine ⟨id, off, c, A2, n2, c2, by rw [hn], he, hq, ?_, hs2⟩
  rw [← hq]
  exact cellsAt_of hc rfl (by omega)
theorem itemB_ps {x : Item} (h : itemB x = true) : x.ps.length ≤ 6 := by
  unfold itemB at h
  split at h
  · simp only [Bool.and_eq_true, decide_eq_true_eq] at h
    have h := h.1
    unfold chordB at h
    simp only [Bool.and_eq_true, decide_eq_true_eq] at h
    exact h.2.2
  split at h
  · simp only [Bool.and_eq_true, decide_eq_true_eq] at h; rw [h.1]; exact Nat.zero_le _
  split at h
  · simp only [Bool.and_eq_true, decide_eq_true_eq] at h; rw [h.1]; exact Nat.zero_le _
  split at h
  · simp only [Bool.and_eq_true, decide_eq_true_eq] at h; rw [h.1]; exact Nat.zero_le _
  split at h
  · simp only [Bool.and_eq_true, decide_eq_true_eq] at h; rw [h.1]; exact Nat.zero_le _
  · cases h
def FlatTo (N : Nat) : Prop := ∀ (M : Mem) (A : Option Addr) (n c : Nat) (l : List Item) (lo hi d : Nat), SlP itemP lo hi M A n l → n ≤ 80 → d ≤ 3 → scanI d l = true → (∀ x, x ∈ l → x.j ≠ 5) → n < N →
  Ctr Tryz.prog M.length 68 [.slice A n c] M fun r M' => ∃ v, r = .tuple #[v, iv 0] ∧ Keeps M M' ∧ Tab itN M.length M' v (flatI l)
/-- The items so far; a table that they are taken from, apart from them; a box. -/
structure FlI (B B2 q : Nat) (M : Mem) (mv : Value) (qs : List (Item × Value)) (row : Slot) (v : Value) (ps : List (Item × Value)) : Prop where
  tab : TabP itN B M v ps
  more : TabP itN B2 M mv qs
  inn : Inn itN B2 M v qs
  sep : Sep v mv
  box : M[q]? = some row
  bap : Apart v q
theorem FlI.keeps {B B2 q : Nat} {M M' : Mem} {mv v : Value} {qs ps : List (Item × Value)} {row : Slot} (h : FlI B B2 q M mv qs row v ps) (hk : Keeps M M') : FlI B B2 q M' mv qs row v ps :=
  ⟨h.tab.keeps hk, h.more.keeps hk, h.inn.keeps hk, h.sep, hk.get h.box, h.bap⟩
theorem FlI.push {B B2 q b : Nat} {S : St} {mv v x : Value} {qs ps : List (Item × Value)} {row : Slot} {p : Item × Value} {K : Value → Mem → Prop} (h : FlI B B2 q S.M mv qs row v ps) (hb : b ≤ B) (hB : B ≤ S.M.length)
    (hs : srcOf Tryz.prog S.M 8 29 x = some (1, itN.RO.row p)) (h1 : (itN.RO.row p).all (fun u => u.oneCell') = true) (hu : Acc pitchR 62 B S.M p.2 p.1.ps) (hsep : Sep v p.2) (hn : ps.length ≤ 100000)
    (hK : ∀ v' M', FlI B B2 q M' mv qs row v' (ps ++ [p]) → Same B S.M M' → K v' M') : appendK Tryz.prog b S K 29 29 v x := by
  refine h.tab.snoc (p := p) (by_ := 80) hb hB (by simp [itN]) (by kernel_rfl) hs h1 hu hsep (by omega) (by unfold maxLen; omega) ?_
  intro v' M' a1 a2 a3
  obtain ⟨b1, b2⟩ := a3 _ _ h.bap h.box
  obtain ⟨c1, c2⟩ := h.more.1.aside h.sep a3
  have c3 := h.inn.aside a3
  exact hK v' M' ⟨a1, ⟨c1, fun r hr => ⟨(c3 r hr).1, (h.more.2 r hr).2⟩⟩, c3, c2, b1, b2⟩ a2
set_option maxHeartbeats 4000000 in
theorem flat_step {N : Nat} (hN : FlatTo N) : FlatTo (N + 1) := by
  intro M A n c l lo hi d h hn hd hs0 hmv hlt
  have hl := h.1
  have hsm := cnt_small hd (by omega) hs0
  have hfl := flat_len l.length l (Nat.le_refl _)
  first | (refine ctr_fn Tryz.func68 rfl Tryz.ntmps68 Tryz.results68 rfl rfl (by simp) ?_) | (refine ctr_fnC Tryz.func68 rfl Tryz.ntmps68 Tryz.results68 rfl (by simp) ?_)
  simp
  refine awLoop_T (fun m T M' => ∃ (i : Nat) (ps : List (Item × Value)) (v : Value), i + m = n ∧ Keeps M M' ∧ TabP itN M.length M' v ps ∧ flatI l = ps.map (·.1) ++ flatI (subI l i n) ∧ scanI d (subI l i n) = true ∧ look T 5 = some (iv i) ∧ look T 4 = some v ∧ look T 0 = some (.slice A n c)) n ⟨0, [], _, by omega, keeps_app _, TabP.box (N := itN) (t := true) (Nat.le_refl _) (by simp [itN]), by rw [show subI l 0 n = l by rw [← hl]; exact subI_all]; rfl, by rw [show subI l 0 n = l by rw [← hl]; exact subI_all]; exact hs0, by simp, by simp, by simp⟩ ?_
  rintro m T M1 ⟨i, ps, v, hm, hK, hT, hw, hs, t5, t4, t0⟩
  have hKl := hK.len
  simp (disch := omega) [t5, t4, t0]
  refine awCall_det' sizeItem_a (by omega) ?_
  by_cases hib : i < n
  case neg =>
    obtain rfl : i = n := by omega
    rw [subI_nil, flatI_nil, List.append_nil] at hw
    simp (disch := omega) [t5, t4, t0]
    exact ⟨hK, ps, hw.symm, hT⟩
  have hib' : (i : Int) < n := by omega
  obtain ⟨id, off, us, rfl, he, hrd, hc⟩ := (h.keeps hK).at_ hib
  have hrd2 := hrd
  obtain ⟨A1, n1, c1', hu, hus, c0, c1, c2, c4, c5, c7, c8⟩ := item_cells hrd2 hc
  subst hus
  have hcons := subI_cons (l := l) hib (by omega)
  have hrl : (subI l (i + 1) n).length = n - (i + 1) := subI_len (by omega) (by omega)
  rw [hcons, flatI_cons] at hw
  rw [hcons, scanI_cons, Bool.and_eq_true] at hs
  obtain ⟨hB, hs⟩ := hs
  simp (disch := omega) [t5, t4, t0, hib, hib', he, c8]
  obtain ⟨M2, hM2⟩ : ∃ M2 : Mem, M2 = M1 ++ [Slot.live ⟨[iv (el l i).j, .slice A1 n1 c1', iv (el l i).ln, iv (el l i).ld, iv (el l i).x, iv (el l i).mt, iv (el l i).mh, iv (el l i).z], true, true, 60, 8⟩] := ⟨_, rfl⟩
  have k12 : Keeps M1 M2 := by rw [hM2]; exact keeps_app _
  have l2 : M2.length = M1.length + 1 := by rw [hM2]; simp
  have r2 : M2[M1.length]? = some (.live ⟨[iv (el l i).j, .slice A1 n1 c1', iv (el l i).ln, iv (el l i).ld, iv (el l i).x, iv (el l i).mt, iv (el l i).mh, iv (el l i).z], true, true, 60, 8⟩) := by rw [hM2]; simp
  have hcl : Cl M2 M1.length 0 [iv (el l i).j, .slice A1 n1 c1', iv (el l i).ln, iv (el l i).ld, iv (el l i).x, iv (el l i).mt, iv (el l i).mh, iv (el l i).z] := fun j y hy => by rw [hM2]; simp [cellAt, hy]
  rw [← hM2]
  clear hM2
  have hrd3 := itemP.keeps hrd k12
  obtain ⟨-, -, -, -, -, b0, -, -, b4, b5, b7, -⟩ := item_cells hrd3 hcl
  simp only [Nat.zero_add] at b0 b4 b5 b7
  have b1 : cellAt M2 M1.length 1 = some (.slice A1 n1 c1') := by simp [cellAt, r2]
  have b8 : cellsAt M2 M1.length 0 8 = some [iv (el l i).j, .slice A1 n1 c1', iv (el l i).ln, iv (el l i).ld, iv (el l i).x, iv (el l i).mt, iv (el l i).mh, iv (el l i).z] := cells_hrq r2 rfl
  have hps6 := itemB_ps hB
  have hps : (el l i).ps.length = n1 ∧ n1 ≤ 1048576 ∧ Sl pitchR M1 A1 n1 (el l i).ps := by
    obtain ⟨_, _, _, e', g1, g2, g3⟩ := hu
    cases e'
    exact ⟨g3.1, by have := g3.1; omega, g3.sl⟩
  refine awCall_det' (isGroup_i hrd3) (by omega) ?_
  by_cases hg2 : grpB (el l i) = true
  case neg =>
    rw [if_neg hg2] at hs hw
    simp (disch := omega) [hg2, b1]
    refine awCall_ctr ((ClonePitch_a (hps.2.2.keeps k12) hps.2.1).weaken (by omega)) ?_
    rintro w M3 ⟨hw3, k23⟩
    have n3 := k23.len
    have r3 := k23.get r2
    obtain ⟨A5, n5, c5, rfl, hn5, -, -⟩ := hw3.sl
    have hp := put_splice (b := M.length) (p := 1) (vs := [.slice A5 n5 c5]) r3 (by omega) (by simp) (by simp)
    simp only [splice_cons, splice_nil, List.set_cons_succ, List.set_cons_zero] at hp
    simp (disch := omega) [hp, t4]
    obtain ⟨M4, hM4⟩ : ∃ M4 : Mem, M4 = M3.set M1.length (.live ⟨[iv (el l i).j, .slice A5 n5 c5, iv (el l i).ln, iv (el l i).ld, iv (el l i).x, iv (el l i).mt, iv (el l i).mh, iv (el l i).z], true, true, 60, 8⟩) := ⟨_, rfl⟩
    have l3 := (List.getElem?_eq_some_iff.1 r3).1
    have k14 : Keeps M1 M4 := by rw [hM4]; exact (Same.set (B := M1.length) (Nat.le_refl _)).keeps (k12.trans k23) (Nat.le_refl _)
    have b84 : cellsAt M4 M1.length 0 8 = some [iv (el l i).j, .slice A5 n5 c5, iv (el l i).ln, iv (el l i).ld, iv (el l i).x, iv (el l i).mt, iv (el l i).mh, iv (el l i).z] := by rw [hM4]; exact cells_hrq (List.getElem?_set_self l3) rfl
    have hw4 : Acc pitchR 62 M2.length M4 (.slice A5 n5 c5) (el l i).ps := by rw [hM4]; exact hw3.set_ne (by omega)
    rw [← hM4]
    clear hM4 hp
    rw [b84, ow_some, fill_oneIt, ow_some]
    simp (disch := omega) [t4, hg2]
    have kx : Keeps M4 (M4 ++ [Slot.live ⟨[iv (el l i).j, .slice A5 n5 c5, iv (el l i).ln, iv (el l i).ld, iv (el l i).x, iv (el l i).mt, iv (el l i).mh, iv (el l i).z], true, true, 60, 8⟩]) := keeps_app _
    have hsz := congrArg List.length hw
    rw [hfl, List.length_append, List.length_map] at hsz
    have k14l := k14.len
    refine TabP.snoc (p := (el l i, .slice A5 n5 c5)) (by_ := 80) ((hT.keeps k14).keeps kx) (by omega) (by simp; omega) (by simp [itN]) (by kernel_rfl) (by simp [srcOf, Tryz.underlying29, itN, cellsAt]) (by rfl) ((hw4.keeps kx).low (by omega)) (hw4.sep_new hT.1 (by omega)).symm (by omega) (by unfold maxLen; omega) ?_
    intro v' M5 g1 g2 g3
    simp (disch := omega) [t5, wrap_in]
    exact lpI (m - 1) (by omega) ⟨i + 1, _, v', by omega, (g2.keeps ((hK.trans k14).trans kx) (Nat.le_refl _)), g1, by rw [hw]; simp, hs, by simp, by simp, by simp [t0]⟩
  have j4 : (el l i).j = 4 := by
    have := hmv _ (el_mem (show i < l.length by omega))
    simpa [grpB, this] using hg2
  rw [if_pos hg2, hrl] at hs
  rw [if_pos hg2, if_pos j4] at hw
  simp only [Bool.and_eq_true, decide_eq_true_eq] at hs
  obtain ⟨hd0, hz, hs1, hs2⟩ := hs
  have hz := inB_iff.1 hz
  obtain ⟨z, hz2⟩ : ∃ z : Nat, (el l i).z = z := ⟨(el l i).z.toNat, by omega⟩
  have hx := itemB_x hB j4
  obtain ⟨xn, hxn⟩ : ∃ xn : Nat, (el l i).x = xn := ⟨(el l i).x.toNat, by omega⟩
  rw [hxn] at b4 hx
  rw [hz2] at hz b7
  rw [hz2, Int.toNat_natCast, subI_take (by omega)] at hs1
  rw [hz2, Int.toNat_natCast, subI_drop] at hs2
  rw [hz2, hxn, Int.toNat_natCast, Int.toNat_natCast, subI_take (by omega), subI_drop] at hw
  have hpart := ((h.keeps hK).keeps k12).part (a := i + 1) (b := i + 1 + z) (by omega) (by omega)
  rw [show i + 1 + z - (i + 1) = z by omega] at hpart
  have esub : (l.drop (i + 1)).take z = subI l (i + 1) (i + 1 + z) := by unfold subI; rw [show i + 1 + z - (i + 1) = z by omega]
  rw [esub] at hpart
  have hcall := hN M2 (some ⟨id, off + (i + 1) * 8, none⟩) z z (subI l (i + 1) (i + 1 + z)) lo hi (d - 1) hpart (by omega) (by omega) hs1 (fun x hx => hmv x (by rw [← esub] at hx; exact List.mem_of_mem_drop (List.mem_of_mem_take hx))) (by omega)
  have hin := inner_b (M := M2) (c := c) hib (itemP.keeps hrd k12) (hc.keeps k12) hz2 (by omega) (by omega) (rowEsz_keeps k12 he)
  simp (disch := omega) [hg2, t5, t4, t0]
  refine awCall_det' hin (by omega) ?_
  refine awCall_ctr (hcall.weaken (by omega)) ?_
  rintro _ M3 ⟨mv, rfl, k23, qs, hqs, hQ⟩
  have n3 := k23.len
  have r3 := k23.get r2
  have c03 := cellAt_keeps k23 b0
  have c43 := cellAt_keeps k23 b4
  have c73 := cellAt_keeps k23 b7
  obtain ⟨A4, c4', rfl⟩ := hQ.one
  simp (disch := omega) [c03, c43, j4]
  have hif : (if (1 : Int) < (xn : Int) then (xn : Int) else 1) = (xn : Int) := by rw [if_pos (by omega)]
  rw [hif]
  have hF0 : FlI M.length M2.length M1.length M3 (.slice A4 qs.length c4') qs _ v ps := ⟨hT.keeps (k12.trans k23), hQ, hQ.sep hT.1 (by omega), (hQ.1.sep_new hT.1 (by omega)).symm, r3, hT.1.apartM (Nat.le_refl _)⟩
  have hqsl : qs.length = (flatI (subI l (i + 1) (i + 1 + z))).length := by rw [← hqs, List.length_map]
  have hsz := congrArg List.length hw
  rw [hfl, List.length_append, List.length_map, List.length_append, rep_len, ← hqsl] at hsz
  have hmx : 2 * qs.length ≤ xn * qs.length := Nat.mul_le_mul_right _ (by omega)
  refine awLoop_T (fun m T M' => ∃ (r : Nat) (v : Value) (ps' : List (Item × Value)), r + m = xn ∧ Keeps M M' ∧ M3.length ≤ M'.length ∧ FlI M.length M2.length M1.length M' (.slice A4 qs.length c4') qs (.live ⟨[iv (el l i).j, .slice A1 n1 c1', iv (el l i).ln, iv (el l i).ld, iv (el l i).x, iv (el l i).mt, iv (el l i).mh, iv (el l i).z], true, true, 60, 8⟩) v ps' ∧ ps'.map (·.1) = ps.map (·.1) ++ (List.replicate r (flatI (subI l (i + 1) (i + 1 + z)))).flatten ∧
      look T 72 = some (iv r) ∧ look T 71 = some (iv xn) ∧ look T 7 = some (.slice A4 qs.length c4') ∧ look T 6 = some (.pointer (some ⟨M1.length, 0, none⟩)) ∧ look T 5 = some (iv i) ∧ look T 4 = some v ∧ look T 0 = some (.slice (some ⟨id, off, none⟩) n c)) xn
    ⟨0, v, ps, by omega, (hK.trans k12).trans k23, Nat.le_refl _, hF0, by simp, by simp, by simp, by simp, by simp, by simp [t5], by simp [t4], by simp [t0]⟩ ?_
  clear t5 t4 t0 hF0 c03 c43 c73 r3
  rintro m2 T2 M4 ⟨r, v4, ps4, hm2, hK4, hl4, hF, hp4, t72, t71, t7, t6, t5, t4, t0⟩
  by_cases hr : r < xn
  case neg =>
    obtain rfl : r = xn := by omega
    have c74 : cellAt M4 M1.length 7 = some (iv z) := by unfold cellAt; rw [hF.box, ← hz2]; rfl
    simp (disch := omega) [t72, t71, t6, t5, c74, wrap_in]
    exact lpI (m - 1 - z) (by omega) ⟨i + 1 + z, ps4, v4, by omega, hK4, hF.tab, by rw [hw, hp4, List.append_assoc], hs2, by simp; omega, by simp [t4], by simp [t0]⟩
  have hr' : (r : Int) < xn := by omega
  simp (disch := omega) [t72, t71, t7, hr, hr']
  have hp4l := congrArg List.length hp4
  rw [List.length_map, List.length_append, List.length_map, rep_len, ← hqsl] at hp4l
  have hrm : (r + 1) * qs.length ≤ xn * qs.length := Nat.mul_le_mul_right _ (by omega)
  rw [Nat.add_mul, Nat.one_mul] at hrm
  refine awLoop_T (fun m T M' => ∃ (k : Nat) (v : Value) (ps' : List (Item × Value)), k + m = qs.length ∧ Keeps M M' ∧ M3.length ≤ M'.length ∧ FlI M.length M2.length M1.length M' (.slice A4 qs.length c4') qs (.live ⟨[iv (el l i).j, .slice A1 n1 c1', iv (el l i).ln, iv (el l i).ld, iv (el l i).x, iv (el l i).mt, iv (el l i).mh, iv (el l i).z], true, true, 60, 8⟩) v ps' ∧ ps'.map (·.1) = ps4.map (·.1) ++ (flatI (subI l (i + 1) (i + 1 + z))).take k ∧
      look T 76 = some (iv k) ∧ look T 75 = some (iv qs.length) ∧ look T 74 = some (.slice A4 qs.length c4') ∧ look T 72 = some (iv r) ∧ look T 71 = some (iv xn) ∧ look T 7 = some (.slice A4 qs.length c4') ∧ look T 6 = some (.pointer (some ⟨M1.length, 0, none⟩)) ∧ look T 5 = some (iv i) ∧ look T 4 = some v ∧ look T 0 = some (.slice (some ⟨id, off, none⟩) n c)) qs.length
    ⟨0, v4, ps4, by omega, hK4, hl4, hF, by simp, by simp, by simp, by simp, by simp [t72], by simp [t71], by simp [t7], by simp [t6], by simp [t5], by simp [t4], by simp [t0]⟩ ?_
  clear t72 t71 t7 t6 t5 t4 t0 hF hK4 hl4
  rintro m3 T3 M5 ⟨k, v5, ps5, hm3, hK5, hl5, hF, hp5, t76, t75, t74, t72, t71, t7, t6, t5, t4, t0⟩
  by_cases hk : k < qs.length
  case neg =>
    obtain rfl : k = qs.length := by omega
    rw [List.take_of_length_le (by omega)] at hp5
    simp (disch := omega) [t76, t75, t74, t72, wrap_in]
    exact lpI (m2 - 1) (by omega) ⟨r + 1, v5, ps5, by omega, hK5, hl5, hF, by rw [hp5, hp4, List.append_assoc, List.replicate_succ', List.flatten_append]; simp, by simp, by simp [t71], by simp [t7], by simp [t6], by simp [t5], by simp [t4], by simp [t0]⟩
  have hk' : (k : Int) < qs.length := by omega
  have hp5l := congrArg List.length hp5
  rw [List.length_map, List.length_append, List.length_map, List.length_take] at hp5l
  obtain ⟨id6, off6, c6, A6, n6, c6', ev, he6, hq2, ld6, hs6⟩ := hF.more.at_ hk
  injection ev with ev1 ev2 ev3
  subst ev1 ev3
  obtain ⟨y, hy⟩ : ∃ y, y = (el qs k).1 := ⟨_, rfl⟩
  rw [← hy] at ld6 hs6
  have hym : y ∈ l := by
    have h1 : y ∈ qs.map (·.1) := by rw [hy]; exact List.mem_map.2 ⟨_, el_mem hk, rfl⟩
    rw [hqs] at h1
    have h2 := flat_mem _ _ (Nat.le_refl _) _ h1
    rw [← esub] at h2
    exact List.mem_of_mem_drop (List.mem_of_mem_take h2)
  have hyB : y.ps.length ≤ 6 := by
    have := scanI_all l.length d l (Nat.le_refl _) hs0 y hym
    unfold itemI at this
    rw [Bool.and_eq_true] at this
    exact itemB_ps this.1
  have hn6 := hs6.1
  simp (disch := omega) [t76, t75, t74, hk, hk', he6, ld6]
  obtain ⟨M6, hM6⟩ : ∃ M6 : Mem, M6 = M5 ++ [Slot.live ⟨[iv y.j, .slice A6 n6 c6', iv y.ln, iv y.ld, iv y.x, iv y.mt, iv y.mh, iv y.z], true, true, 60, 8⟩] := ⟨_, rfl⟩
  have k56 : Keeps M5 M6 := by rw [hM6]; exact keeps_app _
  have l6 : M6.length = M5.length + 1 := by rw [hM6]; simp
  have r6 : M6[M5.length]? = some (.live ⟨[iv y.j, .slice A6 n6 c6', iv y.ln, iv y.ld, iv y.x, iv y.mt, iv y.mh, iv y.z], true, true, 60, 8⟩) := by rw [hM6]; simp
  rw [← hM6]
  clear hM6
  have hK5l := hK5.len
  refine awCall_ctr ((ClonePitch_a (hs6.keeps k56) (by omega)).weaken (by omega)) ?_
  rintro w M7 ⟨hw7, k67⟩
  have n7 := k67.len
  have r7 := k67.get r6
  obtain ⟨A5, n5, c5, rfl, hn5, -, -⟩ := hw7.sl
  have hp := put_splice (b := M.length) (p := 1) (vs := [.slice A5 n5 c5]) r7 (by omega) (by simp) (by simp)
  simp only [splice_cons, splice_nil, List.set_cons_succ, List.set_cons_zero] at hp
  simp (disch := omega) [hp, t4]
  obtain ⟨M8, hM8⟩ : ∃ M8 : Mem, M8 = M7.set M5.length (.live ⟨[iv y.j, .slice A5 n5 c5, iv y.ln, iv y.ld, iv y.x, iv y.mt, iv y.mh, iv y.z], true, true, 60, 8⟩) := ⟨_, rfl⟩
  have l7 := (List.getElem?_eq_some_iff.1 r7).1
  have k58 : Keeps M5 M8 := by rw [hM8]; exact (Same.set (B := M5.length) (Nat.le_refl _)).keeps (k56.trans k67) (Nat.le_refl _)
  have b88 : cellsAt M8 M5.length 0 8 = some [iv y.j, .slice A5 n5 c5, iv y.ln, iv y.ld, iv y.x, iv y.mt, iv y.mh, iv y.z] := by rw [hM8]; exact cells_hrq (List.getElem?_set_self l7) rfl
  have hw8 : Acc pitchR 62 M6.length M8 (.slice A5 n5 c5) y.ps := by rw [hM8]; exact hw7.set_ne (by omega)
  rw [← hM8]
  clear hM8 hp
  rw [b88, ow_some, fill_oneIt, ow_some]
  simp (disch := omega) [t4]
  have kx : Keeps M8 (M8 ++ [Slot.live ⟨[iv y.j, .slice A5 n5 c5, iv y.ln, iv y.ld, iv y.x, iv y.mt, iv y.mh, iv y.z], true, true, 60, 8⟩]) := keeps_app _
  have k58l := k58.len
  refine FlI.push (p := (y, .slice A5 n5 c5)) (hF.keeps (k58.trans kx)) (by omega) (by simp; omega) (by simp [srcOf, Tryz.underlying29, itN, cellsAt]) (by rfl) ((hw8.keeps kx).low (by omega)) (hw8.sep_new hF.tab.1 (by omega)).symm (by omega) ?_
  intro v' M9 g1 g2
  have gl := g2.1
  simp only [List.length_append, List.length_singleton] at gl
  simp (disch := omega) [t76, wrap_in]
  refine lpI (m3 - 1) (by omega) ⟨k + 1, v', _, by omega, g2.keeps ((hK5.trans k58).trans kx) (Nat.le_refl _), by omega, g1, ?_, by simp, by simp [t75], by simp [t74], by simp [t72], by simp [t71], by simp [t7], by simp [t6], by simp [t5], by simp, by simp [t0]⟩
  rw [List.map_append, hp5, take_el (by omega), List.map_singleton, List.append_assoc]
  congr 2
  rw [hy, ← hqs, el_map _ hk]
theorem flat_to : ∀ N, FlatTo N
  | 0 => fun M A n c l lo hi d _ _ _ _ _ h => by omega
  | N + 1 => flat_step (flat_to N)
end Go.Proofs.YtodbjnngkonklaaGreat

namespace Go.Proofs.YtodbjnngkonklaaGreat
open Go.RowKit
set_option linter.unusedVariables false
set_option linter.unusedSimpArgs false
set_option maxRecDepth 100000
attribute [local simp] List.getElem?_cons_zero
attribute [local irreducible] awCond awCall awLoop awDraw ow retQ retC resQ Keeps
def repV (l : List Item) (n p : Nat) : Bool := decide (n * p ≤ l.length) && decide (∀ i, i < n * p → p ≤ i → el l i = el l (i - p))
theorem repV_iff {l : List Item} {n p : Nat} : repV l n p = true ↔ n * p ≤ l.length ∧ ∀ i, i < n * p → p ≤ i → el l i = el l (i - p) := by
  unfold repV
  rw [Bool.and_eq_true, decide_eq_true_eq, decide_eq_true_eq]
theorem repV_no {l : List Item} {n p : Nat} (h : ¬ (n * p ≤ l.length ∧ ∀ i, i < n * p → p ≤ i → el l i = el l (i - p))) : repV l n p = false := by
  rw [← Bool.not_eq_true, repV_iff]
  exact h
set_option maxHeartbeats 2000000 in
theorem repeats_i {M : Mem} {A : Option Addr} {q c lo hi : Nat} {l : List Item} (n p : Nat) (h : SlP itemP lo hi M A q l) (hq : q ≤ 80) (hn : n ≤ 100) (hp : p ≤ 100) (hp0 : 1 ≤ p) : Det Tryz.prog M.length 66 [.slice A q c, iv n, iv p] M (.bool (repV l n p)) M := by
  have hl := h.1
  obtain ⟨y, hy⟩ : ∃ y : Nat, n * p = y := ⟨_, rfl⟩
  have hyi : (n : Int) * (p : Int) = (y : Int) := by rw [← hy, Int.natCast_mul]
  have hyb : y ≤ 10000 := by rw [← hy]; have := Nat.mul_le_mul hn hp; omega
  have hno := repV_no (l := l) (n := n) (p := p)
  have hyes := repV_iff (l := l) (n := n) (p := p)
  rw [hy] at hno hyes
  first | (refine det_fn Tryz.func66 rfl Tryz.ntmps66 Tryz.results66 rfl rfl rfl (by simp) ?_) | (refine det_fnC Tryz.func66 rfl Tryz.ntmps66 Tryz.results66 rfl rfl (by simp) ?_)
  simp (disch := omega) [hyi, wrap_in]
  by_cases h1 : q < y
  · simp [h1, hno (fun hh => by omega), Keeps.refl]
  simp (disch := omega) [h1, wrap_in]
  refine awLoop_T (fun m T M' => ∃ i : Nat, (i + m = y ∨ (m = 0 ∧ y ≤ i)) ∧ p ≤ i ∧ i ≤ 10000 ∧ Keeps M M' ∧ (∀ j, j < i → j < y → p ≤ j → el l j = el l (j - p)) ∧ look T 7 = some (iv i) ∧ look T 0 = some (.slice A q c) ∧ look T 1 = some (iv n) ∧ look T 2 = some (iv p)) (y - p) ⟨p, by omega, Nat.le_refl _, by omega, Keeps.refl _, fun j hj _ hpj => by omega, by simp, by simp, by simp, by simp⟩ ?_
  rintro m T M1 ⟨i, hm, hpi, hib, hK, hok, t7, t0, t1, t2⟩
  have hKl := hK.len
  by_cases hlt : i < y
  case neg =>
    have hlt' : ¬ (i : Int) < y := by omega
    have e : repV l n p = true := hyes.2 ⟨by omega, fun j hj hpj => hok j (by omega) hj hpj⟩
    simp (disch := omega) [t7, t0, t1, t2, hyi, wrap_in, hlt, hlt', e, hK]
  have hlt' : (i : Int) < y := by omega
  obtain ⟨id, off, us, rfl, he, hrd, hc⟩ := (h.keeps hK).at_ (i := i) (by omega)
  obtain ⟨_, _, us2, e2, he2, hrd2, hc2⟩ := (h.keeps hK).at_ (i := i - p) (by omega)
  cases e2
  have hq1 : i < q := by omega
  have c1 := cellsAt_of (n := 8) hc (itemP.len hrd) (by omega)
  have c2 := cellsAt_of (n := 8) hc2 (itemP.len hrd2) (by omega)
  have eip : ((i : Int) - p).toNat = i - p := by omega
  simp (disch := omega) [t7, t0, t1, t2, hyi, wrap_in, hlt, hlt']
  refine awDraw_E 10 [[],[],[0,1],[2,0,1],[],[],[],[5,6],[4,7,5,6],[8,4,7,5,6],[3,2,0,1,9,8,4,7,5,6],[10,3,2,0,1,9,8,4,7,5,6]] (by kernel_rfl) (by kernel_rfl) ?_
  simp (disch := omega) [t7, t0, t1, t2, hyi, wrap_in, he, c1, c2, hq1, eip]
  refine ⟨by omega, ?_⟩
  refine awCall_det' (sameItem_i hrd hrd2) (by omega) ?_
  by_cases hs : el l i = el l (i - p)
  · simp (disch := omega) [hs, t7, wrap_in]
    refine lpI (m - 1) (by omega) ⟨i + 1, by omega, by omega, by omega, hK, fun j hj hj2 hpj => ?_, by simp, by simp [t0], by simp [t1], by simp [t2]⟩
    rcases Nat.lt_or_ge j i with hji | hji
    · exact hok j hji hj2 hpj
    · obtain rfl : j = i := by omega
      exact hs
  · have e : repV l n p = false := hno (fun hh => hs (hh.2 i hlt hpi))
    simp (disch := omega) [hs, e, hK]
/-- What bestRepeat gives: none, or a repetition that is worth it. -/
def BestB (l : List Item) (n p : Nat) : Prop := n = 0 ∨ (2 ≤ n ∧ n ≤ 8 ∧ 1 ≤ p ∧ n * p ≤ l.length ∧ p + 1 < n * p ∧ ∀ i, i < n * p → p ≤ i → el l i = el l (i - p))
set_option maxHeartbeats 2000000 in
theorem bestRepeat_i {M : Mem} {A : Option Addr} {q c lo hi : Nat} {l : List Item} (h : SlP itemP lo hi M A q l) (hq : q ≤ 80) : Ctr Tryz.prog M.length 34 [.slice A q c] M fun r M' => ∃ n p : Nat, r = .tuple #[iv n, iv p] ∧ BestB l n p ∧ p ≤ 80 ∧ Keeps M M' := by
  have hl := h.1
  first | (refine ctr_fn Tryz.func34 rfl Tryz.ntmps34 Tryz.results34 rfl rfl (by simp) ?_) | (refine ctr_fnC Tryz.func34 rfl Tryz.ntmps34 Tryz.results34 rfl (by simp) ?_)
  simp
  refine awLoop_T (fun m T M' => ∃ p b g : Nat, p + m = 42 ∧ 1 ≤ p ∧ Keeps M M' ∧ BestB l b g ∧ b ≤ 8 ∧ g ≤ 80 ∧ look T 6 = some (iv p) ∧ look T 5 = some (iv g) ∧ look T 4 = some (iv b) ∧ look T 0 = some (.slice A q c)) 41 ⟨1, 0, 0, by omega, by omega, Keeps.refl _, .inl rfl, by omega, by omega, by simp, by simp, by simp, by simp⟩ ?_
  rintro m T M1 ⟨p, b, g, hm, hp, hK, hB, hb8, hg80, t6, t5, t4, t0⟩
  have h2i : (2 : Int) * (p : Int) = ((2 * p : Nat) : Int) := by omega
  by_cases hlt : 2 * p ≤ q
  case neg =>
    have hlt' : ¬ (2 : Int) * p ≤ q := by omega
    simp (disch := omega) [t6, t5, t4, t0, wrap_in, hlt, hlt']
    exact ⟨b, g, ⟨rfl, rfl⟩, hB, hg80, hK⟩
  have hlt' : (2 : Int) * p ≤ q := by omega
  simp (disch := omega) [t6, t5, t4, t0, wrap_in, hlt, hlt']
  refine awLoop_T (fun m T M' => ∃ n b g : Nat, n + m = 9 ∧ 2 ≤ n ∧ Keeps M M' ∧ BestB l b g ∧ b ≤ 8 ∧ g ≤ 80 ∧ look T 7 = some (iv n) ∧ look T 6 = some (iv p) ∧ look T 5 = some (iv g) ∧ look T 4 = some (iv b) ∧ look T 0 = some (.slice A q c)) 7 ⟨2, b, g, by omega, by omega, hK, hB, hb8, hg80, by simp, by simp [t6], by simp [t5], by simp [t4], by simp [t0]⟩ ?_
  clear t6 t5 t4 t0 hB hb8 hg80 hK
  rintro m2 T2 M2 ⟨n, b2, g2, hm2, hn, hK, hB, hb8, hg80, t7, t6, t5, t4, t0⟩
  have hKl := hK.len
  by_cases hn9 : n ≤ 8
  case neg =>
    have hn9' : ¬ (n : Int) ≤ 8 := by omega
    simp (disch := omega) [t7, t6, t5, t4, t0, wrap_in, hn9, hn9']
    exact lpI (m - 1) (by omega) ⟨p + 1, b2, g2, by omega, by omega, hK, hB, hb8, hg80, by simp, by simp [t5], by simp [t4], by simp [t0]⟩
  have hn9' : (n : Int) ≤ 8 := by omega
  obtain ⟨y, hy⟩ : ∃ y : Nat, n * p = y := ⟨_, rfl⟩
  have hyi : (n : Int) * (p : Int) = (y : Int) := by rw [← hy, Int.natCast_mul]
  have hyb : y ≤ 1000 := by rw [← hy]; have := Nat.mul_le_mul hn9 (show p ≤ 80 by omega); omega
  obtain ⟨w, hw⟩ : ∃ w : Nat, b2 * g2 = w := ⟨_, rfl⟩
  have hwi : (b2 : Int) * (g2 : Int) = (w : Int) := by rw [← hw, Int.natCast_mul]
  have hwb : w ≤ 1000 := by rw [← hw]; have := Nat.mul_le_mul hb8 hg80; omega
  have hrep := repeats_i (M := M2) (c := c) n p (h.keeps hK) hq (by omega) (by omega) hp
  have skip : ∀ (T' : List (Nat × Value)), look T' 7 = some (iv n) → True := fun _ _ => trivial
  by_cases hc1 : p + 1 < y
  case neg =>
    have hc1i : ¬ (p : Int) + 1 < y := by omega
    simp (disch := omega) [t7, t6, t5, t4, t0, wrap_in, hn9, hn9', hyi, hwi, hc1, hc1i]
    exact lpI (m2 - 1) (by omega) ⟨n + 1, b2, g2, by omega, by omega, hK, hB, hb8, hg80, by simp, by simp [t6], by simp [t5], by simp [t4], by simp [t0]⟩
  have hc1i : (p : Int) + 1 < y := by omega
  by_cases hc2 : w < y
  case neg =>
    have hc2i : ¬ (w : Int) < y := by omega
    simp (disch := omega) [t7, t6, t5, t4, t0, wrap_in, hn9, hn9', hyi, hwi, hc1, hc1i, hc2, hc2i]
    exact lpI (m2 - 1) (by omega) ⟨n + 1, b2, g2, by omega, by omega, hK, hB, hb8, hg80, by simp, by simp [t6], by simp [t5], by simp [t4], by simp [t0]⟩
  have hc2i : (w : Int) < y := by omega
  simp (disch := omega) [t7, t6, t5, t4, t0, wrap_in, hn9, hn9', hyi, hwi, hc1, hc1i, hc2, hc2i]
  refine awCall_det' hrep (by omega) ?_
  by_cases hr : repV l n p = true
  case neg =>
    simp (disch := omega) [hr, t7, t6, t5, t4, t0, wrap_in]
    exact lpI (m2 - 1) (by omega) ⟨n + 1, b2, g2, by omega, by omega, hK, hB, hb8, hg80, by simp, by simp [t6], by simp [t5], by simp [t4], by simp [t0]⟩
  simp (disch := omega) [hr, t7, t6, t5, t4, t0, wrap_in]
  obtain ⟨hr1, hr2⟩ := repV_iff.1 hr
  exact lpI (m2 - 1) (by omega) ⟨n + 1, n, p, by omega, by omega, hK, .inr ⟨hn, hn9, hp, hr1, by omega, hr2⟩, hn9, by omega, by simp, by simp [t6], by simp, by simp, by simp [t0]⟩
end Go.Proofs.YtodbjnngkonklaaGreat

namespace Go.Proofs.YtodbjnngkonklaaGreat
open Go.RowKit
set_option linter.unusedVariables false
set_option linter.unusedSimpArgs false
set_option maxRecDepth 100000
attribute [local simp] List.getElem?_cons_zero
attribute [local irreducible] awCond awCall awLoop awDraw ow retQ retC resQ Keeps
def repI (n p : Nat) : Item := ⟨4, [], 0, 0, n, 0, 0, p⟩
/-- What has been taken, and what it was folded to. -/
inductive FoG : List Item → List Item → Prop
  | nil : FoG [] []
  | one {a o x} : FoG a o → grpB x = false → FoG (a ++ [x]) (o ++ [x])
  | rep {a o b n} : FoG a o → 2 ≤ n → n ≤ 8 → 1 ≤ b.length → b.length + 1 < n * b.length → (∀ x, x ∈ b → grpB x = false) → FoG (a ++ (List.replicate n b).flatten) (o ++ repI n b.length :: b)
theorem periodic {l : List Item} {p : Nat} (hp : 1 ≤ p) : ∀ n, n * p ≤ l.length → (∀ i, i < n * p → p ≤ i → el l i = el l (i - p)) → l.take (n * p) = (List.replicate n (l.take p)).flatten
  | 0, _, _ => by simp
  | n + 1, hl, h => by
    rw [Nat.add_mul, Nat.one_mul] at hl h ⊢
    have ih := periodic hp n (by omega) (fun i hi hpi => h i (by omega) hpi)
    rw [List.replicate_succ', List.flatten_append, ← ih]
    simp only [List.flatten_cons, List.flatten_nil, List.append_nil]
    have key : ∀ j, j < p → ∀ k, k ≤ n → el l (k * p + j) = el l j := by
      intro j hj k
      induction k with
      | zero => intro _; rw [Nat.zero_mul, Nat.zero_add]
      | succ k ihk =>
        intro hk
        rw [Nat.add_mul, Nat.one_mul]
        have hkn : (k + 1) * p ≤ n * p := Nat.mul_le_mul_right _ hk
        rw [Nat.add_mul, Nat.one_mul] at hkn
        rw [h (k * p + p + j) (by omega) (by omega), show k * p + p + j - p = k * p + j by omega]
        exact ihk (by omega)
    have hseg : (l.drop (n * p)).take p = l.take p := by
      apply List.ext_getElem
      · simp; omega
      · intro j h1 h2
        have hj : j < p := by simp at h1; omega
        have := key j hj n (Nat.le_refl _)
        rw [List.getElem_take, List.getElem_drop, List.getElem_take]
        have e1 : el l (n * p + j) = l[n * p + j]'(by omega) := by unfold el; rw [List.getD_eq_getElem?_getD, List.getElem?_eq_getElem (by omega)]; rfl
        have e2 : el l j = l[j]'(by omega) := by unfold el; rw [List.getD_eq_getElem?_getD, List.getElem?_eq_getElem (by omega)]; rfl
        rw [← e1, ← e2]
        exact this
    rw [List.take_add, hseg]
theorem rep_cnt {b : List Item} (h : ∀ x, x ∈ b → grpB x = false) : flatI b = b := by
  induction b with
  | nil => exact flatI_nil
  | cons x r ih =>
    rw [flatI_cons, if_neg (by rw [h x (List.mem_cons_self ..)]; decide), ih fun y hy => h y (List.mem_cons_of_mem _ hy)]
theorem repI_grp (n p : Nat) : grpB (repI n p) = true := rfl
/-- Folding may go on where flattening stands. -/
theorem fog_app {a o : List Item} (h : FoG a o) : ∀ r, flatI (o ++ r) = a ++ flatI r := by
  induction h with
  | nil => intro r; rfl
  | one h hg ih =>
    rename_i a o x
    intro r
    rw [List.append_assoc, ih, List.singleton_append, flatI_cons, if_neg (by rw [hg]; decide), List.append_assoc, List.singleton_append]
  | rep h h1 h2 h3 h4 h5 ih =>
    rename_i a o b n
    intro r
    have ez : ((repI n b.length).z).toNat = b.length := by show ((b.length : Nat) : Int).toNat = _; omega
    have ex : ((repI n b.length).x).toNat = n := by show ((n : Nat) : Int).toNat = _; omega
    rw [List.append_assoc, ih, List.cons_append, flatI_cons, if_pos (repI_grp _ _), ez, ex, if_pos (show (repI n b.length).j = 4 from rfl), List.take_left', List.drop_left', rep_cnt h5, List.append_assoc]
    · rfl
    · rfl
theorem fog_flat {a o : List Item} (h : FoG a o) : flatI o = a := by
  have := fog_app h []
  rwa [List.append_nil, flatI_nil, List.append_nil] at this
theorem fog_len {a o : List Item} (h : FoG a o) : o.length ≤ a.length := by
  induction h with
  | nil => exact Nat.le_refl _
  | one h hg ih => simp; exact ih
  | rep h h1 h2 h3 h4 h5 ih =>
    rw [List.length_append, List.length_append, rep_len, List.length_cons]
    omega
theorem fog_mv {a o : List Item} (h : FoG a o) : ∀ x, x ∈ o → x.j ≠ 5 := by
  have hn : ∀ x : Item, grpB x = false → x.j ≠ 5 := fun x hx e => by simp [grpB, e] at hx
  induction h with
  | nil => intro x hx; cases hx
  | one h hg ih =>
    intro x hx
    rcases List.mem_append.1 hx with hx | hx
    · exact ih x hx
    · rw [List.mem_singleton.1 hx]; exact hn _ hg
  | rep h h1 h2 h3 h4 h5 ih =>
    intro x hx
    rcases List.mem_append.1 hx with hx | hx
    · exact ih x hx
    · rcases List.mem_cons.1 hx with hx | hx
      · rw [hx]; show (4 : Int) ≠ 5; decide
      · exact hn _ (h5 x hx)
theorem fog_gr {a o : List Item} (h : FoG a o) (hB : ∀ x, x ∈ a → itemB x = true) : ∀ r, scanI 3 (o ++ r) = scanI 3 r := by
  have one : ∀ (x : Item) (r : List Item) (d : Nat), itemB x = true → grpB x = false → scanI d (x :: r) = scanI d r := fun x r d h1 h2 => by
    rw [scanI_cons, h1, Bool.true_and, if_neg (by rw [h2]; decide)]
  induction h with
  | nil => intro r; rfl
  | one h hg ih =>
    rename_i a o x
    intro r
    rw [List.append_assoc, ih fun y hy => hB y (List.mem_append_left _ hy), List.singleton_append]
    exact one x r 3 (hB x (List.mem_append_right _ (List.mem_singleton_self _))) hg
  | rep h h1 h2 h3 h4 h5 ih =>
    rename_i a o b n
    intro r
    have ez : ((repI n b.length).z).toNat = b.length := by show ((b.length : Nat) : Int).toNat = _; omega
    have hb : ∀ x, x ∈ b → itemB x = true := fun x hx => hB x (List.mem_append_right _ (List.mem_flatten.2 ⟨b, List.mem_replicate.2 ⟨by omega, rfl⟩, hx⟩))
    have hsb : ∀ (c : List Item) (d : Nat) (r : List Item), (∀ x, x ∈ c → itemB x = true) → (∀ x, x ∈ c → grpB x = false) → scanI d (c ++ r) = scanI d r := by
      intro c
      induction c with
      | nil => intro d r _ _; rfl
      | cons x c ihc =>
        intro d r k1 k2
        rw [List.cons_append, one x _ d (k1 x (List.mem_cons_self ..)) (k2 x (List.mem_cons_self ..))]
        exact ihc d r (fun y hy => k1 y (List.mem_cons_of_mem _ hy)) (fun y hy => k2 y (List.mem_cons_of_mem _ hy))
    have hri : itemB (repI n b.length) = true := by
      unfold itemB
      rw [if_neg (show ¬ (repI n b.length).j = 1 by show ¬ (4 : Int) = 1; decide), if_neg (show ¬ (repI n b.length).j = 2 by show ¬ (4 : Int) = 2; decide), if_neg (show ¬ (repI n b.length).j = 3 by show ¬ (4 : Int) = 3; decide), if_pos (show (repI n b.length).j = 4 from rfl)]
      have : inB (repI n b.length).x 2 8 = true := inB_iff.2 (show (2 : Int) ≤ (n : Int) ∧ (n : Int) ≤ 8 by omega)
      rw [this]
      rfl
    rw [List.append_assoc, ih fun y hy => hB y (List.mem_append_left _ hy), List.cons_append, scanI_cons, hri, Bool.true_and, if_pos (repI_grp _ _), ez, List.take_left' rfl, List.drop_left' rfl]
    have e1 : scanI (3 - 1) b = true := by
      have := hsb b (3 - 1) [] hb h5
      rw [List.append_nil, scanI_nil] at this
      exact this
    have e2 : inB (repI n b.length).z 1 ((b ++ r).length) = true := inB_iff.2 (show (1 : Int) ≤ (b.length : Int) ∧ (b.length : Int) ≤ ((b ++ r).length : Int) by rw [List.length_append]; omega)
    rw [e1, e2]
    simp
theorem fog_ok {a o : List Item} (h : FoG a o) (hB : ∀ x, x ∈ a → itemB x = true) (hl : a.length ≤ 80) : okI o = true := by
  have h1 := fog_gr h hB []
  rw [List.append_nil, scanI_nil] at h1
  have h2 := fog_len h
  unfold okI
  rw [h1, Bool.and_true, decide_eq_true_eq]
  omega
theorem fog_cnt {a o : List Item} (h : FoG a o) : cntI o = a.length := by
  rw [← flat_len _ o (Nat.le_refl _), fog_flat h]
end Go.Proofs.YtodbjnngkonklaaGreat
