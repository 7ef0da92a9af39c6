/- Parts of the proof, together: The signal of a voice: the program's. Nodes, as the reference plays them. Nodes, as the reference plays them: starts, inputs, next states. Nodes, as the reference plays them: next states; the state at the beginning. A frame, as the reference plays it. No conditions. -/
import Derived.Test.YtimijeeihicohaaGreatZzPf15
import Derived.Test.YtimijeeihicohaaGreatZzPf17
namespace Go.Proofs.YtimijeeihicohaaGreat
open Go.RowKit
set_option linter.unusedVariables false
set_option linter.unusedSimpArgs false
set_option maxRecDepth 100000
attribute [local simp] List.getElem?_cons_zero
attribute [local irreducible] awCond awCall awLoop awDraw ow retQ retC resQ Keeps
def ctlL (x : Inst) (l : List Gate) (N : Nat) : List (List Int) := [mkC N (allP l) (ctl0 x l), mkC N (allP l) (ctl1 x l), mkC N (allP l) (ctl2 x l)]
def voL (x : Inst) (l : List Gate) (N : Nat) : List Int := (rendS x.pat (ctlL x l N) N).1
theorem voL_len {x : Inst} {l : List Gate} {N : Nat} : (voL x l N).length = N := rendS_len N
theorem patB_of {p : Patch} (h : patB p = true) : formB p = true ∧ (ordL p.nodes).length = p.nodes.length := by
  unfold patB at h
  simpa using h
theorem instB_pat {x : Inst} (h : instB x = true) : formB x.pat = true ∧ (ordL x.pat.nodes).length = x.pat.nodes.length ∧ x.pat.inp = 3 ∧ x.pat.outs.length = 1 ∧ 0 < x.pat.nodes.length := by
  unfold instB at h
  simp only [Bool.and_eq_true, decide_eq_true_eq] at h
  obtain ⟨h1, h2, h3, -⟩ := h
  obtain ⟨a, b⟩ := patB_of h1
  refine ⟨a, b, h2, h3, ?_⟩
  have hi : idxB x.pat.nodes.length x.pat.outs = true := by
    unfold formB at a
    simp only [Bool.and_eq_true] at a
    exact a.1.2
  have := inB_iff.1 (List.all_eq_true.1 hi _ (el_mem (l := x.pat.outs) (i := 0) (by omega)))
  omega
theorem Play.thin {B B' : Nat} {M : Mem} {us : List Value} {p : Patch} {PB oid vid cid : Nat} {vals : List Int} {vs : List Value} {cs : List (List Int)} {Y : Nat → Prop} (h : Play Y B M us p PB oid vid cid vals vs cs) (hb : B' ≤ B) : Play Y B' M us p PB oid vid cid vals vs cs :=
  ⟨⟨Nat.le_trans hb h.low.1, Nat.le_trans hb h.low.2.1, Nat.le_trans hb h.low.2.2.1, Nat.le_trans hb h.low.2.2.2⟩, h.box, h.ord, h.val, h.cel, h.len, h.elt, h.ne⟩
def RendK (M : Mem) (l : List Int) (r : Value) (M' : Mem) : Prop := ∃ uid v lo3 hi3, r = .slice (some ⟨uid, 0, none⟩) 1 1 ∧ cellAt M' uid 0 = some v ∧ rowEsz M' uid = some 1 ∧ SlV intP lo3 hi3 M' v l ∧ Keeps M M'
theorem render_i {M : Mem} {lo hi lo2 hi2 N : Nat} {us : List Value} {p : Patch} {ins : List (List Int)} {iw : Value} (h : patchP.rd lo hi M p us) (hf : formB p = true) (ho : (ordL p.nodes).length = p.nodes.length) (h0 : 0 < p.nodes.length) (hins : SlV tabP lo2 hi2 M iw ins) (hin : p.inp = ins.length) (hout : p.outs.length = 1) (hN : N ≤ 4000) (hM : hi ≤ M.length ∧ hi2 ≤ M.length) :
    Ctr Tryz.prog M.length 101 [.agg us.toArray, iw, iv N] M fun r M' => RendK M (rendS p ins N).1 r M' := by
  obtain ⟨hn24, hidx, hnF⟩ := formB_nodes hf
  have hok : ∀ y, y ∈ p.nodes → NodeOk p y := fun y hy => nodeF_ok (hnF y hy)
  obtain ⟨A1, n1, c1, A2, n2, c2, A3, n3, c3, rfl⟩ := patch_isV h
  obtain ⟨Ai, ni, ci, rfl, w1, w2, w3⟩ := id hins
  first | (refine ctr_fn Tryz.func101 rfl Tryz.ntmps101 Tryz.results101 rfl rfl (by simp) ?_) | (refine ctr_fnC Tryz.func101 rfl Tryz.ntmps101 Tryz.results101 rfl (by simp) ?_)
  simp
  obtain ⟨M0, hM0⟩ : ∃ M0 : Mem, M0 = M ++ [Slot.live ⟨[iv p.inp, .slice A1 n1 c1, .slice A2 n2 c2, .slice A3 n3 c3], true, true, 39, 4⟩] := ⟨_, rfl⟩
  have k0 : Keeps M M0 := by rw [hM0]; exact keeps_app _
  have l0 : M0.length = M.length + 1 := by rw [hM0]; simp
  have b4 : cellsAt M0 M.length 0 4 = some [iv p.inp, .slice A1 n1 c1, .slice A2 n2 c2, .slice A3 n3 c3] := by rw [hM0]; simp
  rw [← hM0]
  clear hM0
  refine awDraw_K (fun j => if j = 2 ∨ j = 3 then [6] else []) (fun k v M' => match k with
    | 0 => v = .agg #[iv p.inp, .slice A1 n1 c1, .slice A2 n2 c2, .slice A3 n3 c3]
    | 1 => v = .agg #[iv p.inp, .slice A1 n1 c1, .slice A2 n2 c2, .slice A3 n3 c3]
    | 2 => ∃ sv lo hi, v = .agg #[sv] ∧ SlV tabP lo hi M' sv (p.nodes.map startV)
    | 3 => ∃ PB oid vid cid vs, v = .pointer (some ⟨PB, 0, none⟩) ∧ Play (fun i => i = vid ∨ i = cid) M0.length M' [iv p.inp, .slice A1 n1 c1, .slice A2 n2 c2, .slice A3 n3 c3] p PB oid vid cid (List.replicate p.nodes.length 0) vs (p.nodes.map startV)
    | 4 => v = .slice Ai ni ci
    | 5 => v = iv N
    | 6 => RendK M (rendS p ins N).1 v M'
    | 7 => RendK M (rendS p ins N).1 v M'
    | _ => True) ?_ (by kernel_rfl) (by decide +kernel) (by decide +kernel) ?_ ?_
  · intro k v M1 M2 h hk
    have rk : RendK M (rendS p ins N).1 v M1 → RendK M (rendS p ins N).1 v M2 := fun ⟨uid, w, lo3, hi3, a, b, c, d, e⟩ => ⟨uid, w, lo3, hi3, a, cellAt_keeps hk b, rowEsz_keeps hk c, d.keeps hk, e.trans hk⟩
    rcases k with _ | _ | _ | _ | _ | _ | _ | _ | k
    · exact h
    · exact h
    · obtain ⟨sv, lo, hi, a, b⟩ := h
      exact ⟨sv, lo, hi, a, b.keeps hk⟩
    · obtain ⟨PB, oid, vid, cid, vs, a, b⟩ := h
      exact ⟨PB, oid, vid, cid, vs, a, Play.keeps b hk⟩
    · exact h
    · exact h
    · exact rk h
    · exact rk h
    · trivial
  · intro X k o T M1 K hC hX hk hp' hf' ho' hK
    have kk1 := k0.trans hk
    have lk : M0.length ≤ M1.length := hk.len
    have t3 := hf' 3 (by decide +kernel)
    have t1 := hf' 1 (by decide +kernel)
    have t2 := hf' 2 (by decide +kernel)
    simp at t3 t1 t2
    rcases k with _ | _ | _ | _ | _ | _ | _ | _ | k
    · simp at ho'; subst ho'
      simp [t3, cellsAt_keeps hk b4]
      exact hK _ _ (.inl (Keeps.refl _)) rfl
    · simp at ho'; subst ho'
      simp [t3, cellsAt_keeps hk b4]
      exact hK _ _ (.inl (Keeps.refl _)) rfl
    · obtain ⟨v, d, q⟩ := hp' 1 8 (by decide +kernel) rfl
      rw [q (by simp)] at d
      simp at ho'; subst ho'
      simp [d]
      refine awCall_ctr ((startState_i (patchP.keeps h kk1) hok hn24).weaken (by omega)) ?_
      rintro _ M2 ⟨v, rfl, hL, k1⟩
      exact hK _ _ (.inl k1) ⟨v, _, _, rfl, hL.slv (fun c hc => by
        obtain ⟨k, hk, rfl⟩ := List.getElem_of_mem hc
        simp at hk ⊢
        exact startV_small (hok _ (List.getElem_mem _))) (by simp; omega)⟩
    · obtain ⟨v7, d7, q7⟩ := hp' 0 7 (by decide +kernel) rfl
      obtain ⟨v9, d9, q9⟩ := hp' 2 9 (by decide +kernel) rfl
      rw [q7 (by simp)] at d7
      obtain ⟨sv, lo9, hi9, rfl, hsv⟩ := q9 (fun z hz => by simp at hz; subst hz; cases hx : X 6 with | false => rfl | true => rw [hC.at_ 3 hx (by decide +kernel)] at hX; cases hX)
      simp at ho'; subst ho'
      simp [d7, d9]
      refine awCall_ctr ((playerOf_i (patchP.keeps h kk1) hsv hf ho (rendS_ok (ins := []) hok 0) h0).weaken (by omega)) ?_
      rintro _ M2 ⟨PB, oid, vid, cid, vs, rfl, hP, k2⟩
      exact hK _ _ (.inl k2) ⟨PB, oid, vid, cid, vs, rfl, hP.thin (by omega)⟩
    · simp at ho'; subst ho'
      simp [t1]
      exact hK _ _ (.inl (Keeps.refl _)) rfl
    · simp at ho'; subst ho'
      simp [t2]
      exact hK _ _ (.inl (Keeps.refl _)) rfl
    · obtain ⟨v10, d10, q10⟩ := hp' 3 10 (by decide +kernel) rfl
      obtain ⟨v11, d11, q11⟩ := hp' 4 11 (by decide +kernel) rfl
      obtain ⟨v12, d12, q12⟩ := hp' 5 12 (by decide +kernel) rfl
      obtain ⟨PB, oid, vid, cid, vs, rfl, hP⟩ := q10 (by simpa using hX)
      rw [q11 (by simp)] at d11
      rw [q12 (by simp)] at d12
      have hlow := hP.low
      simp at ho'; subst ho'
      simp [d10, d11, d12]
      refine awCall_ctr (block_i (N := N) hP (patchP.keeps h kk1) hf ho (hins.keeps kk1) hin hout hN (fun i h1 h2 hx => by rcases hx with e | e <;> omega) (fun i h1 h2 hx => by rcases hx with e | e <;> omega) ⟨by omega, by omega⟩ (by omega) (by omega)) ?_
      rintro r M3 ⟨uid, w, lo3, hi3, rfl, f1, f2, f3, f4⟩
      have kM0 : Keeps M0 M3 := by
        unfold Keeps
        exact fun i s hs => f4.2 i s (fun hx => by have := (List.getElem?_eq_some_iff.1 hs).1; rcases hx with e | e <;> omega) (hk.get hs)
      have kM := k0.trans kM0
      refine hK _ _ (.inr ⟨?_, fun j u hj hkj hju => ?_⟩) ⟨uid, w, lo3, hi3, rfl, f1, f2, f3, kM⟩
      · exact kM0
      · rcases j with _ | _ | _ | _ | _ | _ | _ | _ | j
        · exact hju
        · exact hju
        · simp at hkj
        · simp at hkj
        · exact hju
        · exact hju
        · rw [hX] at hj; cases hj
        · rw [hC.at_ 6 hj (by decide +kernel)] at hX; cases hX
        · trivial
    · obtain ⟨v, d, q⟩ := hp' 6 13 (by decide +kernel) rfl
      have q := q (by simp)
      simp at ho'; subst ho'
      simp [d]
      exact hK _ _ (.inl (Keeps.refl _)) q
    · simp at ho'
  · intro T M1 hk hp' hf'
    obtain ⟨v, d, q⟩ := hp' 7 6 (by simp) rfl
    have q := q (by simp)
    simp [d]
    exact q
set_option maxHeartbeats 1000000 in
theorem voice_x {M : Mem} {lo hi : Nat} {us : List Value} {x : Inst} {A : Option Addr} {n c N : Nat} {l : List Gate} (h : instP.rd lo hi M x us) (hb : instB x = true) (hg : Sl gateR M A n l) (hok : okG l = true) (hN : N ≤ 4000) (hM : hi ≤ M.length) :
    Det Tryz.prog M.length 54 [.agg us.toArray, .slice A n c, iv N] M (.slice (some ⟨M.length, 0, none⟩) (voL x l N).length (voL x l N).length) (M ++ [.live (rowI (voL x l N))]) := by
  refine Ctr.compact (rowI_plain _) ?_
  obtain ⟨f1, f2, f3, f4, f5⟩ := instB_pat hb
  have h' := h
  obtain ⟨ps, es, w, rfl, hp, he, hw⟩ := h'
  obtain ⟨A1, n1, c1, A2, n2, c2, A3, n3, c3, rfl⟩ := patch_isV hp
  obtain ⟨A4, n4, c4, rfl⟩ := env_isV he
  obtain ⟨A5, n5, c5, rfl⟩ := hw.isSl
  first | (refine ctr_fn Tryz.func54 rfl Tryz.ntmps54 Tryz.results54 rfl rfl (by simp) ?_) | (refine ctr_fnC Tryz.func54 rfl Tryz.ntmps54 Tryz.results54 rfl (by simp) ?_)
  simp
  obtain ⟨M0, hM0⟩ : ∃ M0 : Mem, M0 = M ++ [Slot.live ⟨[iv x.pat.inp, .slice A1 n1 c1, .slice A2 n2 c2, .slice A3 n3 c3, iv x.env.st, .slice A4 n4 c4, iv x.env.rel, .slice A5 n5 c5], true, true, 44, 8⟩] := ⟨_, rfl⟩
  have k0 : Keeps M M0 := by rw [hM0]; exact keeps_app _
  have l0 : M0.length = M.length + 1 := by rw [hM0]; simp
  have b4 : cellsAt M0 M.length 0 4 = some [iv x.pat.inp, .slice A1 n1 c1, .slice A2 n2 c2, .slice A3 n3 c3] := by rw [hM0]; simp
  have b8 : cellsAt M0 M.length 0 8 = some [iv x.pat.inp, .slice A1 n1 c1, .slice A2 n2 c2, .slice A3 n3 c3, iv x.env.st, .slice A4 n4 c4, iv x.env.rel, .slice A5 n5 c5] := by rw [hM0]; simp
  rw [← hM0]
  clear hM0
  refine awDraw_K (fun _ => []) (fun k v M' => match k with
    | 0 => v = .pointer (some ⟨M.length, 0, none⟩)
    | 1 => v = .agg #[iv x.pat.inp, .slice A1 n1 c1, .slice A2 n2 c2, .slice A3 n3 c3]
    | 2 => v = .agg #[iv x.pat.inp, .slice A1 n1 c1, .slice A2 n2 c2, .slice A3 n3 c3, iv x.env.st, .slice A4 n4 c4, iv x.env.rel, .slice A5 n5 c5]
    | 3 => v = .slice A n c
    | 4 => v = iv N
    | 5 => ∃ lo hi, SlV tabP lo hi M' v (ctlL x l N) ∧ hi ≤ M'.length
    | 6 => v = iv N
    | 7 => ∃ uid w lo3 hi3, v = .slice (some ⟨uid, 0, none⟩) 1 1 ∧ cellAt M' uid 0 = some w ∧ rowEsz M' uid = some 1 ∧ SlV intP lo3 hi3 M' w (voL x l N)
    | 8 => ∃ uid w lo3 hi3, v = .pointer (some ⟨uid, 0, none⟩) ∧ cellAt M' uid 0 = some w ∧ SlV intP lo3 hi3 M' w (voL x l N)
    | 9 => ∃ lo3 hi3, SlV intP lo3 hi3 M' v (voL x l N)
    | 10 => NewRow M v M' (voL x l N).length (rowI (voL x l N))
    | 11 => NewRow M v M' (voL x l N).length (rowI (voL x l N))
    | _ => True) ?_ (by kernel_rfl) (by decide +kernel) (by decide +kernel) ?_ ?_
  · intro k v M1 M2 h hk
    rcases k with _ | _ | _ | _ | _ | _ | _ | _ | _ | _ | _ | _ | k
    · exact h
    · exact h
    · exact h
    · exact h
    · exact h
    · obtain ⟨lo, hi, a, b⟩ := h
      exact ⟨lo, hi, a.keeps hk, Nat.le_trans b hk.len⟩
    · exact h
    · obtain ⟨uid, w, lo3, hi3, a, b, c, d⟩ := h
      exact ⟨uid, w, lo3, hi3, a, cellAt_keeps hk b, rowEsz_keeps hk c, d.keeps hk⟩
    · obtain ⟨uid, w, lo3, hi3, a, b, d⟩ := h
      exact ⟨uid, w, lo3, hi3, a, cellAt_keeps hk b, d.keeps hk⟩
    · obtain ⟨lo3, hi3, d⟩ := h
      exact ⟨lo3, hi3, d.keeps hk⟩
    · exact NewRow.keeps h hk
    · exact NewRow.keeps h hk
    · trivial
  · intro X k o T M1 K hC hX hk hp' hf ho' hK
    have kk1 := k0.trans hk
    have lk : M0.length ≤ M1.length := hk.len
    have f3' := hf 3 (by decide +kernel)
    have t1 := hf 1 (by decide +kernel)
    have t2 := hf 2 (by decide +kernel)
    simp at f3' t1 t2
    rcases k with _ | _ | _ | _ | _ | _ | _ | _ | _ | _ | _ | _ | k
    · simp at ho'; subst ho'
      simp [f3']
      exact hK _ _ (.inl (Keeps.refl _)) rfl
    · obtain ⟨v, d, q⟩ := hp' 0 7 (by decide +kernel) rfl
      rw [q (by simp)] at d
      simp at ho'; subst ho'
      simp [d, cellsAt_keeps hk b4]
      exact hK _ _ (.inl (Keeps.refl _)) rfl
    · simp at ho'; subst ho'
      simp [f3', cellsAt_keeps hk b8]
      exact hK _ _ (.inl (Keeps.refl _)) rfl
    · simp at ho'; subst ho'
      simp [t1]
      exact hK _ _ (.inl (Keeps.refl _)) rfl
    · simp at ho'; subst ho'
      simp [t2]
      exact hK _ _ (.inl (Keeps.refl _)) rfl
    · obtain ⟨v9, d9, q9⟩ := hp' 2 9 (by decide +kernel) rfl
      obtain ⟨v10, d10, q10⟩ := hp' 3 10 (by decide +kernel) rfl
      obtain ⟨v11, d11, q11⟩ := hp' 4 11 (by decide +kernel) rfl
      rw [q9 (by simp)] at d9
      rw [q10 (by simp)] at d10
      rw [q11 (by simp)] at d11
      simp at ho'; subst ho'
      simp [d9, d10, d11]
      refine awCall_ctr (controls_i (instP.keeps h kk1) hb (hg.keeps kk1) hok hN (by omega)) ?_
      rintro _ M2 ⟨oid, i0, i1, i2, v0, v1, v2, rfl, hCt, hS⟩
      refine hK _ _ (.inl (slt hS)) ⟨M1.length, M2.length, ?_, Nat.le_refl _⟩
      refine CtO.slv (.inr ⟨_, _, _, _, _, _, _, _, _, _, rfl, rfl, hCt⟩) fun q hq => ?_
      simp [ctlL] at hq
      rcases hq with rfl | rfl | rfl <;> (rw [mkC_len]; omega)
    · simp at ho'; subst ho'
      simp [t2]
      exact hK _ _ (.inl (Keeps.refl _)) rfl
    · obtain ⟨v8, d8, q8⟩ := hp' 1 8 (by decide +kernel) rfl
      obtain ⟨v12, d12, q12⟩ := hp' 5 12 (by decide +kernel) rfl
      obtain ⟨v13, d13, q13⟩ := hp' 6 13 (by decide +kernel) rfl
      rw [q8 (by simp)] at d8
      rw [q13 (by simp)] at d13
      obtain ⟨lo9, hi9, hct, hhi⟩ := q12 (by simp)
      simp at ho'; subst ho'
      simp [d8, d12, d13]
      refine awCall_ctr ((render_i (N := N) (patchP.keeps hp kk1) f1 f2 f5 hct (by rw [f3]; rfl) f4 hN ⟨by omega, hhi⟩).weaken (by omega)) ?_
      rintro _ M2 ⟨uid, w, lo3, hi3, rfl, g1, g2, g3, g4⟩
      exact hK _ _ (.inl g4) ⟨uid, w, lo3, hi3, rfl, g1, g2, g3⟩
    · obtain ⟨v, d, q⟩ := hp' 7 14 (by decide +kernel) rfl
      obtain ⟨uid, w, lo3, hi3, rfl, g1, g2, g3⟩ := q (by simp)
      simp at ho'; subst ho'
      simp [d, g2]
      exact hK _ _ (.inl (Keeps.refl _)) ⟨uid, w, lo3, hi3, rfl, g1, g3⟩
    · obtain ⟨v, d, q⟩ := hp' 8 15 (by decide +kernel) rfl
      obtain ⟨uid, w, lo3, hi3, rfl, g1, g3⟩ := q (by simp)
      simp at ho'; subst ho'
      simp [d, g1]
      exact hK _ _ (.inl (Keeps.refl _)) ⟨lo3, hi3, g3⟩
    · obtain ⟨v, d, q⟩ := hp' 9 16 (by decide +kernel) rfl
      obtain ⟨lo3, hi3, g3⟩ := q (by simp)
      simp at ho'; subst ho'
      simp [d]
      refine awCall_det' (clone_x g3 (by rw [voL_len]; omega)) (by omega) ?_
      exact hK _ _ (.inl (keeps_app _)) (newRow_in (t := false) rfl (by omega) (by simp [rowI]))
    · obtain ⟨v, d, q⟩ := hp' 10 17 (by decide +kernel) rfl
      have q := q (by simp)
      simp at ho'; subst ho'
      simp [d]
      exact hK _ _ (.inl (Keeps.refl _)) q
    · simp at ho'
  · intro T M1 hk hp' hf
    obtain ⟨v, d, q⟩ := hp' 11 6 (by simp) rfl
    have q := q (by simp)
    simp [d]
    exact ⟨q, k0.trans hk⟩
def VoO (B : Nat) (M : Mem) (u : Value) (l : List Int) : Prop := Acc intR 2 B M u l
def VoS (out : List Int × Int) (M : Mem) (r : Value) (M' : Mem) : Prop := ∃ u, r = .tuple #[u, iv out.2] ∧ VoO M.length M' u out.1 ∧ Same M.length M M'
end Go.Proofs.YtimijeeihicohaaGreat

namespace Go.Proofs.YtimijeeihicohaaGreat
open Go.RowKit
set_option linter.unusedVariables false
set_option linter.unusedSimpArgs false
set_option maxRecDepth 100000
attribute [local simp] List.getElem?_cons_zero
attribute [local irreducible] awCond awCall awLoop awDraw ow retQ retC resQ Keeps
theorem smp_mod {x y : Int} (h : x % 4294967296 = y % 4294967296) : smp x = smp y := by unfold smp; omega
theorem smp_m (x : Int) : smp x % 4294967296 = x % 4294967296 := by unfold smp; omega
theorem smp_add2 (a b : Int) : smp (smp a + smp b) = smp (a + b) := smp_mod (by rw [Int.add_emod, smp_m, smp_m, ← Int.add_emod])
theorem smp_sub2 (a b : Int) : smp (smp a - smp b) = smp (a - b) := smp_mod (by rw [Int.sub_emod, smp_m, smp_m, ← Int.sub_emod])
theorem smp_mul2 (a b : Int) : smp (smp a * smp b) = smp (a * b) := smp_mod (by rw [Int.mul_emod, smp_m, smp_m, ← Int.mul_emod])
theorem smp_addr (a b : Int) : smp (a + smp b) = smp (a + b) := smp_mod (by rw [Int.add_emod, smp_m, ← Int.add_emod])
theorem smp_addl (a b : Int) : smp (smp a + b) = smp (a + b) := smp_mod (by rw [Int.add_emod, smp_m, ← Int.add_emod])
theorem l01Sub_s {M : Mem} (a b : Int) : Det Tryz.prog M.length 231 [iv a, iv b] M (iv (smp (smp a - smp b))) M := by
  have h1 := smp_bd a
  have h2 := smp_bd b
  first | (refine det_fn Tryz.func231 rfl Tryz.ntmps231 Tryz.results231 rfl rfl rfl (by simp) ?_) | (refine det_fnC Tryz.func231 rfl Tryz.ntmps231 Tryz.results231 rfl rfl (by simp) ?_)
  simp
  refine awCall_det' (l01Wrap_t _) (by simp) ?_
  try simp
  refine awCall_det' (l01Wrap_t _) (by simp) ?_
  simp (disch := omega) [wrap_in]
  refine awCall_det' (l01Wrap_t _) (by simp) ?_
  simp [Keeps.refl]
theorem l06Noise_s {M : Mem} (x : Int) : Det Tryz.prog M.length 236 [iv x] M (iv (noiseV x)) M := by
  have hx : 0 ≤ x % 4294967296 ∧ x % 4294967296 < 4294967296 := by omega
  have e1 : (2 : Int) ^ (1 : Int).toNat = 2 := by decide
  first | (refine det_fn Tryz.func236 rfl Tryz.ntmps236 Tryz.results236 rfl rfl rfl (by simp) ?_) | (refine det_fnC Tryz.func236 rfl Tryz.ntmps236 Tryz.results236 rfl rfl (by simp) ?_)
  simp [andS, and1S]
  by_cases ho : x % 2 = 1
  · simp [ho]
    rw [binV_shift rfl, shrS (by omega) (by omega), ow_some, e1]
    simp [xorS (a := x % 4294967296 / 2) (by omega) (by omega)]
    refine awCall_det' (l01Wrap_t _) (by simp) ?_
    simp [noiseV, ho, Keeps.refl]
  · simp [ho]
    rw [binV_shift rfl, shrS (by omega) (by omega), ow_some, e1]
    simp
    refine awCall_det' (l01Wrap_t _) (by simp) ?_
    simp [noiseV, ho, Keeps.refl]
theorem l06Look_s {M : Mem} {lo hi : Nat} {u : Value} {t : List Int} (x : Int) (h : SlV intP lo hi M u t) (h1 : 2 ≤ t.length) (h2 : t.length ≤ 16) : Det Tryz.prog M.length 233 [u, iv x] M (iv (lookV t x)) M := by
  obtain ⟨A, n, c, rfl, hn, -, hS, -⟩ := sl_take h
  obtain ⟨id, off, rfl, he, hc⟩ := sl_cells hS (by omega)
  obtain ⟨l1, l2, l3, l4⟩ := look_bd h1 h2 x
  obtain ⟨q, hq⟩ := Int.eq_ofNat_of_zero_le l1
  have hcq := hc q (by omega)
  have e32 : (2 : Int) ^ (32 : Int).toNat = 4294967296 := by decide
  rw [hn] at l2 l3 l4 hq
  have hqn : q < n := by omega
  first | (refine det_fn Tryz.func233 rfl Tryz.ntmps233 Tryz.results233 rfl rfl rfl (by simp) ?_) | (refine det_fnC Tryz.func233 rfl Tryz.ntmps233 Tryz.results233 rfl rfl (by simp) ?_)
  simp (disch := omega) [andS, wrap_in]
  rw [binV_shift rfl, shrS (by omega) (by omega), ow_some, e32, hq]
  simp (disch := omega) [hcq, he, hqn]
  simp [lookV, hn, hq, Keeps.refl]
set_option maxHeartbeats 1000000 in
theorem l06Out_s {M : Mem} {lo hi lo1 hi1 lo2 hi2 lo3 hi3 id0 off0 : Nat} {us : List Value} {x : Node} {tv vi vs : Value} {i s : List Int} {p : Patch} (h : nodeP.rd lo hi M x us) (hc0 : Cl M id0 off0 us) (ht : SlV tabP lo1 hi1 M tv p.tabs) (hi : SlV intP lo2 hi2 M vi i) (hs : SlV intP lo3 hi3 M vs s) (hx : NodeOk p x) (htb : tablesB p.tabs = true)
    (hil : i.length = if x.k = 1 then 1 else x.from_.length) (hsl : s.length = (startV x).length) :
    Det Tryz.prog M.length 218 [.pointer (some ⟨id0, off0, none⟩), tv, vi, vs] M (iv (outV x p.tabs i s)) M := by
  obtain ⟨A, n, c, rfl, hu⟩ := node_box h
  have ck := hc0 0 _ rfl
  have ca := hc0 1 _ rfl
  simp only [Nat.add_zero] at ck
  first | (refine det_fn Tryz.func218 rfl Tryz.ntmps218 Tryz.results218 rfl rfl rfl (by simp) ?_) | (refine det_fnC Tryz.func218 rfl Tryz.ntmps218 Tryz.results218 rfl rfl (by simp) ?_)
  simp [ck]
  generalize hkk : x.k = kk at *
  by_cases k1 : kk = 1
  · subst k1
    obtain ⟨idi, offi, di, rfl, ei, i0, i1, i2⟩ := slv_at hi (n := 1) (by rw [hil]; first | rw [if_pos (by omega)] | (rw [if_neg (by omega)]; exact hx.one (by omega))) (by omega)
    try simp
    simp [i0, ei]
    simp [outV, hkk, Keeps.refl, smp_add2, smp_sub2, smp_mul2, smp_addr, smp_addl]
  simp [k1]
  by_cases k2 : kk = 2
  · subst k2
    try simp
    simp [ca]
    simp [outV, hkk, Keeps.refl, smp_add2, smp_sub2, smp_mul2, smp_addr, smp_addl]
  simp [k2]
  by_cases k3 : kk = 3
  · subst k3
    obtain ⟨idi, offi, di, rfl, ei, i0, i1, i2⟩ := slv_at hi (n := 2) (by rw [hil]; rw [if_neg (by omega)]; exact hx.two (by omega)) (by omega)
    have i1' := i1 (by omega)
    try simp
    refine awDraw_E 6 [[],[0],[1,0],[],[3],[4,3],[2,1,0,5,4,3],[6,2,1,0,5,4,3]] (by kernel_rfl) (by kernel_rfl) ?_
    simp [i0, i1', ei]
    refine awCall_det' (l01Add_s _ _) (by first | omega | (simp <;> omega) | simp) ?_
    simp [outV, hkk, Keeps.refl, smp_add2, smp_sub2, smp_mul2, smp_addr, smp_addl]
  simp [k3]
  by_cases k4 : kk = 4
  · subst k4
    obtain ⟨idi, offi, di, rfl, ei, i0, i1, i2⟩ := slv_at hi (n := 2) (by rw [hil]; rw [if_neg (by omega)]; exact hx.two (by omega)) (by omega)
    have i1' := i1 (by omega)
    try simp
    refine awDraw_E 6 [[],[0],[1,0],[],[3],[4,3],[2,1,0,5,4,3],[6,2,1,0,5,4,3]] (by kernel_rfl) (by kernel_rfl) ?_
    simp [i0, i1', ei]
    refine awCall_det' (l01Sub_s _ _) (by first | omega | (simp <;> omega) | simp) ?_
    simp [outV, hkk, Keeps.refl, smp_add2, smp_sub2, smp_mul2, smp_addr, smp_addl]
  simp [k4]
  by_cases k5 : kk = 5
  · subst k5
    obtain ⟨idi, offi, di, rfl, ei, i0, i1, i2⟩ := slv_at hi (n := 1) (by rw [hil]; first | rw [if_pos (by omega)] | (rw [if_neg (by omega)]; exact hx.one (by omega))) (by omega)
    try simp
    refine awDraw_E 7 [[],[0],[1,0],[2,1,0],[],[4],[5,4],[3,2,1,0,6,5,4],[7,3,2,1,0,6,5,4]] (by kernel_rfl) (by kernel_rfl) ?_
    simp [i0, ei, ca]
    refine awCall_det' (l01Mul_s _ _) (by first | omega | (simp <;> omega) | simp) ?_
    simp [outV, hkk, Keeps.refl, smp_add2, smp_sub2, smp_mul2, smp_addr, smp_addl]
  simp [k5]
  by_cases k6 : kk = 6
  · subst k6
    have hs1 : 0 < s.length := by
      rw [hsl]; unfold startV; rw [hkk]
      simp
      have := hx.del (by omega); omega
    obtain ⟨ids, offs, ds, rfl, es, s0, -, -⟩ := slv_at hs (n := s.length) rfl hs1
    try simp
    simp [s0, es, hs1]
    simp [outV, hkk, Keeps.refl, smp_add2, smp_sub2, smp_mul2, smp_addr, smp_addl]
  simp [k6]
  by_cases k12 : kk = 12
  · subst k12
    have hs1 : 0 < s.length := by
      rw [hsl]; unfold startV; rw [hkk]
      simp
      skip
    obtain ⟨ids, offs, ds, rfl, es, s0, -, -⟩ := slv_at hs (n := s.length) rfl hs1
    try simp
    simp [s0, es, hs1]
    simp [outV, hkk, Keeps.refl, smp_add2, smp_sub2, smp_mul2, smp_addr, smp_addl]
  simp [k12]
  by_cases k14 : kk = 14
  · subst k14
    have hs1 : 0 < s.length := by
      rw [hsl]; unfold startV; rw [hkk]
      simp
      skip
    obtain ⟨ids, offs, ds, rfl, es, s0, -, -⟩ := slv_at hs (n := s.length) rfl hs1
    try simp
    simp [s0, es, hs1]
    simp [outV, hkk, Keeps.refl, smp_add2, smp_sub2, smp_mul2, smp_addr, smp_addl]
  simp [k14]
  by_cases k7 : kk = 7
  · subst k7
    obtain ⟨idi, offi, di, rfl, ei, i0, i1, i2⟩ := slv_at hi (n := 1) (by rw [hil]; first | rw [if_pos (by omega)] | (rw [if_neg (by omega)]; exact hx.one (by omega))) (by omega)
    have hs1 : 0 < s.length := by
      rw [hsl]; unfold startV; rw [hkk]
      simp
      skip
    obtain ⟨ids, offs, ds, rfl, es, s0, -, -⟩ := slv_at hs (n := s.length) rfl hs1
    try simp
    refine awDraw_E 6 [[],[0],[1,0],[],[3],[4,3],[2,1,0,5,4,3],[6,2,1,0,5,4,3]] (by kernel_rfl) (by kernel_rfl) ?_
    simp [i0, ei, s0, es, hs1]
    refine awCall_det' (l01Add_s _ _) (by first | omega | (simp <;> omega) | simp) ?_
    simp [outV, hkk, Keeps.refl, smp_add2, smp_sub2, smp_mul2, smp_addr, smp_addl]
  simp [k7]
  by_cases k8 : kk = 8
  · subst k8
    obtain ⟨idi, offi, di, rfl, ei, i0, i1, i2⟩ := slv_at hi (n := 1) (by rw [hil]; first | rw [if_pos (by omega)] | (rw [if_neg (by omega)]; exact hx.one (by omega))) (by omega)
    have hs1 : 0 < s.length := by
      rw [hsl]; unfold startV; rw [hkk]
      simp
      skip
    obtain ⟨ids, offs, ds, rfl, es, s0, -, -⟩ := slv_at hs (n := s.length) rfl hs1
    try simp
    refine awDraw_E 6 [[],[0],[1,0],[],[3],[4,3],[2,1,0,5,4,3],[6,2,1,0,5,4,3]] (by kernel_rfl) (by kernel_rfl) ?_
    simp [i0, ei, s0, es, hs1]
    refine awCall_det' (l01Sub_s _ _) (by first | omega | (simp <;> omega) | simp) ?_
    simp [outV, hkk, Keeps.refl, smp_add2, smp_sub2, smp_mul2, smp_addr, smp_addl]
  simp [k8]
  by_cases k9 : kk = 9
  · subst k9
    obtain ⟨idi, offi, di, rfl, ei, i0, i1, i2⟩ := slv_at hi (n := 2) (by rw [hil]; rw [if_neg (by omega)]; exact hx.two (by omega)) (by omega)
    have i1' := i1 (by omega)
    try simp
    refine awDraw_E 6 [[],[0],[1,0],[],[3],[4,3],[2,1,0,5,4,3],[6,2,1,0,5,4,3]] (by kernel_rfl) (by kernel_rfl) ?_
    simp [i0, i1', ei]
    refine awCall_det' (l01Mul_s _ _) (by first | omega | (simp <;> omega) | simp) ?_
    simp [outV, hkk, Keeps.refl, smp_add2, smp_sub2, smp_mul2, smp_addr, smp_addl]
  simp [k9]
  by_cases k10 : kk = 10
  · subst k10
    obtain ⟨idi, offi, di, rfl, ei, i0, i1, i2⟩ := slv_at hi (n := 1) (by rw [hil]; first | rw [if_pos (by omega)] | (rw [if_neg (by omega)]; exact hx.one (by omega))) (by omega)
    try simp
    refine awDraw_E 8 [[],[0],[1,0],[],[3],[4,3],[5,4,3],[6,5,4,3],[2,1,0,7,6,5,4,3],[8,2,1,0,7,6,5,4,3]] (by kernel_rfl) (by kernel_rfl) ?_
    obtain ⟨a1, a2⟩ := hx.shift (by omega)
    have e1 : IntKind.u64.wrap x.a = x.a := IntWalk.u64_in _ ⟨a1, by omega⟩
    simp [i0, ei, ca, e1]
    rw [binV_shift rfl, shrS a1 (by omega), ow_some]
    simp [outV, hkk, Keeps.refl, smp_add2, smp_sub2, smp_mul2, smp_addr, smp_addl]
  simp [k10]
  by_cases k11 : kk = 11
  · subst k11
    obtain ⟨idi, offi, di, rfl, ei, i0, i1, i2⟩ := slv_at hi (n := 1) (by rw [hil]; first | rw [if_pos (by omega)] | (rw [if_neg (by omega)]; exact hx.one (by omega))) (by omega)
    try simp
    refine awDraw_E 13 [[],[0],[1,0],[2,1,0],[3,2,1,0],[],[5],[6,5],[],[8],[9,8],[10,9,8],[7,6,5,11,10,9,8],[4,3,2,1,0,12,7,6,5,11,10,9,8],[13,4,3,2,1,0,12,7,6,5,11,10,9,8]] (by kernel_rfl) (by kernel_rfl) ?_
    obtain ⟨a1, a2⟩ := hx.clip (by omega)
    have e1 : IntKind.i64.wrap (-x.a) = -x.a := wrap_in (by omega) (by omega)
    simp [i0, ei, ca, e1]
    refine awCall_det' (d := true) (l00Min_t _ _) (by first | omega | (simp <;> omega) | simp) ?_
    simp
    refine awCall_det' (l00Max_v _ _) (by first | omega | (simp <;> omega) | simp) ?_
    simp [outV, hkk, Keeps.refl]
    omega
  simp [k11]
  by_cases k13 : kk = 13
  · subst k13
    obtain ⟨idi, offi, di, rfl, ei, i0, i1, i2⟩ := slv_at hi (n := 1) (by rw [hil]; first | rw [if_pos (by omega)] | (rw [if_neg (by omega)]; exact hx.one (by omega))) (by omega)
    try simp
    refine awDraw_E 10 [[],[],[1],[2,1],[3,2,1],[0,4,3,2,1],[5,0,4,3,2,1],[],[7],[8,7],[6,5,0,4,3,2,1,9,8,7],[10,6,5,0,4,3,2,1,9,8,7]] (by kernel_rfl) (by kernel_rfl) ?_
    obtain ⟨a1, a2⟩ := hx.tab (by omega)
    obtain ⟨b1, b2⟩ := tab_at htb (k := x.a.toNat) (by omega)
    obtain ⟨B, m, e, rfl, g1, g2, g3⟩ := ht
    have hml := g3.1
    obtain ⟨idt, offt, ust, rfl, het, ⟨ut, rfl, hut⟩, hct⟩ := g3.at_ (i := x.a.toNat) (by omega)
    have ct := (cl_cons.1 hct).1
    simp only [Nat.mul_one] at ct
    have hneg : ¬ x.a < 0 := by omega
    have hlm : x.a < m := by omega
    simp (disch := omega) [het, ct, hneg, hlm, i0, ei, ca, a1]
    refine awCall_det' (l06Look_s _ hut b1 b2) (by first | omega | (simp <;> omega) | simp) ?_
    simp [outV, hkk, Keeps.refl, smp_add2, smp_sub2, smp_mul2, smp_addr, smp_addl]
  simp [k13]
  by_cases k15 : kk = 15
  · subst k15
    obtain ⟨idi, offi, di, rfl, ei, i0, i1, i2⟩ := slv_at hi (n := 3) (by rw [hil]; rw [if_neg (by omega)]; exact hx.three (by omega)) (by omega)
    have i1' := i1 (by omega)
    have i2' := i2 (by omega)
    try simp
    simp [i0, ei]
    by_cases h0 : 0 ≤ el i 0
    · simp [h0, i1', ei, outV, hkk, Keeps.refl]
    · simp [h0, i2', ei, outV, hkk, Keeps.refl]
  simp [k15]
  by_cases k16 : kk = 16
  · subst k16
    obtain ⟨idi, offi, di, rfl, ei, i0, i1, i2⟩ := slv_at hi (n := 2) (by rw [hil]; rw [if_neg (by omega)]; exact hx.two (by omega)) (by omega)
    have i1' := i1 (by omega)
    have hs1 : 0 < s.length := by
      rw [hsl]; unfold startV; rw [hkk]
      simp
      skip
    obtain ⟨ids, offs, ds, rfl, es, s0, -, -⟩ := slv_at hs (n := s.length) rfl hs1
    try simp
    simp [i0, i1', ei]
    by_cases h0 : 0 < el i 1
    · simp [h0, i0, ei, outV, hkk, Keeps.refl]
    · simp [h0, s0, es, hs1, outV, hkk, Keeps.refl]
  simp [k16]
  obtain rfl : kk = 17 := by have := hx.kind; omega
  obtain ⟨idi, offi, di, rfl, ei, i0, i1, i2⟩ := slv_at hi (n := 1) (by rw [hil]; first | rw [if_pos (by omega)] | (rw [if_neg (by omega)]; exact hx.one (by omega))) (by omega)
  have hs1 : 0 < s.length := by
    rw [hsl]; unfold startV; rw [hkk]
    simp
    have := hx.comb (by omega); omega
  obtain ⟨ids, offs, ds, rfl, es, s0, -, -⟩ := slv_at hs (n := s.length) rfl hs1
  refine awDraw_E 11 [[],[0],[1,0],[],[3],[4,3],[5,4,3],[],[7],[8,7],[6,5,4,3,9,8,7],[2,1,0,10,6,5,4,3,9,8,7],[11,2,1,0,10,6,5,4,3,9,8,7]] (by kernel_rfl) (by kernel_rfl) ?_
  simp [i0, ei, ca, s0, es, hs1]
  refine awCall_det' (l01Mul_s _ _) (by first | omega | (simp <;> omega) | simp) ?_
  simp
  refine awCall_det' (l01Add_s _ _) (by first | omega | (simp <;> omega) | simp) ?_
  simp [outV, hkk, Keeps.refl, smp_add2, smp_sub2, smp_mul2, smp_addr, smp_addl]
end Go.Proofs.YtimijeeihicohaaGreat

namespace Go.Proofs.YtimijeeihicohaaGreat
open Go.RowKit
set_option linter.unusedVariables false
set_option linter.unusedSimpArgs false
set_option maxRecDepth 100000
attribute [local simp] List.getElem?_cons_zero
attribute [local irreducible] awCond awCall awLoop awDraw ow retQ retC resQ Keeps
theorem l00Own_x {M : Mem} {lo hi : Nat} {u : Value} {l : List Int} (h : SlV intP lo hi M u l) (hn : l.length ≤ 1048576) : Det Tryz.prog M.length 235 [u] M (.slice (some ⟨M.length, 0, none⟩) l.length l.length) (M ++ [.live (rowI l)]) := by
  refine Ctr.compact (rowI_plain l) ?_
  obtain ⟨A, n, c, rfl, hl, -, hS, hc⟩ := sl_take h
  first | (refine ctr_fn Tryz.func235 rfl Tryz.ntmps235 Tryz.results235 rfl rfl (by simp) ?_) | (refine ctr_fnC Tryz.func235 rfl Tryz.ntmps235 Tryz.results235 rfl (by simp) ?_)
  simp
  have hA0 : Acc intR 2 M.length (M ++ [Slot.live ⟨[], true, true, 2, 1⟩]) (.slice (some ⟨M.length, 0, none⟩) 0 0) [] := ⟨_, 0, 0, rfl, rfl, .inr ⟨M.length, true, rfl, Nat.le_refl _, by simp [cellsL]⟩⟩
  obtain ⟨v', M', a1, a2, a3⟩ := clone_det (P := Tryz.prog) (t := 24) (e := 2) (by_ := 8) (b := M.length) (S := ⟨0, [], M ++ [Slot.live ⟨[], true, true, 2, 1⟩]⟩) (hS.keeps (keeps_app _)) hc hA0 (Nat.le_refl _) (by simp) (by simp) ⟨_, Tryz.underlying24⟩ (by kernel_rfl) (by omega) (by unfold maxLen; omega)
  refine appendK_M (S := ⟨0, [], M ++ [Slot.live ⟨[], true, true, 2, 1⟩]⟩) (by rfl) (append_ctr (append_nn (a3 (fun v M => v = v' ∧ M = M') ⟨rfl, rfl⟩)) ?_)
  rintro v M2 ⟨⟨rfl, rfl⟩, hnn⟩
  try simp
  exact ⟨a1.newRow hnn, slt (Same.trans' (Same.appS _ _) a2)⟩
theorem l07Map_x {M : Mem} {lo hi lo' hi' : Nat} {u v : Value} {l vals : List Int} (h : SlV intP lo hi M u l) (h' : SlV intP lo' hi' M v vals) (hl : l.length ≤ 1048576) (hx : ∀ k, k < l.length → ∃ f : Nat, el l k = f ∧ f < vals.length) :
    Det Tryz.prog M.length 234 [u, v] M (.slice (some ⟨M.length, 0, none⟩) l.length l.length) (M ++ [.live (rowI (l.map fun f => el vals f.toNat))]) := by
  have e : l.length = (l.map fun f => el vals f.toNat).length := by simp
  rw [e]
  refine Ctr.compact (rowI_plain _) ?_
  obtain ⟨A, n, c, rfl, hn, hn2, hS, -⟩ := sl_take h
  obtain ⟨B, m, d, rfl, hm, hm2, hT, -⟩ := sl_take h'
  first | (refine ctr_fn Tryz.func234 rfl Tryz.ntmps234 Tryz.results234 rfl rfl (by simp) ?_) | (refine ctr_fnC Tryz.func234 rfl Tryz.ntmps234 Tryz.results234 rfl (by simp) ?_)
  simp
  refine awLoop_T (fun q T M' => ∃ (k : Nat) (r : Value), k + q = n ∧ Same M.length M M' ∧ M.length < M'.length ∧ Acc intR 2 M.length M' r ((l.take k).map fun f => el vals f.toNat) ∧ (∃ a n c, r = .slice (some a) n c) ∧ look T 5 = some r ∧ look T 6 = some (iv k) ∧ look T 0 = some (.slice A n c) ∧ look T 1 = some (.slice B m d)) n
    ⟨0, _, by omega, .appS _ _, by simp, ⟨_, 0, 0, rfl, rfl, .inr ⟨M.length, true, rfl, Nat.le_refl _, by simp [cellsL]⟩⟩, ⟨_, _, _, rfl⟩, by simp, by simp, by simp, by simp⟩ ?_
  rintro q T M1 ⟨k, r, hq, i1, i2, i3, ⟨ra, rn, rc, rfl⟩, t5, t6, t0, t1⟩
  by_cases hlt : k < n
  · obtain ⟨id, off, rfl, he, hc⟩ := sl_cells hS (by omega)
    obtain ⟨p, hp, hpl⟩ := hx k (by omega)
    obtain ⟨id', off', rfl, he', hc'⟩ := sl_cells hT (by omega)
    have kk := slt i1
    have c1 := cellAt_keeps kk (hc k hlt)
    have c2 := cellAt_keeps kk (hc' p (by omega))
    rw [hp] at c1
    have e1 := rowEsz_keeps kk he
    have e2 := rowEsz_keeps kk he'
    have hpm : p < m := by omega
    simp (disch := omega) [t5, t6, t0, t1, hlt, c1, c2, e1, e2, wrap_in, hpm, fill1I]
    obtain ⟨v', M', a1, a2, a3⟩ := append_det (P := Tryz.prog) (t := 24) (tx := 24) (e := 2) (by_ := 8) (b := M.length) (S := ⟨0, [], M1 ++ [Slot.live ⟨[iv (el vals p)], true, true, 2, 1⟩]⟩) (x := .slice (some ⟨M1.length, 0, none⟩) 1 1) (a := el vals p) (i3.keeps (keeps_app _)) (Nat.le_refl _) (by simp; omega) (by simp) (by kernel_rfl) (by simp [srcOf]; rfl) (by simp; omega) (by simp; unfold maxLen; omega)
    refine appendK_M (S := ⟨0, [], M1 ++ [Slot.live ⟨[iv (el vals p)], true, true, 2, 1⟩]⟩) (by rfl) (append_ctr (append_nn (a3 (fun v M => v = v' ∧ M = M') ⟨rfl, rfl⟩)) ?_)
    rintro v M2 ⟨⟨rfl, rfl⟩, hnn⟩
    have hs := Same.trans' (Same.trans' i1 (Same.appB _ _)) a2
    have hml : M.length < M2.length := by have := a2.1; simp at this; omega
    try simp (disch := omega) [t5, t6, t0, t1, wrap_in]
    refine lpI (q - 1) (by omega) ⟨k + 1, _, by omega, hs, hml, ?_, hnn, by simp, by simp, by simp [t0], by simp [t1]⟩
    rw [take_el (by omega), List.map_append]
    simpa [hp] using a1
  · obtain rfl : k = n := by omega
    rw [List.take_of_length_le (by omega)] at i3
    simp [t5, t6, t0, t1]
    have := i3.newRow ⟨_, _, _, rfl⟩
    simp at this
    exact ⟨this, slt i1⟩
theorem l03Zeros_x {M : Mem} (n : Nat) (hn : n ≤ 4000) : Det Tryz.prog M.length 84 [iv n] M (.slice (some ⟨M.length, 0, none⟩) n n) (M ++ [.live (rowI (List.replicate n 0))]) := by
  refine Ctr.compact (rowI_plain _) ((l03Zeros_r n hn (Nat.le_refl _)).mono ?_)
  rintro v M' ⟨id, hid, ⟨h1, t, c, rfl, h3⟩, hS⟩
  rw [List.length_replicate]
  exact ⟨newRow_in (by simp) h1 h3, slt hS⟩

theorem l06Start_x {M : Mem} {lo hi id0 off0 : Nat} {us : List Value} {x : Node} {p : Patch} (h : nodeP.rd lo hi M x us) (hc0 : Cl M id0 off0 us) (hx : NodeOk p x) :
    Det Tryz.prog M.length 189 [.pointer (some ⟨id0, off0, none⟩)] M (.slice (some ⟨M.length, 0, none⟩) (startV x).length (startV x).length) (M ++ [.live (rowI (startV x))]) := by
  refine Ctr.compact (rowI_plain _) ?_
  obtain ⟨A, n, c, rfl, hu⟩ := node_box h
  have ck := hc0 0 _ rfl
  have ca := hc0 1 _ rfl
  have cb := hc0 2 _ rfl
  simp only [Nat.add_zero] at ck
  first | (refine ctr_fn Tryz.func189 rfl Tryz.ntmps189 Tryz.results189 rfl rfl (by simp) ?_) | (refine ctr_fnC Tryz.func189 rfl Tryz.ntmps189 Tryz.results189 rfl (by simp) ?_)
  simp [ck]
  generalize hkk : x.k = kk at *
  generalize hl : startV x = l
  have hl2 := hl
  unfold startV at hl2
  rw [hkk] at hl2
  generalize hxa : x.a = xa at *
  generalize hxb : x.b = xb at *
  by_cases k6 : kk = 6
  · obtain ⟨a1, a2⟩ := hx.del (by omega)
    obtain ⟨a, rfl⟩ := Int.eq_ofNat_of_zero_le (show 0 ≤ xa by omega)
    simp [k6] at hl2 ⊢
    simp [ca]
    refine awCall_det' (l03Zeros_x a (by omega)) (by first | omega | (simp <;> omega) | simp) ?_
    try simp
    have t := newRow_in (M := M) (A := M ++ [Slot.live (rowI (List.replicate a 0))]) (q := M.length) (l := List.replicate a 0) (n := a) (t := false) (c := a) (by simp) (Nat.le_refl _) (by simp [rowI])
    subst hl2
    refine ⟨?_, keeps_app _⟩
    simpa using t
  by_cases k17 : kk = 17
  · obtain ⟨a1, a2⟩ := hx.comb (by omega)
    obtain ⟨a, rfl⟩ := Int.eq_ofNat_of_zero_le (show 0 ≤ xb by omega)
    simp [k17] at hl2 ⊢
    simp [cb]
    refine awCall_det' (l03Zeros_x a (by omega)) (by first | omega | (simp <;> omega) | simp) ?_
    try simp
    have t := newRow_in (M := M) (A := M ++ [Slot.live (rowI (List.replicate a 0))]) (q := M.length) (l := List.replicate a 0) (n := a) (t := false) (c := a) (by simp) (Nat.le_refl _) (by simp [rowI])
    subst hl2
    refine ⟨?_, keeps_app _⟩
    simpa using t
  by_cases k7 : kk = 7 ∨ kk = 8 ∨ kk = 16
  · have hl3 : l = [0] := by
      rcases k7 with h | h | h <;> simp [h] at hl2 <;> exact hl2.symm
    subst hl3
    rcases k7 with h | h | h
    all_goals
      simp [h, fill1I]
      exact ⟨newRow_one, keeps_app _⟩
  by_cases k12 : kk = 12 ∨ kk = 14
  · have hl3 : l = [xa] := by
      rcases k12 with h | h <;> simp [h] at hl2 <;> exact hl2.symm
    subst hl3
    rcases k12 with h | h
    all_goals
      simp [h, ca, fill1I]
      exact ⟨newRow_one, keeps_app _⟩
  have hl3 : l = [] := by
    have n1 : ¬ (kk = 7 ∨ kk = 8 ∨ kk = 16) := k7
    simp [k6, k17, n1, k12] at hl2
    exact hl2
  subst hl3
  have n7 : ¬ kk = 7 := fun h => k7 (.inl h)
  have n8 : ¬ kk = 8 := fun h => k7 (.inr (.inl h))
  have n16 : ¬ kk = 16 := fun h => k7 (.inr (.inr h))
  have n12 : ¬ kk = 12 := fun h => k12 (.inl h)
  have n14 : ¬ kk = 14 := fun h => k12 (.inr h)
  simp [k6, k17, n7, n8, n16, n12, n14]
  exact ⟨⟨M.length, 0, true, rfl, Nat.le_refl _, by simp [rowI, cellsL], fun h => by cases h⟩, keeps_app _⟩
theorem l08In_x {M : Mem} {lo hi lo1 hi1 lo2 hi2 id0 off0 : Nat} {us : List Value} {x : Node} {vv fv : Value} {fr vals : List Int} {p : Patch} (h : nodeP.rd lo hi M x us) (hc0 : Cl M id0 off0 us) (hvv : SlV intP lo1 hi1 M vv vals) (hf : SlV intP lo2 hi2 M fv fr) (hx : NodeOk p x) (hfl : p.inp = fr.length) (hvl : vals.length = p.nodes.length) :
    Det Tryz.prog M.length 219 [.pointer (some ⟨id0, off0, none⟩), fv, vv] M (.slice (some ⟨M.length, 0, none⟩) (inV x fr vals).length (inV x fr vals).length) (M ++ [.live (rowI (inV x fr vals))]) := by
  refine Ctr.compact (rowI_plain _) ?_
  obtain ⟨A, n, c, rfl, hu⟩ := node_box h
  have ck := hc0 0 _ rfl
  have ca := hc0 1 _ rfl
  have cf := hc0 3 _ rfl
  simp only [Nat.add_zero] at ck
  first | (refine ctr_fn Tryz.func219 rfl Tryz.ntmps219 Tryz.results219 rfl rfl (by simp) ?_) | (refine ctr_fnC Tryz.func219 rfl Tryz.ntmps219 Tryz.results219 rfl (by simp) ?_)
  simp [ck]
  by_cases k1 : x.k = 1
  · obtain ⟨a1, a2⟩ := hx.inp k1
    have e : inV x fr vals = [el fr x.a.toNat] := by simp [inV, k1]
    rw [e]
    obtain ⟨Af, nf, cf', rfl, hnf, -, hSf, -⟩ := sl_take hf
    obtain ⟨id, off, rfl, he, hc⟩ := sl_cells hSf (by omega)
    obtain ⟨a, ha⟩ := Int.eq_ofNat_of_zero_le a1
    have c1 := hc a (by omega)
    generalize hxa : x.a = xa at *
    subst ha
    have haf : a < nf := by omega
    simp (disch := omega) [k1, ca, c1, he, haf, fill1I]
    exact ⟨newRow_one, keeps_app _⟩
  · have e : inV x fr vals = x.from_.map fun f => el vals f.toNat := by simp [inV, k1]
    rw [e]
    simp [k1, cf]
    refine awCall_det' (l07Map_x hu hvv (from_small hx) fun k hk => ?_) (by first | omega | (simp <;> omega) | simp) ?_
    · have := List.all_eq_true.1 hx.idx _ (el_mem hk)
      have := inB_iff.1 this
      obtain ⟨f, hf⟩ := Int.eq_ofNat_of_zero_le this.1
      exact ⟨f, hf, by omega⟩
    try simp
    exact ⟨newRow_in (t := false) (by simp) (by omega) (by simp [rowI]), keeps_app _⟩
end Go.Proofs.YtimijeeihicohaaGreat

namespace Go.Proofs.YtimijeeihicohaaGreat
open Go.RowKit
set_option linter.unusedVariables false
set_option linter.unusedSimpArgs false
set_option maxRecDepth 100000
attribute [local simp] List.getElem?_cons_zero
attribute [local irreducible] awCond awCall awLoop awDraw ow retQ retC resQ Keeps
set_option maxHeartbeats 1000000 in
theorem l06Next_x {M : Mem} {lo hi lo2 hi2 lo3 hi3 id0 off0 : Nat} {us : List Value} {x : Node} {vi vs : Value} {i s : List Int} {p : Patch} (o : Int) (h : nodeP.rd lo hi M x us) (hc0 : Cl M id0 off0 us) (hi : SlV intP lo2 hi2 M vi i) (hs : SlV intP lo3 hi3 M vs s) (hx : NodeOk p x)
    (hil : i.length = if x.k = 1 then 1 else x.from_.length) (hsl : s.length = (startV x).length) :
    Det Tryz.prog M.length 220 [.pointer (some ⟨id0, off0, none⟩), vi, vs, iv o] M (.slice (some ⟨M.length, 0, none⟩) (nextV x i s o).length (nextV x i s o).length) (M ++ [.live (rowI (nextV x i s o))]) := by
  refine Ctr.compact (rowI_plain _) ?_
  obtain ⟨A, n, c, rfl, hu⟩ := node_box h
  have ck := hc0 0 _ rfl
  have ca := hc0 1 _ rfl
  simp only [Nat.add_zero] at ck
  first | (refine ctr_fn Tryz.func220 rfl Tryz.ntmps220 Tryz.results220 rfl rfl (by simp) ?_) | (refine ctr_fnC Tryz.func220 rfl Tryz.ntmps220 Tryz.results220 rfl (by simp) ?_)
  simp [ck]
  generalize hn : nextV x i s o = nx
  have hn2 := hn
  have hsl2 := hsl
  unfold nextV at hn2
  unfold startV at hsl2
  generalize hkk : x.k = kk at *
  by_cases k6 : kk = 6
  · subst k6
    obtain ⟨idi, offi, di, rfl, ei, i0, -, -⟩ := slv_at hi (n := 1) (by rw [hil, if_neg (by omega)]; exact hx.one (by omega)) (by omega)
    have hs1 : 0 < s.length := by
      rw [hsl]; unfold startV; rw [hkk]
      simp
      have := hx.del (by omega); omega
    obtain ⟨ids, offs, ds, rfl, es, s0, -, -⟩ := slv_at hs (n := s.length) rfl hs1
    have hd := slv_drop hs (by omega)
    have htl : s.tail.length = s.length - 1 := by simp
    rw [List.drop_one] at hd
    have hsm : s.length ≤ 1048576 := by rw [hsl]; exact startV_small hx
    simp at hn2
    subst hn2
    generalize hT : s.tail = tl at *
    simp
    refine awDraw_D 7 [[],[0],[1,0],[],[3],[4,3],[5,4,3],[2,1,0,6,5,4,3],[7,2,1,0,6,5,4,3]] (by kernel_rfl) (by decide +kernel) ?_
    simp (disch := omega) [es, hs1]
    refine ⟨by omega, ?_⟩
    refine awCall_det' (d := true) (l00Own_x hd (by omega)) (by first | omega | (simp <;> omega) | simp) ?_
    have eih := rowEsz_keeps (keeps_app [Slot.hole]) ei
    have cih := cellAt_app i0 [Slot.hole]
    simp (disch := omega) [holes, ei, i0, eih, cih, fill1I]
    refine append_new (M := M) (M1 := M ++ [Slot.live (rowI tl)]) (l := tl) (a := el i 0) (by simp) (by simp) ?_ ?_ ⟨_, _, _, rfl⟩ (by omega) (by omega) ?_
    · have := (rowI_acc (M := M) (l := tl))
      simpa using this
    · exact Same.appS _ _
    · intro r M' h1 h2
      simp at h1
      try simp
      exact ⟨h1, h2⟩
  simp [k6]
  by_cases k17 : kk = 17
  · subst k17
    have hs1 : 0 < s.length := by
      rw [hsl]; unfold startV; rw [hkk]
      simp
      have := hx.comb (by omega); omega
    obtain ⟨ids, offs, ds, rfl, es, s0, -, -⟩ := slv_at hs (n := s.length) rfl hs1
    have hd := slv_drop hs (by omega)
    have htl : s.tail.length = s.length - 1 := by simp
    rw [List.drop_one] at hd
    have hsm : s.length ≤ 1048576 := by rw [hsl]; exact startV_small hx
    simp at hn2
    subst hn2
    generalize hT : s.tail = tl at *
    simp
    simp (disch := omega) [es, hs1]
    refine ⟨by omega, ?_⟩
    refine awCall_det' (l00Own_x hd (by omega)) (by first | omega | (simp <;> omega) | simp) ?_
    simp only [fill1I, ow_some]
    try simp [fill1I]
    refine append_new (M := M) (M1 := M ++ [Slot.live (rowI tl)]) (l := tl) (a := o) (by simp) (by simp [fill1I]) ?_ ?_ ⟨_, _, _, rfl⟩ (by omega) (by omega) ?_
    · have := (rowI_acc (M := M) (l := tl))
      simpa using this
    · exact Same.appS _ _
    · intro r M' h1 h2
      simp at h1
      try simp
      exact ⟨h1, h2⟩
  simp [k17]
  by_cases k7 : kk = 7
  · subst k7
    simp at hn2
    simp [fill1I]
    rw [← hn2]
    exact ⟨newRow_one, keeps_app _⟩
  simp [k7]
  by_cases k16 : kk = 16
  · subst k16
    simp at hn2
    simp [fill1I]
    rw [← hn2]
    exact ⟨newRow_one, keeps_app _⟩
  simp [k16]
  by_cases k8 : kk = 8
  · subst k8
    obtain ⟨idi, offi, di, rfl, ei, i0, -, -⟩ := slv_at hi (n := 1) (by rw [hil, if_neg (by omega)]; exact hx.one (by omega)) (by omega)
    simp at hn2
    simp [i0, ei, fill1I]
    rw [← hn2]
    exact ⟨newRow_one, keeps_app _⟩
  simp [k8]
  by_cases k12 : kk = 12
  · subst k12
    obtain ⟨idi, offi, di, rfl, ei, i0, -, -⟩ := slv_at hi (n := 1) (by rw [hil, if_neg (by omega)]; exact hx.one (by omega)) (by omega)
    have hs1 : 0 < s.length := by
      rw [hsl]; unfold startV; rw [hkk]
      simp
      skip
    obtain ⟨ids, offs, ds, rfl, es, s0, -, -⟩ := slv_at hs (n := s.length) rfl hs1
    simp at hn2
    simp
    refine awDraw_E 6 [[],[0],[1,0],[],[3],[4,3],[2,1,0,5,4,3],[6,2,1,0,5,4,3],[7,6,2,1,0,5,4,3]] (by kernel_rfl) (by kernel_rfl) ?_
    simp [i0, ei, s0, es, hs1]
    refine awCall_det' (l01Add_s _ _) (by first | omega | (simp <;> omega) | simp) ?_
    simp [fill1I]
    rw [smp_add2]
    rw [← hn2]
    exact ⟨newRow_one, keeps_app _⟩
  simp [k12]
  by_cases k14 : kk = 14
  · subst k14
    have hs1 : 0 < s.length := by
      rw [hsl]; unfold startV; rw [hkk]
      simp
      skip
    obtain ⟨ids, offs, ds, rfl, es, s0, -, -⟩ := slv_at hs (n := s.length) rfl hs1
    simp at hn2
    simp [s0, es, hs1]
    refine awCall_det' (l06Noise_s _) (by first | omega | (simp <;> omega) | simp) ?_
    simp [fill1I]
    rw [← hn2]
    exact ⟨newRow_one, keeps_app _⟩
  simp [k14]
  have e0 : nx = [] := by
    have n1 : ¬ (kk = 7 ∨ kk = 16) := by omega
    rw [← hn2, if_neg k6, if_neg k17, if_neg n1, if_neg k8, if_neg k12, if_neg k14]
  subst e0
  try simp
  exact ⟨⟨M.length, 0, true, rfl, Nat.le_refl _, by simp [rowI, cellsL], fun h => by cases h⟩, keeps_app _⟩
theorem build1 {u : Value} {q : Option Addr} {a b : Nat} : Instr.fill (fun x => [(0, 1)][x]?) #[u] [(0, .slice q a b)] = some #[.slice q a b] := by rfl
theorem LLv.set_o {B : Nat} {M : Mem} {v : Value} {cs : List (List Int)} {i : Nat} {s : Slot} {r : Row} (h : LLv B M v cs) (ha : Apart v i) (hr : M[i]? = some (.live r)) (he : r.elem ≠ 2) : LLv B (M.set i s) v cs := by
  obtain ⟨vs, ⟨A, n, c, rfl, g1, g2⟩, h2, h3⟩ := h
  refine ⟨vs, ⟨A, n, c, rfl, g1, ?_⟩, h2, fun k hk' => ?_⟩
  · rcases g2 with g2 | ⟨id, t, rfl, g3, g4⟩
    · exact .inl g2
    · exact .inr ⟨id, t, rfl, g3, by rw [List.getElem?_set_ne (ha _ _ _ _ rfl rfl)]; exact g4⟩
  · obtain ⟨id, a, b, c, d⟩ := h3 k hk'
    refine ⟨id, a, b, ?_, d⟩
    rw [List.getElem?_set_ne (fun e => ?_)]
    · exact c
    · rw [← e, hr] at c
      injection c with c
      injection c with c
      rw [c] at he
      exact he rfl
theorem l08Start_s {M : Mem} {lo hi id0 off0 : Nat} {us : List Value} {p : Patch} (h : patchP.rd lo hi M p us) (hc0 : Cl M id0 off0 us) (hx : ∀ y, y ∈ p.nodes → NodeOk p y) (hn24 : p.nodes.length ≤ 24) :
    Ctr Tryz.prog M.length 146 [.pointer (some ⟨id0, off0, none⟩)] M fun r M' => ∃ v, r = .agg #[v] ∧ LLv M.length M' v (p.nodes.map startV) ∧ Keeps M M' := by
  obtain ⟨A1, n1, c1, A2, n2, c2, A3, n3, c3, rfl⟩ := patch_isV h
  have cn := hc0 2 _ rfl
  obtain ⟨u1, u2, u3, e, hu1, hu2, hu3⟩ := h
  simp only [List.cons.injEq, and_true, true_and] at e
  obtain ⟨rfl, rfl, rfl⟩ := e
  obtain ⟨B2, m2, d2, e2, q1, q2, q3⟩ := hu2
  injection e2 with e2a e2b e2c
  subst e2a; subst e2b; subst e2c
  have hnl := q3.1
  first | (refine ctr_fn Tryz.func146 rfl Tryz.ntmps146 Tryz.results146 rfl rfl (by simp) ?_) | (refine ctr_fnC Tryz.func146 rfl Tryz.ntmps146 Tryz.results146 rfl (by simp) ?_)
  simp [build1]
  refine awLoop_T (fun q T M1 => ∃ (k : Nat) (v : Value), k + q = n2 ∧ Keeps M M1 ∧ M.length + 3 ≤ M1.length ∧ M1[M.length]? = some (.live ⟨[.slice none 0 0], true, true, 209, 1⟩) ∧ M1[M.length + 2]? = some (.live ⟨[v], true, true, 209, 1⟩) ∧ LLv (M.length + 1) M1 v ((p.nodes.take k).map startV) ∧ Apart v (M.length + 2) ∧ look T 4 = some (iv k) ∧ look T 3 = some (.pointer (some ⟨M.length + 2, 0, none⟩)) ∧ look T 2 = some (.pointer (some ⟨M.length, 0, none⟩)) ∧ look T 0 = some (.pointer (some ⟨id0, off0, none⟩))) n2
    ⟨0, .slice (some ⟨M.length + 1, 0, none⟩) 0 0, by omega, keeps_app _, by simp, by simp, by simp, ⟨[], ⟨_, 0, 0, rfl, rfl, .inr ⟨M.length + 1, true, rfl, Nat.le_refl _, by simp [cellsL_nil]⟩⟩, rfl, fun k hk => by simp at hk⟩, fun A n c a e ea => by injection e with e; subst e; injection ea with ea; subst ea; show M.length + 2 ≠ M.length + 1; omega, by simp, by simp, by simp, by simp⟩ ?_
  rintro q T M1 ⟨k, v, hq, k1, l1, r1, r2, hL, hap, t4, t3, t2, t0⟩
  have cn1 := cellAt_keeps k1 cn
  by_cases hlt : k < n2
  · obtain ⟨id, off, us, rfl, he, hrd, hc⟩ := q3.at_ hlt
    have eN := rowEsz_keeps k1 he
    have hrd1 := nodeP.keeps hrd k1
    have hc1 := Cl.keeps hc k1
    have cv : cellAt M1 (M.length + 2) 0 = some v := by simp [cellAt, r2]
    simp (disch := omega) [t4, t3, t2, t0, hlt, cn1, eN, wrap_in]
    refine awDraw_D 10 [[],[0],[],[2],[3,2],[4,3,2],[],[5,4,3,2,6],[7,5,4,3,2,6],[8,7,5,4,3,2,6],[1,0,9,8,7,5,4,3,2,6],[0,1,2,3,4,5,6,7,8,9,10],[11,0,1,2,3,4,5,6,7,8,9,10]] (by kernel_rfl) (by decide +kernel) ?_
    simp (disch := omega) [t4, t3, t2, t0, cn1, eN, cv, hlt]
    refine awCall_det' (d := true) (l06Start_x (p := p) hrd1 hc1 (hx _ (el_mem (by omega)))) (by omega) ?_
    simp (disch := omega) [fill1S]
    refine LLv.push (c := startV (el p.nodes k)) hL (by omega) (by omega) (by simp) rfl (by simp; omega) fun v' M2 hL2 hs2 hd2 => ?_
    have k2 : Keeps M M2 := hs2.keeps k1 (by omega)
    have r12 := hs2.2 _ _ (by omega) r1
    obtain ⟨r22, hap2⟩ := hd2 _ _ hap r2
    have l2 := hs2.1
    obtain ⟨A', n', c', rfl⟩ := hL2.one
    simp (disch := omega) [t4, t3, t2, t0]
    rw [put_whole (vs := [.slice A' n' c']) r22 (by omega) rfl (by simp), ow_some]
    have lt2 := (List.getElem?_eq_some_iff.1 r22).1
    try simp (disch := omega) [t4, t3, t2, t0, wrap_in]
    refine lpI (q - 1) (by omega) ⟨k + 1, _, by omega, keeps_set k2 (by omega), by simp; omega, by rw [List.getElem?_set_ne (by omega)]; exact r12, List.getElem?_set_self lt2, ?_, hap2, by simp, by simp [t3], by simp [t2], by simp [t0]⟩
    rw [take_el (by omega), List.map_append]
    exact hL2.set_o hap2 r22 (by simp)
  · obtain rfl : k = n2 := by omega
    have cv : cellsAt M1 (M.length + 2) 0 1 = some [v] := by simp [cellsAt, r2]
    rw [List.take_of_length_le (by omega)] at hL
    obtain ⟨A', n', c', rfl⟩ := hL.one
    simp (disch := omega) [t4, t3, t2, t0, cn1, cv]
    rw [put_whole (vs := [.slice A' n' c']) r1 (by omega) rfl (by simp), ow_some]
    have lt2 := (List.getElem?_eq_some_iff.1 r1).1
    have c2 : cellsAt (M1.set M.length (.live ⟨[.slice A' n' c'], true, true, 209, 1⟩)) M.length 0 1 = some [.slice A' n' c'] := by simp [cellsAt, List.getElem?_set_self lt2]
    simp [c2, t2]
    exact ⟨(hL.set_lt (by omega)).low (by omega), keeps_set k1 (by omega)⟩
end Go.Proofs.YtimijeeihicohaaGreat

namespace Go.Proofs.YtimijeeihicohaaGreat
open Go.RowKit
set_option linter.unusedVariables false
set_option linter.unusedSimpArgs false
set_option maxRecDepth 100000
attribute [local simp] List.getElem?_cons_zero
attribute [local irreducible] awCond awCall awLoop awDraw ow retQ retC resQ Keeps
theorem formB_parts {p : Patch} (hf : formB p = true) : (∀ y, y ∈ p.nodes → NodeOk p y) ∧ tablesB p.tabs = true ∧ p.nodes.length ≤ 24 ∧ (∀ y, y ∈ p.nodes → idxB p.nodes.length y.from_ = true) ∧ 0 ≤ p.inp ∧ p.inp ≤ 4 ∧ idxB p.nodes.length p.outs = true := by
  obtain ⟨hn24, hidx, hnF⟩ := formB_nodes hf
  unfold formB at hf
  simp only [Bool.and_eq_true, decide_eq_true_eq] at hf
  have hi := inB_iff.1 hf.1.1.1.1.1
  exact ⟨fun y hy => nodeF_ok (hnF y hy), hf.1.1.1.1.2, hn24, hidx, hi.1, hi.2, hf.1.2⟩
theorem okCs_small {p : Patch} {cs : List (List Int)} (h : okCs p cs) (hx : ∀ y, y ∈ p.nodes → NodeOk p y) : ∀ c, c ∈ cs → c.length ≤ 1048576 := fun c hc => by
  obtain ⟨k, hk, rfl⟩ := List.getElem_of_mem hc
  rw [el_eq hk, h.2 k (by rw [← h.1]; exact hk)]
  exact startV_small (hx _ (el_mem (by rw [← h.1]; exact hk)))
set_option maxHeartbeats 2000000 in
theorem l08Values_x {M : Mem} {lo hi lo1 hi1 lo2 hi2 lo3 hi3 id0 off0 sid : Nat} {us : List Value} {p : Patch} {ov sv fv : Value} {fr : List Int} {cs : List (List Int)} (h : patchP.rd lo hi M p us) (hc0 : Cl M id0 off0 us) (hf : formB p = true) (ho : (ordL p.nodes).length = p.nodes.length)
    (hov : SlV intP lo1 hi1 M ov (ordL p.nodes)) (hsv : cellAt M sid 0 = some sv) (hcs : SlV tabP lo2 hi2 M sv cs) (hok : okCs p cs) (hfv : SlV intP lo3 hi3 M fv fr) (hin : p.inp = fr.length) :
    Det Tryz.prog M.length 190 [.pointer (some ⟨id0, off0, none⟩), ov, .pointer (some ⟨sid, 0, none⟩), fv] M (.slice (some ⟨M.length, 0, none⟩) p.nodes.length p.nodes.length) (M ++ [.live (rowI (valsV p cs fr))]) := by
  obtain ⟨hx, htb, hn24, hidx, -, -, -⟩ := formB_parts hf
  have hO := ordL_ok hidx
  refine Ctr.compact (rowI_plain _) ?_
  obtain ⟨A1, n1, c1, A2, n2, c2, A3, n3, c3, rfl⟩ := patch_isV h
  have ct := hc0 1 _ rfl
  have cn := hc0 2 _ rfl
  obtain ⟨u1, u2, u3, e, hu1, hu2, hu3⟩ := id h
  simp only [List.cons.injEq, and_true, true_and] at e
  obtain ⟨rfl, rfl, rfl⟩ := e
  obtain ⟨B2, m2, d2, e2, q1, q2, q3⟩ := id hu2
  injection e2 with e2a e2b e2c
  subst e2a; subst e2b; subst e2c
  have hnl := q3.1
  obtain ⟨Ao, no, co, rfl, hno, -, hSo, -⟩ := sl_take hov
  obtain ⟨As, ns, cs', rfl, g1, g2, g3⟩ := id hcs
  have hnsl := g3.1
  have hcl := hok.1
  first | (refine ctr_fn Tryz.func190 rfl Tryz.ntmps190 Tryz.results190 rfl rfl (by simp) ?_) | (refine ctr_fnC Tryz.func190 rfl Tryz.ntmps190 Tryz.results190 rfl (by simp) ?_)
  simp [cn]
  refine ⟨by omega, ?_⟩
  refine awLoop_T (fun m T M1 => ∃ q : Nat, q + m = n2 ∧ Keeps M M1 ∧ M1[M.length]? = some (.live ⟨cellsL intR (curV p (ordL p.nodes) cs fr (List.replicate n2 0) q), true, true, 2, 1⟩) ∧ look T 10 = some (iv q) ∧ look T 9 = some (.slice (some ⟨M.length, 0, none⟩) n2 n2) ∧ look T 0 = some (.pointer (some ⟨id0, off0, none⟩)) ∧ look T 1 = some (.slice Ao no co) ∧ look T 2 = some (.pointer (some ⟨sid, 0, none⟩)) ∧ look T 3 = some fv) n2
    ⟨0, by omega, keeps_app _, by simp [curV, cellsL_rep], by simp, by simp, by simp, by simp, by simp, by simp⟩ ?_
  rintro m T M1 ⟨q, hm, k1, rv, t10, t9, t0, t1, t2, t3⟩
  have hl1 := k1.len
  by_cases hlt : q < n2
  · obtain ⟨i, hi, hil⟩ := hO.idx q (by omega)
    obtain ⟨ido, offo, rfl, heo, hco⟩ := sl_cells hSo (by omega)
    have c_o := cellAt_keeps k1 (hco q (by omega))
    rw [hi] at c_o
    have e_o := rowEsz_keeps k1 heo
    have cn1 := cellAt_keeps k1 cn
    have ct1 := cellAt_keeps k1 ct
    have sv1 := cellAt_keeps k1 hsv
    obtain ⟨id2, off2, us2, rfl, he2, hrd, hc2⟩ := q3.at_ (i := i) (by omega)
    have eN := rowEsz_keeps k1 he2
    have hrd1 := nodeP.keeps hrd k1
    have hc21 := Cl.keeps hc2 k1
    have hxi := hx _ (el_mem (l := p.nodes) (i := i) hil)
    obtain ⟨idc, offc, usc, rfl, hec, ⟨ui, rfl, hui⟩, hcc⟩ := g3.at_ (i := i) (by omega)
    have cc1 := cellAt_keeps k1 (cl_cons.1 hcc).1
    simp only [Nat.mul_one] at cc1
    have ec1 := rowEsz_keeps k1 hec
    have hqo : q < no := by omega
    have hin2 : i < n2 := by omega
    have hins : i < ns := by omega
    have hval : SlV intP M.length (M.length + 1) M1 (.slice (some ⟨M.length, 0, none⟩) n2 n2) (curV p (ordL p.nodes) cs fr (List.replicate n2 0) q) := by
      refine ⟨_, _, _, rfl, by omega, (fun h => by cases h), SlP.of_sl ⟨by rw [curV_len]; simp, fun _ => ⟨M.length, 0, rfl, by simp [rowEsz, rv], fun j y hy => by simpa [cellAt, rv] using hy⟩⟩ fun a e _ => ?_⟩
      injection e with e
      subst e
      exact ⟨Nat.le_refl _, Nat.lt_succ_self _⟩
    simp (disch := omega) [t10, t9, t0, t1, t2, t3, hqo, c_o, e_o, cn1, eN, hin2, wrap_in]
    refine awDraw_M 18 [[],[],[],[],[3],[4,3],[5,4,3],[],[],[],[7,8,9],[],[11],[12,11],[13,12,11],[],[14,13,12,11,15],[16,14,13,12,11,15],[2,6,5,4,3,10,7,8,9,17,16,14,13,12,11,15],[0,1,2,3,4,5,6,7,8,9,10,11,12,13,14,15,16,17,18],[19,0,1,2,3,4,5,6,7,8,9,10,11,12,13,14,15,16,17,18]] [0,1] (by kernel_rfl) (by decide +kernel) (by decide +kernel) ?_
    simp (disch := omega) [t10, t9, t0, t1, t2, t3, ct1]
    have hvl : (List.replicate n2 (0 : Int)).length = p.nodes.length := by simp [hnl]
    have hdI := l08In_x (p := p) hrd1 hc21 hval (hfv.keeps k1) hxi hin (by rw [curV_len]; exact hvl)
    have hlI := inV_len (x := el p.nodes i) (fr := fr) (vals := curV p (ordL p.nodes) cs fr (List.replicate n2 0) q)
    have hcur : curV p (ordL p.nodes) cs fr (List.replicate n2 0) (q + 1) = (curV p (ordL p.nodes) cs fr (List.replicate n2 0) q).set i (outV (el p.nodes i) p.tabs (inV (el p.nodes i) fr (curV p (ordL p.nodes) cs fr (List.replicate n2 0) q)) (el cs i)) := by
      rw [curV, hi]
      simp
    have hsm : (inV (el p.nodes i) fr (curV p (ordL p.nodes) cs fr (List.replicate n2 0) q)).length ≤ 1048576 := by
      rw [hlI]
      split
      · omega
      · exact from_small hxi
    generalize inV (el p.nodes i) fr (curV p (ordL p.nodes) cs fr (List.replicate n2 0) q) = iN at *
    refine awCall_det' (d := true) hdI (by omega) ?_
    have svh := cellAt_app sv1 [Slot.hole]
    have cch := cellAt_app cc1 [Slot.hole]
    have ech := rowEsz_keeps (keeps_app [Slot.hole]) ec1
    simp (disch := omega) [holes, svh, cch, ech, hins]
    have hOut := l06Out_s (M := M1 ++ [Slot.live (rowI iN)]) (tv := .slice A1 n1 c1) (vi := .slice (some ⟨M1.length, 0, none⟩) iN.length iN.length) (vs := ui) (i := iN) (s := el cs i) (nodeP.app hrd1 _) (Cl.app hc21 _) ((hu1.keeps k1).app _) (rowI_slv hsm) ((hui.keeps k1).app _) hxi htb hlI (hok.2 i hil)
    refine awCall_det' hOut (by simp <;> omega) ?_
    generalize outV (el p.nodes i) p.tabs iN (el cs i) = oN at *
    have rv2 : (M1 ++ [Slot.live (rowI iN)])[M.length]? = some (.live ⟨cellsL intR (curV p (ordL p.nodes) cs fr (List.replicate n2 0) q), true, true, 2, 1⟩) := (keeps_app _).get rv
    have hp := put_rec (R := intR) (b := M.length) (a := oN) (off := i) (i := i) rv2 (by omega) (by rw [curV_len]; simp; omega) (by omega) rfl
    have hp' : putCells M.length (M1 ++ [Slot.live (rowI iN)]) M.length i [Value.int IntKind.i64 oN] = _ := hp
    have ev2 : rowEsz (M1 ++ [Slot.live (rowI iN)]) M.length = some 1 := by simp [rowEsz, rv2]
    have lt2 := (List.getElem?_eq_some_iff.1 rv2).1
    simp (disch := omega) [ev2, hin2, hp']
    try simp (disch := omega) [t10, t9, t0, t1, t2, t3, wrap_in]
    refine lpI (m - 1) (by omega) ⟨q + 1, by omega, keeps_set (k1.app _) (Nat.le_refl _), ?_, by simp, by simp [t9], by simp [t0], by simp [t1], by simp [t2], by simp [t3]⟩
    rw [List.getElem?_set_self lt2, hcur]
  · obtain rfl : q = n2 := by omega
    have hnn : ¬ q < no := by omega
    simp (disch := omega) [t10, t9, t0, t1, t2, t3, hnn]
    refine ⟨?_, k1⟩
    have e : valsV p cs fr = curV p (ordL p.nodes) cs fr (List.replicate q 0) q := by unfold valsV; rw [hnl]
    rw [e]
    rw [hnl]
    exact newRow_in (by rw [curV_len]; simp) (Nat.le_refl _) rv
set_option maxHeartbeats 2000000 in
theorem l08Step_s {M : Mem} {b lo hi lo2 hi2 lo3 hi3 lo4 hi4 id0 off0 sid : Nat} {us : List Value} {p : Patch} {sv fv vv : Value} {fr V : List Int} {cs : List (List Int)} (h : patchP.rd lo hi M p us) (hc0 : Cl M id0 off0 us) (hf : formB p = true)
    (hsv : M[sid]? = some (.live ⟨[sv], true, true, 209, 1⟩)) (hcs : SlV tabP lo2 hi2 M sv cs) (hok : okCs p cs) (hfv : SlV intP lo3 hi3 M fv fr) (hin : p.inp = fr.length) (hvv : SlV intP lo4 hi4 M vv V) (hvl : V.length = p.nodes.length) (hb : b ≤ sid) :
    Ctr Tryz.prog b 191 [.pointer (some ⟨id0, off0, none⟩), .pointer (some ⟨sid, 0, none⟩), fv, vv] M fun _ M' => ∃ v', M'[sid]? = some (.live ⟨[v'], true, true, 209, 1⟩) ∧ SlV tabP M.length M'.length M' v' (nextC p cs fr V) ∧ M.length ≤ M'.length ∧ ∀ (i : Nat) s, i ≠ sid → M[i]? = some s → M'[i]? = some s := by
  obtain ⟨hx, htb, hn24, hidx, -, -, -⟩ := formB_parts hf
  have hsl : sid < M.length := (List.getElem?_eq_some_iff.1 hsv).1
  obtain ⟨A1, n1, c1, A2, n2, c2, A3, n3, c3, rfl⟩ := patch_isV h
  have cn := hc0 2 _ rfl
  obtain ⟨u1, u2, u3, e, hu1, hu2, hu3⟩ := id h
  simp only [List.cons.injEq, and_true, true_and] at e
  obtain ⟨rfl, rfl, rfl⟩ := e
  obtain ⟨B2, m2, d2, e2, q1, q2, q3⟩ := id hu2
  injection e2 with e2a e2b e2c
  subst e2a; subst e2b; subst e2c
  have hnl := q3.1
  obtain ⟨As, ns, cs', rfl, g1, g2, g3⟩ := id hcs
  have hnsl := g3.1
  have hcl := hok.1
  obtain ⟨Av, nv, cv, rfl, hnv, -, hSv, -⟩ := sl_take hvv
  have nx := fun (k : Nat) hk => nextC_el (p := p) (cs := cs) (fr := fr) (V := V) (k := k) hk
  have csv : cellAt M sid 0 = some (.slice As ns cs') := by simp [cellAt, hsv]
  first | (refine ctr_fn Tryz.func191 rfl Tryz.ntmps191 Tryz.results191 rfl rfl (by simp) ?_) | (refine ctr_fnC Tryz.func191 rfl Tryz.ntmps191 Tryz.results191 rfl (by simp) ?_)
  simp
  refine awLoop_T (fun m T M1 => ∃ (k : Nat) (v : Value), k + m = n2 ∧ Keeps M M1 ∧ LLv M.length M1 v ((nextC p cs fr V).take k) ∧ look T 9 = some (iv k) ∧ look T 8 = some v ∧ look T 0 = some (.pointer (some ⟨id0, off0, none⟩)) ∧ look T 1 = some (.pointer (some ⟨sid, 0, none⟩)) ∧ look T 2 = some fv ∧ look T 3 = some (.slice Av nv cv)) n2
    ⟨0, .slice (some ⟨M.length, 0, none⟩) 0 0, by omega, keeps_app _, ⟨[], ⟨_, 0, 0, rfl, rfl, .inr ⟨M.length, true, rfl, Nat.le_refl _, by simp [cellsL_nil]⟩⟩, rfl, fun k hk => by simp at hk⟩, by simp, by simp, by simp, by simp, by simp, by simp⟩ ?_
  rintro m T M1 ⟨k, v, hm, k1, hL, t9, t8, t0, t1, t2, t3⟩
  have hl1 := k1.len
  have cn1 := cellAt_keeps k1 cn
  by_cases hlt : k < n2
  · obtain ⟨id2, off2, us2, rfl, he2, hrd, hc2⟩ := q3.at_ hlt
    have eN := rowEsz_keeps k1 he2
    have hrd1 := nodeP.keeps hrd k1
    have hc21 := Cl.keeps hc2 k1
    have hxi := hx _ (el_mem (l := p.nodes) (i := k) (by omega))
    obtain ⟨idc, offc, usc, rfl, hec, ⟨ui, rfl, hui⟩, hcc⟩ := g3.at_ (i := k) (by omega)
    have cc1 := cellAt_keeps k1 (cl_cons.1 hcc).1
    simp only [Nat.mul_one] at cc1
    have ec1 := rowEsz_keeps k1 hec
    have sv1 := cellAt_keeps k1 csv
    obtain ⟨idv, offv, rfl, hev, hcv⟩ := sl_cells hSv (by omega)
    have cv1 := cellAt_keeps k1 (hcv k (by omega))
    have ev1 := rowEsz_keeps k1 hev
    have hins : k < ns := by omega
    have hknv : k < nv := by omega
    simp (disch := omega) [t9, t8, t0, t1, t2, t3, cn1, eN, hlt, wrap_in]
    refine awDraw_D 19 [[],[],[],[],[],[2,3,4],[],[6],[7,6],[8,7,6],[],[9,8,7,6,10],[11,9,8,7,6,10],[],[],[13,14],[15,13,14],[1,5,2,3,4,12,11,9,8,7,6,10,16,15,13,14],[17,1,5,2,3,4,12,11,9,8,7,6,10,16,15,13,14],[0,18,17,1,5,2,3,4,12,11,9,8,7,6,10,16,15,13,14],[19,0,18,17,1,5,2,3,4,12,11,9,8,7,6,10,16,15,13,14]] (by kernel_rfl) (by decide +kernel) ?_
    simp (disch := omega) [t9, t8, t0, t1, t2, t3]
    have hdI := l08In_x (p := p) hrd1 hc21 (hvv.keeps k1) (hfv.keeps k1) hxi hin hvl
    have hlI := inV_len (x := el p.nodes k) (fr := fr) (vals := V)
    have hnx := nx k (by omega)
    have hsm : (inV (el p.nodes k) fr V).length ≤ 1048576 := by
      rw [hlI]
      split
      · omega
      · exact from_small hxi
    generalize inV (el p.nodes k) fr V = iN at *
    refine awCall_det' (d := true) hdI (by omega) ?_
    have svh := cellAt_app sv1 [Slot.hole]
    have cch := cellAt_app cc1 [Slot.hole]
    have ech := rowEsz_keeps (keeps_app [Slot.hole]) ec1
    have cvh := cellAt_app cv1 [Slot.hole]
    have evh := rowEsz_keeps (keeps_app [Slot.hole]) ev1
    simp (disch := omega) [holes, svh, cch, ech, hins, cvh, evh, hknv]
    have hNx := l06Next_x (M := M1 ++ [Slot.live (rowI iN)]) (vi := .slice (some ⟨M1.length, 0, none⟩) iN.length iN.length) (vs := ui) (i := iN) (s := el cs k) (p := p) (el V k) (nodeP.app hrd1 _) (Cl.app hc21 _) (rowI_slv hsm) ((hui.keeps k1).app _) hxi hlI (hok.2 k (by omega))
    rw [← hnx] at hNx
    generalize hcN : el (nextC p cs fr V) k = cN at *
    refine awCall_det' (d := true) hNx (by simp <;> omega) ?_
    refine ⟨[Slot.live (rowI cN)], by simp, ?_⟩
    simp (disch := omega) [holes, fill1S, t8]
    refine LLv.push (M1 := M1 ++ [Slot.live (rowI iN)]) (c := cN) (hL.keeps (keeps_app _)) (by omega) (by simp; omega) (by simp) (by simp) (by simp [nextC_len]; omega) fun v' M2 hL2 hs2 _ => ?_
    have k2 : Keeps M M2 := hs2.keeps (k1.app _) (Nat.le_refl _)
    try simp (disch := omega) [t9, t8, t0, t1, t2, t3, wrap_in]
    refine lpI (m - 1) (by omega) ⟨k + 1, v', by omega, k2, ?_, by simp, by simp, by simp [t0], by simp [t1], by simp [t2], by simp [t3]⟩
    rw [take_el (by rw [nextC_len]; omega), hcN]
    exact hL2
  · obtain rfl : k = n2 := by omega
    rw [List.take_of_length_le (by rw [nextC_len]; omega)] at hL
    obtain ⟨A', n', c', rfl⟩ := hL.one
    have rs1 := k1.get hsv
    have lt1 := (List.getElem?_eq_some_iff.1 rs1).1
    simp (disch := omega) [t9, t8, t0, t1, t2, t3, cn1]
    rw [put_whole (vs := [.slice A' n' c']) rs1 hb rfl (by simp), ow_some]
    try simp
    have hS := hL.slv (okCs_small (nextC_ok hx hok) hx) (by rw [nextC_len]; omega)
    refine ⟨_, List.getElem?_set_self lt1, hS.agree fun i s h1 h2 hs => by rw [List.getElem?_set_ne (by omega)]; exact hs, hl1, fun i s hi hs => by rw [List.getElem?_set_ne (Ne.symm hi)]; exact k1.get hs⟩
end Go.Proofs.YtimijeeihicohaaGreat
