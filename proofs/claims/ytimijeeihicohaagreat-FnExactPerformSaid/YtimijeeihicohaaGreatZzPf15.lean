/- Parts of the proof, together: A frame, as the program plays it. Frames one behind the other, as the program plays them. Floors of quotients, in both packages. Levels of envelopes, in both packages. Gate: records in memory, and the laws' helpers on them. Gates: contracts of the functions on one gate. Gates: are two lists equal. Gates: playable, polyphony. The program's controls of a voice. No conditions. -/
import Derived.Test.YtimijeeihicohaaGreatZzPf14
import Derived.Test.YtimijeeihicohaaGreatZzPf8
import Derived.Test.YtimijeeihicohaaGreatZzPf12
import Derived.Test.YtimijeeihicohaaGreatZzPf9
import Derived.Laws.StructEq
namespace Go.Proofs.YtimijeeihicohaaGreat
open Go.RowKit
set_option linter.unusedVariables false
set_option linter.unusedSimpArgs false
set_option maxRecDepth 100000
attribute [local simp] List.getElem?_cons_zero
attribute [local irreducible] awCond awCall awLoop awDraw ow retQ retC resQ Keeps
section
variable {p : Patch} {cs : List (List Int)} {fr V : List Int}
theorem nextC_len : (nextC p cs fr V).length = p.nodes.length := by simp [nextC]
theorem nextC_el {k : Nat} (hk : k < p.nodes.length) : el (nextC p cs fr V) k = nextV (el p.nodes k) (inV (el p.nodes k) fr V) (el cs k) (el V k) := by simp [nextC, el, hk]
/-- The state when q nodes of the order are done: delays wait. -/
structure Stage1 (p : Patch) (cs : List (List Int)) (fr V : List Int) (q : Nat) (cq : List (List Int)) : Prop where
  done : ∀ r, r < q → (el p.nodes (el (ordL p.nodes) r).toNat).k ≠ 6 → el cq (el (ordL p.nodes) r).toNat = el (nextC p cs fr V) (el (ordL p.nodes) r).toNat
  wait : ∀ r, q ≤ r → r < (ordL p.nodes).length → el cq (el (ordL p.nodes) r).toNat = el cs (el (ordL p.nodes) r).toNat
  del : ∀ i, i < p.nodes.length → (el p.nodes i).k = 6 → el cq i = el cs i
theorem Stage1.zero : Stage1 p cs fr V 0 cs := ⟨fun r h => by omega, fun _ _ _ => rfl, fun _ _ _ => rfl⟩
theorem Stage1.skip {q : Nat} {cq : List (List Int)} (h : Stage1 p cs fr V q cq) (h6 : (el p.nodes (el (ordL p.nodes) q).toNat).k = 6) : Stage1 p cs fr V (q + 1) cq :=
  ⟨fun r hr hk => by
    by_cases e : r = q
    · subst e; exact absurd h6 hk
    · exact h.done r (by omega) hk, fun r h1 h2 => h.wait r (by omega) h2, h.del⟩
theorem Stage1.set {q : Nat} {cq : List (List Int)} (h : Stage1 p cs fr V q cq) (ho : OrdOk p.nodes (ordL p.nodes)) (hq : q < (ordL p.nodes).length) (hl : cq.length = p.nodes.length) (h6 : (el p.nodes (el (ordL p.nodes) q).toNat).k ≠ 6) :
    Stage1 p cs fr V (q + 1) (cq.set (el (ordL p.nodes) q).toNat (el (nextC p cs fr V) (el (ordL p.nodes) q).toNat)) := by
  obtain ⟨i, hi, hil⟩ := ho.idx q hq
  have ne : ∀ r, r < (ordL p.nodes).length → r ≠ q → (el (ordL p.nodes) q).toNat ≠ (el (ordL p.nodes) r).toNat := fun r hr hn e => by
    obtain ⟨j, hj, -⟩ := ho.idx r hr
    have := ho.nodup q r hq hr (by rw [hi, hj] at e ⊢; simp at e; omega)
    omega
  refine ⟨fun r hr hk => ?_, fun r h1 h2 => ?_, fun j hj hk => ?_⟩
  · by_cases e : r = q
    · subst e
      rw [el_set_same _ (by rw [hi, hl]; simpa using hil)]
    · rw [el_set_other _ (ne r (by omega) e)]
      exact h.done r (by omega) hk
  · rw [el_set_other _ (ne r h2 (by omega))]
    exact h.wait r (by omega) h2
  · rw [el_set_other _ (fun e => h6 (by rw [e]; exact hk))]
    exact h.del j hj hk
/-- Then the delays, one by one. -/
structure Stage2 (p : Patch) (cs : List (List Int)) (fr V : List Int) (k : Nat) (cq : List (List Int)) : Prop where
  done : ∀ i, i < p.nodes.length → (el p.nodes i).k ≠ 6 ∨ i < k → el cq i = el (nextC p cs fr V) i
  wait : ∀ i, k ≤ i → i < p.nodes.length → (el p.nodes i).k = 6 → el cq i = el cs i
theorem Stage1.two {cq : List (List Int)} (h : Stage1 p cs fr V p.nodes.length cq) (hl : (ordL p.nodes).length = p.nodes.length) : Stage2 p cs fr V 0 cq :=
  ⟨fun i hi hd => by
    rcases hd with hd | hd
    · obtain ⟨q, hq, e⟩ := ordL_all hl i hi
      have := h.done q hq
      rw [e] at this
      simpa using this (by simpa using hd)
    · omega, fun i _ hi h6 => h.del i hi h6⟩
theorem Stage2.skip {k : Nat} {cq : List (List Int)} (h : Stage2 p cs fr V k cq) (h6 : (el p.nodes k).k ≠ 6) : Stage2 p cs fr V (k + 1) cq :=
  ⟨fun i hi hd => h.done i hi (by
    rcases hd with hd | hd
    · exact .inl hd
    · by_cases e : i = k
      · subst e; exact .inl h6
      · exact .inr (by omega)), fun i h1 h2 h3 => h.wait i (by omega) h2 h3⟩
theorem Stage2.set {k : Nat} {cq : List (List Int)} (h : Stage2 p cs fr V k cq) (hk : k < p.nodes.length) (hl : cq.length = p.nodes.length) : Stage2 p cs fr V (k + 1) (cq.set k (el (nextC p cs fr V) k)) :=
  ⟨fun i hi hd => by
    by_cases e : k = i
    · subst e
      rw [el_set_same _ (by omega)]
    · rw [el_set_other _ e]
      exact h.done i hi (by
        rcases hd with hd | hd
        · exact .inl hd
        · exact .inr (by omega)), fun i h1 h2 h3 => by
    rw [el_set_other _ (by omega)]
    exact h.wait i (by omega) h2 h3⟩
theorem Stage2.end_ {cq : List (List Int)} (h : Stage2 p cs fr V p.nodes.length cq) (hl : cq.length = p.nodes.length) : cq = nextC p cs fr V := by
  apply List.ext_getElem
  · rw [hl, nextC_len]
  · intro i a b
    rw [el_eq, el_eq]
    exact h.done i (by omega) (.inr (by omega))
end
theorem startV_small {p : Patch} {x : Node} (h : NodeOk p x) : (startV x).length ≤ 1048576 := by
  unfold startV
  split
  · have := h.del (by assumption); simp; omega
  · split
    · have := h.comb (by assumption); simp; omega
    · split
      · simp
      · split <;> simp
theorem from_small {p : Patch} {x : Node} (hx : NodeOk p x) : x.from_.length ≤ 1048576 := by
  have := hx.kind
  have h1 := hx.one
  have h2 := hx.two
  have h3 := hx.three
  by_cases g3 : x.k = 15
  · have := h3 g3; omega
  by_cases g2 : x.k = 3 ∨ x.k = 4 ∨ x.k = 9 ∨ x.k = 16
  · have := h2 g2; omega
  by_cases g1 : x.k = 5 ∨ x.k = 6 ∨ x.k = 7 ∨ x.k = 8 ∨ x.k = 10 ∨ x.k = 11 ∨ x.k = 12 ∨ x.k = 13 ∨ x.k = 17
  · have := h1 g1; omega
  · have := hx.zero (by omega); omega
set_option maxHeartbeats 4000000 in
theorem frame_i {M : Mem} {b lo hi lo2 hi2 B : Nat} {us : List Value} {p : Patch} {PB oid vid cid : Nat} {vals fr : List Int} {vs : List Value} {cs : List (List Int)} {fv : Value} {Y : Nat → Prop}
    (hP : Play Y B M us p PB oid vid cid vals vs cs) (h : patchP.rd lo hi M p us) (hf : formB p = true) (ho : (ordL p.nodes).length = p.nodes.length) (hc : okCs p cs) (hfr : SlV intP lo2 hi2 M fv fr) (hin : p.inp = fr.length)
    (av : ∀ i, lo ≤ i → i < hi → ¬ XP vid cid i) (av2 : ∀ i, lo2 ≤ i → i < hi2 → ¬ XP vid cid i) (hb : b ≤ B) (hbM : b ≤ M.length) (hY : ∀ i, Y i → i < M.length) :
    Ctr Tryz.prog b 195 [.pointer (some ⟨PB, 0, none⟩), fv] M fun _ M' => ∃ vs', Play Y B M' us p PB oid vid cid (valsV p cs fr) vs' (nextC p cs fr (valsV p cs fr)) ∧ Off (XP vid cid) M M' := by
  obtain ⟨hn24, hidx, hnF⟩ := formB_nodes hf
  have hok : ∀ y, y ∈ p.nodes → NodeOk p y := fun y hy => nodeF_ok (hnF y hy)
  have htb : tablesB p.tabs = true := by
    unfold formB at hf
    simp only [Bool.and_eq_true] at hf
    exact hf.1.1.1.1.2
  have hO := ordL_ok hidx
  obtain ⟨A1, n1, c1, A2, n2, c2, A3, n3, c3, rfl⟩ := patch_isV h
  obtain ⟨-, -, -, ⟨c4, p4⟩, -, -, -⟩ := hP.cells
  have hvl := hP.len.1
  have nx := fun (k : Nat) hk => nextC_el (p := p) (cs := cs) (fr := fr) (V := valsV p cs fr) (k := k) hk
  generalize hV : valsV p cs fr = V at nx ⊢
  first | (refine ctr_fn Tryz.func195 rfl Tryz.ntmps195 Tryz.results195 rfl rfl (by simp) ?_) | (refine ctr_fnC Tryz.func195 rfl Tryz.ntmps195 Tryz.results195 rfl (by simp) ?_)
  simp [p4]
  refine awLoop_T (fun m T M1 => ∃ (q : Nat) (vq : List Value) (cq : List (List Int)), q + m = p.nodes.length ∧ Play Y B M1 [iv p.inp, .slice A1 n1 c1, .slice A2 n2 c2, .slice A3 n3 c3] p PB oid vid cid (curV p (ordL p.nodes) cs fr vals q) vq cq ∧ Stage1 p cs fr V q cq ∧ Off (XP vid cid) M M1 ∧ look T 14 = some (iv q) ∧ look T 13 = some (iv p.nodes.length) ∧ look T 12 = some (.slice (some ⟨oid, 0, none⟩) p.nodes.length c4) ∧ look T 0 = some (.pointer (some ⟨PB, 0, none⟩)) ∧ look T 1 = some fv) p.nodes.length
    ⟨0, vs, cs, by omega, hP, .zero, .refl _ _, by simp, by simp, by simp, by simp, by simp⟩ ?_
  rintro m T M1 ⟨q, vq, cq, hm, hQ, hst, hoff, t14, t13, t12, t0, t1⟩
  have ag := hoff.agree av
  have hbM1 : b ≤ M1.length := Nat.le_trans hbM hoff.1
  by_cases hlt : q < p.nodes.length
  · obtain ⟨i, hi, hil⟩ := hO.idx q (by omega)
    obtain ⟨b1, b2, b3, -, ⟨c5, b5⟩, ⟨c6, b6⟩, b0⟩ := hQ.cells
    obtain ⟨e1, e2, e3⟩ := hQ.rows
    have co := hQ.ordAt (q := q) (by omega)
    rw [hi] at co
    have h1 := patchP.agree h ag
    obtain ⟨u1, u2, u3, e, hu1, hu2, hu3⟩ := id h1
    simp only [List.cons.injEq, and_true, true_and] at e
    obtain ⟨rfl, rfl, rfl⟩ := e
    obtain ⟨B2, m2, d2, ee, q1, q2, q3⟩ := id hu2
    injection ee with ea eb ec
    subst ea; subst eb; subst ec
    have hnl := q3.1
    obtain ⟨id2, off2, us2, rfl, he2, hrd, hc2⟩ := q3.at_ (i := i) (by omega)
    obtain ⟨A, n, c, rfl, hu⟩ := node_box hrd
    have cN := cellsAt_of (n := 4) hc2 rfl (by omega)
    have hin2 : i < n2 := by omega
    simp (disch := omega) [t14, t13, t12, t0, t1, hlt, co, e1, b2, cN, he2, hin2, wrap_in]
    obtain ⟨Mb, hMb⟩ : ∃ Mb : Mem, Mb = M1 ++ [Slot.live ⟨[iv (el p.nodes i).k, iv (el p.nodes i).a, iv (el p.nodes i).b, .slice A n c], true, true, 198, 4⟩] := ⟨_, rfl⟩
    have kb : Keeps M1 Mb := by rw [hMb]; exact keeps_app _
    have lb : Mb.length = M1.length + 1 := by rw [hMb]; simp
    have cb : cellsAt Mb M1.length 0 4 = some [iv (el p.nodes i).k, iv (el p.nodes i).a, iv (el p.nodes i).b, .slice A n c] := by rw [hMb]; simp
    have ck : cellAt Mb M1.length 0 = some (iv (el p.nodes i).k) := by rw [hMb]; simp
    rw [← hMb]
    clear hMb
    replace hQ := hQ.keeps kb
    have hoffb := hoff.trans (kb.off (XP vid cid))
    replace hrd := nodeP.keeps hrd kb
    replace hu1 := hu1.keeps kb
    have hfr1 := (hfr.agree (hoff.agree av2)).keeps kb
    replace b1 := cellAt_keeps kb b1
    replace b2 := cellAt_keeps kb b2
    replace b5 := cellAt_keeps kb b5
    replace b6 := cellAt_keeps kb b6
    obtain ⟨e1', e2', e3'⟩ := hQ.rows
    have hx := hok _ (el_mem (l := p.nodes) (i := i) hil)
    obtain ⟨ide, ce, re, ne1⟩ := hQ.celAt hil
    have hcq : el cq i = el cs i := by
      have := hst.wait q (Nat.le_refl _) (by omega)
      rw [hi] at this
      simpa using this
    rw [hcq] at ce re
    have hcl := hc.2 i hil
    have hval := hQ.valsV c5 hn24
    by_cases k6 : (el p.nodes i).k = 6
    · have hd := hx.del k6
      have hcl6 : 0 < (el cs i).length := by rw [hcl]; simp [startV, k6]; omega
      have ez : rowEsz Mb ide = some 1 := by simp [rowEsz, re, rowI]
      have cz : cellAt Mb ide 0 = some (iv (el (el cs i) 0)) := by
        have := cellsL_get intR (l := el cs i) (i := 0) (j := 0) hcl6 (by omega)
        simp [cellAt, re, rowI]
        simpa [intR] using this
      simp [k6]
      refine awDraw_E 14 [[],[0],[1,0],[2,1,0],[],[],[5],[6,5],[7,6,5],[],[8,7,6,5,9],[10,8,7,6,5,9],[11,10,8,7,6,5,9],[12,11,10,8,7,6,5,9],[3,2,1,0,4,5,6,7,8,9,10,11,12,13],[14,3,2,1,0,4,5,6,7,8,9,10,11,12,13]] (by kernel_rfl) (by kernel_rfl) ?_
      simp (disch := omega) [t0, b5, b6, ce, cz, ez, e2', e3', hil, hcl6]
      obtain ⟨M2, p2, P2, O2⟩ := hQ.putVal hb hil (el (el cs i) 0)
      rw [p2, ow_some]
      have hcur : curV p (ordL p.nodes) cs fr vals (q + 1) = (curV p (ordL p.nodes) cs fr vals q).set i (el (el cs i) 0) := by
        rw [curV, hi]
        simp [outV, k6]
      try simp (disch := omega) [t14, t13, t12, t0, t1, wrap_in]
      refine lpI (m - 1) (by omega) ⟨q + 1, vq, cq, by omega, by rw [hcur]; exact P2, hst.skip (by rw [hi]; exact k6), hoffb.trans O2, by simp, by simp [t13], by simp [t12], by simp [t0], by simp [t1]⟩
    · simp [k6]
      refine awDraw_M 31 [[],[0],[1,0],[2,1,0],[],[],[5],[6,5],[7,6,5],[],[],[],[11],[12,11],[13,12,11],[14,13,12,11],[],[],[],[16,17,18],[],[20],[21,20],[22,21,20],[],[23,22,21,20,24],[25,23,22,21,20,24],[10,15,14,13,12,11,19,16,17,18,26,25,23,22,21,20,24],[27,10,15,14,13,12,11,19,16,17,18,26,25,23,22,21,20,24],[28,27,10,15,14,13,12,11,19,16,17,18,26,25,23,22,21,20,24],[28,27,10,15,14,13,12,11,19,16,17,18,26,25,23,22,21,20,24],[3,2,1,0,4,8,7,6,5,10,11,12,13,14,15,16,17,18,19,20,21,22,23,24,25,26,27,28,29],[31,3,2,1,0,4,8,7,6,5,10,11,12,13,14,15,16,17,18,19,20,21,22,23,24,25,26,27,28,29],[8,7,6,5,9,0,1,2,3,4,10,11,12,13,14,15,16,17,18,19,20,21,22,23,24,25,26,27,28,29,30,31,32],[33,8,7,6,5,9,0,1,2,3,4,10,11,12,13,14,15,16,17,18,19,20,21,22,23,24,25,26,27,28,29,30,31,32]] [9,30] (by kernel_rfl) (by decide +kernel) (by decide +kernel) ?_
      simp (disch := omega) [t0, t1, b1, b5, b6, ce, cb, e3', hil]
      have hvl' : (curV p (ordL p.nodes) cs fr vals q).length = p.nodes.length := by rw [curV_len]; exact hvl
      have hI := cur_in (cs := cs) (fr := fr) (v0 := vals) hidx ho hvl (q := q) (by omega) (by rw [hi]; simpa using k6)
      have hOu := cur_out (cs := cs) (fr := fr) (v0 := vals) hidx ho hvl (q := q) (by omega)
      rw [hi, Int.toNat_natCast, hV] at hI hOu
      have hcur : curV p (ordL p.nodes) cs fr vals (q + 1) = (curV p (ordL p.nodes) cs fr vals q).set i (el V i) := by
        rw [curV, hi, Int.toNat_natCast, hOu]
      have hnx := nx i hil
      have hdI := inputs_x (p := p) hrd b5 hval hfr1 hx hin hvl'
      have hlI := inV_len (x := el p.nodes i) (fr := fr) (vals := curV p (ordL p.nodes) cs fr vals q)
      rw [← hI] at hnx
      generalize inV (el p.nodes i) fr (curV p (ordL p.nodes) cs fr vals q) = iN at *
      refine awCall_det' (d := true) hdI (by omega) ?_
      have ceh := cellAt_app ce [Slot.hole]
      have b6h := cellAt_app b6 [Slot.hole]
      have ezh := rowEsz_keeps (keeps_app [Slot.hole]) e3'
      simp (disch := omega) [holes, b6h, ezh, ceh, hil]
      have hsm : iN.length ≤ 1048576 := by
        rw [hlI]
        split
        · omega
        · exact from_small hx
      have hS := step_x (M := Mb ++ [Slot.live (rowI iN)]) (tv := .slice A1 n1 c1) (vi := .slice (some ⟨Mb.length, 0, none⟩) iN.length iN.length) (vs := .slice (some ⟨ide, 0, none⟩) (el cs i).length (el cs i).length) (i := iN) (s := el cs i) (nodeP.app hrd _) (fun _ => hu1.app _) (rowI_slv hsm) (rowI_rd ((keeps_app _).get re) (by rw [hcl]; exact startV_small hx)) hx htb hlI hcl
      rw [hOu, ← hnx] at hS
      generalize el V i = oV at *
      generalize hcN : el (nextC p cs fr V) i = cN at *
      refine awCall_det' (d := true) hS (by simp <;> omega) ?_
      refine ⟨[Slot.live (rowI cN)], by simp, ?_⟩
      have hQ2 := hQ.keeps (keeps_app [Slot.live (rowI iN), Slot.live (rowI cN)])
      obtain ⟨M2, p2, P2, O2⟩ := hQ2.putVal hb hil oV
      have hcid : cid < Mb.length := by obtain ⟨t, h4⟩ := hQ.cel; exact (List.getElem?_eq_some_iff.1 h4).1
      have hvid : vid < Mb.length := by obtain ⟨t, h4⟩ := hQ.val; exact (List.getElem?_eq_some_iff.1 h4).1
      have rN : M2[Mb.length + 1]? = some (.live (rowI cN)) := O2.2 _ _ (fun h => by rcases h with h | h <;> omega) (by simp)
      obtain ⟨M3, p3, P3, O3⟩ := P2.putCel (id := Mb.length + 1) (c := cN) hb hil rN (fun h => by have := hY _ h; have := hoff.1; omega)
      obtain ⟨-, -, e3b⟩ := P2.rows
      obtain ⟨-, f2b, -⟩ := hQ2.rows
      simp (disch := omega) [holes, f2b, e3b, hil, p2]
      rw [p3, ow_some]
      simp (disch := omega) [t14, t13, t12, t0, t1, wrap_in]
      have hstq := hst.set hO (by omega) hQ.len.2.2 (by rw [hi]; exact k6)
      rw [hi, Int.toNat_natCast, hcN] at hstq
      refine lpI (m - 1) (by omega) ⟨q + 1, _, cq.set i cN, by omega, by rw [hcur]; exact P3, hstq, ((hoffb.trans ((keeps_app _).off _)).trans O2).trans O3, by simp, by simp [t13], by simp [t12], by simp [t0], by simp [t1]⟩
  · obtain rfl : q = p.nodes.length := by omega
    have hst2 := hst.two ho
    have hcv : curV p (ordL p.nodes) cs fr vals p.nodes.length = V := by rw [← hV]; exact cur_vals hidx ho hvl
    rw [hcv] at hQ
    obtain ⟨b1, b2, b3, -, ⟨c5, b5⟩, ⟨c6, b6⟩, b0⟩ := hQ.cells
    simp [t14, t13, t12, t0, t1, b2]
    clear b1 b2 b3 b5 b6 b0 c5 c6 hst hm t14 t13 t12
    refine awLoop_T (fun m T M2 => ∃ (k : Nat) (vq : List Value) (cq : List (List Int)), k + m = p.nodes.length ∧ Play Y B M2 [iv p.inp, .slice A1 n1 c1, .slice A2 n2 c2, .slice A3 n3 c3] p PB oid vid cid V vq cq ∧ Stage2 p cs fr V k cq ∧ Off (XP vid cid) M M2 ∧ look T 84 = some (iv k) ∧ look T 83 = some (iv n2) ∧ look T 82 = some (.slice A2 n2 c2) ∧ look T 0 = some (.pointer (some ⟨PB, 0, none⟩)) ∧ look T 1 = some fv) p.nodes.length
      ⟨0, vq, cq, by omega, hQ, hst2, hoff, by simp, by simp, by simp, by simp [t0], by simp [t1]⟩ ?_
    clear hst2 hQ t0 t1 hoff
    rintro m T M1 ⟨k, vq, cq, hm, hQ, hst, hoff, t84, t83, t82, t0, t1⟩
    have ag := hoff.agree av
    have hbM1 : b ≤ M1.length := Nat.le_trans hbM hoff.1
    have h1 := patchP.agree h ag
    obtain ⟨u1, u2, u3, e, hu1, hu2, hu3⟩ := id h1
    simp only [List.cons.injEq, and_true, true_and] at e
    obtain ⟨rfl, rfl, rfl⟩ := e
    obtain ⟨B2, m2, d2, ee, q1, q2, q3⟩ := id hu2
    injection ee with ea eb ec
    subst ea; subst eb; subst ec
    have hnl := q3.1
    by_cases hil : k < p.nodes.length
    · obtain ⟨b1, b2, b3, -, ⟨c5, b5⟩, ⟨c6, b6⟩, b0⟩ := hQ.cells
      obtain ⟨id2, off2, us2, rfl, he2, hrd, hc2⟩ := q3.at_ (i := k) (by omega)
      obtain ⟨A, n, c, rfl, hu⟩ := node_box hrd
      have cN := cellsAt_of (n := 4) hc2 rfl (by omega)
      have hin2 : k < n2 := by omega
      simp (disch := omega) [t84, t83, t82, t0, t1, cN, he2, hin2, wrap_in]
      obtain ⟨Mb, hMb⟩ : ∃ Mb : Mem, Mb = M1 ++ [Slot.live ⟨[iv (el p.nodes k).k, iv (el p.nodes k).a, iv (el p.nodes k).b, .slice A n c], true, true, 198, 4⟩] := ⟨_, rfl⟩
      have kb : Keeps M1 Mb := by rw [hMb]; exact keeps_app _
      have lb : Mb.length = M1.length + 1 := by rw [hMb]; simp
      have cb : cellsAt Mb M1.length 0 4 = some [iv (el p.nodes k).k, iv (el p.nodes k).a, iv (el p.nodes k).b, .slice A n c] := by rw [hMb]; simp
      rw [← hMb]
      clear hMb
      replace hQ := hQ.keeps kb
      have hoffb := hoff.trans (kb.off (XP vid cid))
      replace hrd := nodeP.keeps hrd kb
      have hfr1 := (hfr.agree (hoff.agree av2)).keeps kb
      replace b5 := cellAt_keeps kb b5
      replace b6 := cellAt_keeps kb b6
      obtain ⟨e1', e2', e3'⟩ := hQ.rows
      have hx := hok _ (el_mem (l := p.nodes) (i := k) hil)
      obtain ⟨ide, ce, re, ne1⟩ := hQ.celAt hil
      have hval := hQ.valsV c5 hn24
      by_cases k6 : (el p.nodes k).k = 6
      · have hcq : el cq k = el cs k := hst.wait k (Nat.le_refl _) hil k6
        rw [hcq] at ce re
        have hcl := hc.2 k hil
        have hVl : V.length = p.nodes.length := hQ.len.1
        simp [k6]
        refine awDraw_M 21 [[],[0],[1,0],[2,1,0],[],[],[],[],[],[6,7,8],[],[10],[11,10],[12,11,10],[],[13,12,11,10,14],[15,13,12,11,10,14],[5,9,6,7,8,16,15,13,12,11,10,14],[17,5,9,6,7,8,16,15,13,12,11,10,14],[18,17,5,9,6,7,8,16,15,13,12,11,10,14],[18,17,5,9,6,7,8,16,15,13,12,11,10,14],[3,2,1,0,4,5,6,7,8,9,10,11,12,13,14,15,16,17,18,19,20],[21,3,2,1,0,4,5,6,7,8,9,10,11,12,13,14,15,16,17,18,19,20]] [] (by kernel_rfl) (by decide +kernel) (by decide +kernel) ?_
        simp (disch := omega) [t0, t1, b5, b6, ce, cb, e3', hil]
        have hnx := nx k hil
        have hdI := inputs_x (p := p) hrd b5 hval hfr1 hx hin hVl
        have hlI := inV_len (x := el p.nodes k) (fr := fr) (vals := V)
        have hOv : outV (el p.nodes k) p.tabs (inV (el p.nodes k) fr V) (el cs k) = el (el cs k) 0 := by simp [outV, k6]
        have hNv : ∀ o o', nextV (el p.nodes k) (inV (el p.nodes k) fr V) (el cs k) o = nextV (el p.nodes k) (inV (el p.nodes k) fr V) (el cs k) o' := fun o o' => by simp [nextV, k6]
        rw [hNv _ (outV (el p.nodes k) p.tabs (inV (el p.nodes k) fr V) (el cs k))] at hnx
        generalize inV (el p.nodes k) fr V = iN at *
        have hsm : iN.length ≤ 1048576 := by
          rw [hlI]
          split
          · omega
          · exact from_small hx
        refine awCall_det' (d := true) hdI (by omega) ?_
        have ceh := cellAt_app ce [Slot.hole]
        have b6h := cellAt_app b6 [Slot.hole]
        have ezh := rowEsz_keeps (keeps_app [Slot.hole]) e3'
        simp (disch := omega) [holes, b6h, ezh, ceh, hil]
        have hS := step_x (lo1 := 0) (hi1 := 0) (M := Mb ++ [Slot.live (rowI iN)]) (tv := .slice none 0 0) (vi := .slice (some ⟨Mb.length, 0, none⟩) iN.length iN.length) (vs := .slice (some ⟨ide, 0, none⟩) (el cs k).length (el cs k).length) (i := iN) (s := el cs k) (nodeP.app hrd _) (fun h => absurd k6 h) (rowI_slv hsm) (rowI_rd ((keeps_app _).get re) (by rw [hcl]; exact startV_small hx)) hx htb hlI hcl
        rw [← hnx] at hS
        generalize outV (el p.nodes k) p.tabs iN (el cs k) = oV at *
        generalize hcN : el (nextC p cs fr V) k = cN at *
        refine awCall_det' (d := true) hS (by simp <;> omega) ?_
        refine ⟨[Slot.live (rowI cN)], by simp, ?_⟩
        have hQ2 := hQ.keeps (keeps_app [Slot.live (rowI iN), Slot.live (rowI cN)])
        have hcid : cid < Mb.length := by obtain ⟨t, h4⟩ := hQ.cel; exact (List.getElem?_eq_some_iff.1 h4).1
        have hvid : vid < Mb.length := by obtain ⟨t, h4⟩ := hQ.val; exact (List.getElem?_eq_some_iff.1 h4).1
        have rN : (Mb ++ [Slot.live (rowI iN), Slot.live (rowI cN)])[Mb.length + 1]? = some (.live (rowI cN)) := by simp
        obtain ⟨M3, p3, P3, O3⟩ := hQ2.putCel (id := Mb.length + 1) (c := cN) hb hil rN (fun h => by have := hY _ h; have := hoff.1; omega)
        obtain ⟨-, -, e3b⟩ := hQ2.rows
        simp (disch := omega) [holes, e3b, hil, p3]
        try simp (disch := omega) [t84, t83, t82, t0, t1, wrap_in]
        have hstq := hst.set hil hQ.len.2.2
        rw [hcN] at hstq
        refine lpI (m - 1) (by omega) ⟨k + 1, _, cq.set k cN, by omega, P3, hstq, (hoffb.trans ((keeps_app _).off _)).trans O3, by simp, by simp [t83], by simp [t82], by simp [t0], by simp [t1]⟩
      · simp [k6]
        try simp (disch := omega) [t84, t83, t82, t0, t1, wrap_in]
        refine lpI (m - 1) (by omega) ⟨k + 1, vq, cq, by omega, hQ, hst.skip k6, hoffb, by simp, by simp [t83], by simp [t82], by simp [t0], by simp [t1]⟩
    · obtain rfl : k = p.nodes.length := by omega
      have hnlt : ¬ p.nodes.length < n2 := by omega
      simp (disch := omega) [t84, t83, t82, t0, t1, hnlt]
      have := hst.end_ hQ.len.2.2
      subst this
      exact ⟨⟨vq, hQ⟩, hoff⟩
end Go.Proofs.YtimijeeihicohaaGreat

namespace Go.Proofs.YtimijeeihicohaaGreat
open Go.RowKit
set_option linter.unusedVariables false
set_option linter.unusedSimpArgs false
set_option maxRecDepth 100000
attribute [local simp] List.getElem?_cons_zero
attribute [local irreducible] awCond awCall awLoop awDraw ow retQ retC resQ Keeps
section
variable {B b : Nat} {M M' : Mem} {us : List Value} {p : Patch} {PB oid vid cid : Nat} {vals : List Int} {vs : List Value} {cs : List (List Int)} {Y : Nat → Prop}
theorem Play.other {Z Y' : Nat → Prop} (h : Play Y B M us p PB oid vid cid vals vs cs) (ho : ∀ (i : Nat) s, ¬ Z i → M[i]? = some s → M'[i]? = some s) (hz : ¬ Z PB ∧ ¬ Z oid ∧ ¬ Z vid ∧ ¬ Z cid) (hy : ∀ (i : Nat) s, M[i]? = some s → ¬ Y i → ¬ Z i ∧ ¬ Y' i) (h1 : Y' vid) (h2 : Y' cid) : Play Y' B M' us p PB oid vid cid vals vs cs := by
  obtain ⟨low, ⟨c, t1, t2, tt, b1⟩, b2, ⟨e, b3⟩, ⟨t, b4⟩, b5, b6, b7⟩ := h
  refine ⟨low, ⟨c, t1, t2, tt, ho _ _ hz.1 b1⟩, ho _ _ hz.2.1 b2, ⟨e, ho _ _ hz.2.2.1 b3⟩, ⟨t, ho _ _ hz.2.2.2 b4⟩, b5, fun k hk => ?_, b7.1, b7.2.1, b7.2.2.1, b7.2.2.2.1, b7.2.2.2.2.1, h1, h2⟩
  obtain ⟨id, a, b, c⟩ := b6 k hk
  obtain ⟨z1, z2⟩ := hy id _ b c
  exact ⟨id, a, ho _ _ z1 b, z2⟩
end
theorem Acc.off {B : Nat} {M M' : Mem} {v : Value} {l : List Int} {e : TypeId} {X : Nat → Prop} (h : Acc intR e B M v l) (ho : Off X M M') (hx : ∀ i, B ≤ i → ¬ X i) : Acc intR e B M' v l := by
  obtain ⟨A, n, c, h1, h2, h3⟩ := h
  refine ⟨A, n, c, h1, h2, ?_⟩
  rcases h3 with h3 | ⟨id, t, h4, h5, h6⟩
  · exact .inl h3
  · exact .inr ⟨id, t, h4, h5, ho.2 _ _ (hx id h5) h6⟩
theorem apart_nil {i : Nat} : Apart (.slice none 0 0) i := by
  intro A n c a e ea
  injection e with e
  subst e
  cases ea
theorem Acc.apartB {B : Nat} {M : Mem} {v : Value} {l : List Int} {e : TypeId} (h : Acc intR e B M v l) {i : Nat} (hi : i < B) : Apart v i := by
  obtain ⟨A, n, c, rfl, hl, hA⟩ := h
  intro A' n' c' a e ea
  injection e with e1
  subst e1
  rcases hA with ⟨rfl, _⟩ | ⟨id, t, rfl, hid, hr⟩
  · cases ea
  · injection ea with ea
    subst ea
    show i ≠ id
    omega
theorem outputs_x {Y : Nat → Prop} {M : Mem} {B lo hi : Nat} {us : List Value} {p : Patch} {PB oid vid cid : Nat} {vals : List Int} {vs : List Value} {cs : List (List Int)} (hP : Play Y B M us p PB oid vid cid vals vs cs) (h : patchP.rd lo hi M p us) (hf : formB p = true) :
    Det Tryz.prog M.length 196 [.pointer (some ⟨PB, 0, none⟩)] M (.slice (some ⟨M.length, 0, none⟩) p.outs.length p.outs.length) (M ++ [.live (rowI (p.outs.map fun f => el vals f.toNat))]) := by
  obtain ⟨hn24, hidx, hnF⟩ := formB_nodes hf
  have hO : p.outs.length ≤ 4 ∧ idxB p.nodes.length p.outs = true := by
    unfold formB at hf
    simp only [Bool.and_eq_true, decide_eq_true_eq] at hf
    exact ⟨hf.1.1.2, hf.1.2⟩
  obtain ⟨A1, n1, c1, A2, n2, c2, A3, n3, c3, rfl⟩ := patch_isV h
  obtain ⟨u1, u2, u3, e, hu1, hu2, hu3⟩ := id h
  simp only [List.cons.injEq, and_true, true_and] at e
  obtain ⟨rfl, rfl, rfl⟩ := e
  obtain ⟨b1, b2, b3, -, ⟨c5, b5⟩, -, -⟩ := hP.cells
  have hval := hP.valsV c5 hn24
  have e : p.outs.length = (p.outs.map fun f => el vals f.toNat).length := by simp
  rw [e]
  refine Ctr.compact (rowI_plain _) ?_
  first | (refine ctr_fn Tryz.func196 rfl Tryz.ntmps196 Tryz.results196 rfl rfl (by simp) ?_) | (refine ctr_fnC Tryz.func196 rfl Tryz.ntmps196 Tryz.results196 rfl (by simp) ?_)
  simp
  refine awDraw_E 9 [[],[0],[1,0],[2,1,0],[3,2,1,0],[],[5],[6,5],[7,6,5],[4,3,2,1,0,8,7,6,5],[9,4,3,2,1,0,8,7,6,5]] (by kernel_rfl) (by kernel_rfl) ?_
  simp [b3, b5]
  refine awCall_det' (mapped_x hu3 hval (by omega) fun k hk => ?_) (by omega) ?_
  · have := inB_iff.1 (List.all_eq_true.1 hO.2 _ (el_mem hk))
    obtain ⟨f, hf⟩ := Int.eq_ofNat_of_zero_le this.1
    exact ⟨f, hf, by rw [hP.len.1]; omega⟩
  try simp
  exact ⟨newRow_in (t := false) (by simp) (Nat.le_refl _) (by simp [rowI]), keeps_app _⟩
theorem frameV_len {ins : List (List Int)} {t : Nat} : (frameV ins t).length = ins.length := by simp [frameV]
theorem frameV_el {ins : List (List Int)} {t k : Nat} (hk : k < ins.length) : el (frameV ins t) k = atL (el ins k) t := by simp [frameV, el, hk]
def BlockK (M : Mem) (vid cid : Nat) (l : List Int) (r : Value) (M' : Mem) : Prop := ∃ uid v lo3 hi3, r = .slice (some ⟨uid, 0, none⟩) 1 1 ∧ cellAt M' uid 0 = some v ∧ rowEsz M' uid = some 1 ∧ SlV intP lo3 hi3 M' v l ∧ Off (XP vid cid) M M'
def YV (M : Mem) (vid cid : Nat) (v : Value) : Nat → Prop := fun i => i = vid ∨ i = cid ∨ i = M.length ∨ i = M.length + 1 ∨ ¬ Apart v i
set_option maxHeartbeats 4000000 in
theorem block_i {M : Mem} {b lo hi lo2 hi2 B N : Nat} {us : List Value} {p : Patch} {PB oid vid cid : Nat} {vals : List Int} {vs : List Value} {ins : List (List Int)} {iv_ : Value}
    (hP : Play (fun i => i = vid ∨ i = cid) B M us p PB oid vid cid vals vs (p.nodes.map startV)) (h : patchP.rd lo hi M p us) (hf : formB p = true) (ho : (ordL p.nodes).length = p.nodes.length) (hins : SlV tabP lo2 hi2 M iv_ ins) (hin : p.inp = ins.length) (hout : p.outs.length = 1) (hN : N ≤ 4000)
    (av : ∀ i, lo ≤ i → i < hi → ¬ XP vid cid i) (av2 : ∀ i, lo2 ≤ i → i < hi2 → ¬ XP vid cid i) (hM : hi ≤ M.length ∧ hi2 ≤ M.length) (hb : b ≤ B) (hbM : b ≤ M.length) :
    Ctr Tryz.prog b 150 [.pointer (some ⟨PB, 0, none⟩), iv_, iv 0, iv N] M fun r M' => BlockK M vid cid (rendS p ins N).1 r M' := by
  obtain ⟨hn24, hidx, hnF⟩ := formB_nodes hf
  have hok : ∀ y, y ∈ p.nodes → NodeOk p y := fun y hy => nodeF_ok (hnF y hy)
  have hinp : 0 ≤ p.inp ∧ p.inp ≤ 4 := by
    unfold formB at hf
    simp only [Bool.and_eq_true] at hf
    exact inB_iff.1 hf.1.1.1.1.1
  obtain ⟨A1, n1, c1, A2, n2, c2, A3, n3, c3, rfl⟩ := patch_isV h
  obtain ⟨u1, u2, u3, e, hu1, hu2, hu3⟩ := id h
  simp only [List.cons.injEq, and_true, true_and] at e
  obtain ⟨rfl, rfl, rfl⟩ := e
  obtain ⟨B3, m3, d3, ee, q1, q2, q3⟩ := id hu3
  injection ee with ea eb ec
  subst ea; subst eb; subst ec
  have hol := q3.1
  obtain rfl : n3 = 1 := by omega
  obtain ⟨b1, b2, b3, -, -, -, b0⟩ := hP.cells
  obtain ⟨Ai, ni, ci, rfl, w1, w2, w3⟩ := id hins
  have hnil := w3.1
  rw [hin] at b0 hinp
  rw [hnil] at b0 hinp
  have lPB : PB < M.length := by obtain ⟨c, t1, t2, tt, h1⟩ := hP.box; exact (List.getElem?_eq_some_iff.1 h1).1
  have loid : oid < M.length := (List.getElem?_eq_some_iff.1 hP.ord).1
  have lvid : vid < M.length := by obtain ⟨t, h4⟩ := hP.val; exact (List.getElem?_eq_some_iff.1 h4).1
  have lcid : cid < M.length := by obtain ⟨t, h4⟩ := hP.cel; exact (List.getElem?_eq_some_iff.1 h4).1
  first | (refine ctr_fn Tryz.func150 rfl Tryz.ntmps150 Tryz.results150 rfl rfl (by simp) ?_) | (refine ctr_fnC Tryz.func150 rfl Tryz.ntmps150 Tryz.results150 rfl (by simp) ?_)
  simp [b3, b0]
  have k0 := keeps_app (M := M) [Slot.live ⟨zrow [.slice none 0 0] 1, true, true, 24, 1⟩]
  have b0' := cellAt_keeps k0 b0
  simp [b0']
  refine awCall_det' (zeros_i ni (by omega)) (by simp <;> omega) ?_
  simp
  have YA : ∀ (v : Value) (i : Nat), YV M vid cid v i ↔ (i = vid ∨ i = cid ∨ i = M.length ∨ i = M.length + 1 ∨ ¬ Apart v i) := fun v i => Iff.rfl
  refine awLoop_T (fun m T M1 => ∃ (t : Nat) (v : Value) (vals : List Int) (vq : List Value) (fr : List Int), t + m = N ∧ Off (XP vid cid) M M1 ∧ M.length + 2 ≤ M1.length ∧ M1[M.length]? = some (.live ⟨[v], true, true, 24, 1⟩) ∧ M1[M.length + 1]? = some (.live ⟨cellsL intR fr, true, true, 2, 1⟩) ∧ fr.length = ni ∧ Acc intR 2 (M.length + 2) M1 v (rendS p ins t).1 ∧ Play (YV M vid cid v) B M1 [iv p.inp, .slice A1 n1 c1, .slice A2 n2 c2, .slice A3 1 c3] p PB oid vid cid vals vq (rendS p ins t).2 ∧ look T 11 = some (iv t) ∧ look T 9 = some (.slice (some ⟨M.length, 0, none⟩) 1 1) ∧ look T 10 = some (.slice (some ⟨M.length + 1, 0, none⟩) ni ni) ∧ look T 0 = some (.pointer (some ⟨PB, 0, none⟩)) ∧ look T 1 = some (.slice Ai ni ci) ∧ look T 2 = some (iv 0) ∧ look T 3 = some (iv N)) N
    ⟨0, .slice none 0 0, vals, vs, List.replicate ni 0, by omega, (keeps_app _).off _, by simp, by simp [zrow], by simp, by simp, .nil, ?_, by simp, by simp, by simp, by simp, by simp, by simp, by simp⟩ ?_
  · refine (hP.newY (fun i hi => ?_) (.inl rfl) (.inr (.inl rfl))).keeps (keeps_app _)
    rcases hi with h | h | h | h | h
    · exact .inl (.inl h)
    · exact .inl (.inr h)
    · exact .inr (by omega)
    · exact .inr (by omega)
    · exact absurd apart_nil h
  rintro m T M1 ⟨t, v, vals, vq, fr, hm, hoff, hl1, ru, rf, hfl, hA, hQ, t11, t9, t10, t0, t1, t2, t3⟩
  by_cases hlt : t < N
  case neg =>
    obtain rfl : t = N := by omega
    simp (disch := omega) [t11, t9, t10, t0, t1, t2, t3, wrap_in]
    have hlr := rendS_len (p := p) (ins := ins) t
    exact ⟨M.length, v, _, _, rfl, by simp [cellAt, ru], by simp [rowEsz, ru], hA.slv (by omega), hoff⟩
  simp (disch := omega) [t11, t9, t10, t0, t1, t2, t3, hlt, wrap_in]
  -- the frame's inputs
  refine awLoop_T (fun m' T M2 => ∃ (c : Nat) (fr2 : List Int), c + m' = ni ∧ Off (XP vid cid) M M2 ∧ M1.length = M2.length ∧ (∀ (i : Nat) s, i ≠ M.length + 1 → M1[i]? = some s → M2[i]? = some s) ∧ M2[M.length + 1]? = some (.live ⟨cellsL intR fr2, true, true, 2, 1⟩) ∧ fr2.length = ni ∧ (∀ j, j < c → el fr2 j = el (frameV ins t) j) ∧ look T 38 = some (iv c) ∧ look T 37 = some (iv ni) ∧ look T 11 = some (iv t) ∧ look T 9 = some (.slice (some ⟨M.length, 0, none⟩) 1 1) ∧ look T 10 = some (.slice (some ⟨M.length + 1, 0, none⟩) ni ni) ∧ look T 0 = some (.pointer (some ⟨PB, 0, none⟩)) ∧ look T 1 = some (.slice Ai ni ci) ∧ look T 2 = some (iv 0) ∧ look T 3 = some (iv N)) ni
    ⟨0, fr, by omega, hoff, rfl, fun i s _ h => h, rf, hfl, fun j hj => by omega, by simp, by simp, by simp [t11], by simp [t9], by simp [t10], by simp [t0], by simp [t1], by simp [t2], by simp [t3]⟩ ?_
  clear t11 t9 t10 t0 t1 t2 t3
  rintro m' T M2 ⟨c, fr2, hm', hoff2, hl2, hk2, rf2, hfl2, hfr2, t38, t37, t11, t9, t10, t0, t1, t2, t3⟩
  by_cases hc : c < ni
  · obtain ⟨idi, offi, usi, rfl, hei, ⟨ui, rfl, hui⟩, hci⟩ := (w3.agree (hoff2.agree av2)).at_ hc
    have ci1 := (cl_cons.1 hci).1
    simp only [Nat.mul_one] at ci1
    have ef : rowEsz M2 (M.length + 1) = some 1 := by simp [rowEsz, rf2]
    simp (disch := omega) [t38, t37, t11, t9, t10, t0, t1, t2, t3, hc, hei, ci1, wrap_in]
    refine awCall_det' (at_i t (by omega) hui) (by omega) ?_
    have hp := put_rec (R := intR) (b := b) (a := atL (el ins c) t) (off := c) (i := c) rf2 (by omega) (by omega) (by omega) rfl
    have hp' : putCells b M2 (M.length + 1) c [Value.int IntKind.i64 (atL (el ins c) t)] = _ := hp
    simp (disch := omega) [t38, t37, t11, t9, t10, t0, t1, t2, t3, hc, ef, wrap_in, hp']
    have lt2 := (List.getElem?_eq_some_iff.1 rf2).1
    refine lpI (m' - 1) (by omega) ⟨c + 1, fr2.set c (atL (el ins c) t), by omega, ⟨by simp; exact hoff2.1, fun i s hi hs => by rw [List.getElem?_set_ne (by have := (List.getElem?_eq_some_iff.1 hs).1; omega)]; exact hoff2.2 i s hi hs⟩, by simp [hl2], fun i s hi hs => by rw [List.getElem?_set_ne (Ne.symm hi)]; exact hk2 i s hi hs, List.getElem?_set_self lt2, by simp [hfl2], fun j hj => ?_, by simp, by simp [t37], by simp [t11], by simp [t9], by simp [t10], by simp [t0], by simp [t1], by simp [t2], by simp [t3]⟩
    by_cases e : c = j
    · subst e
      rw [el_set_same _ (by omega), frameV_el (by omega)]
    · rw [el_set_other _ e]
      exact hfr2 j (by omega)
  obtain rfl : c = ni := by omega
  have hfe : fr2 = frameV ins t := by
    apply List.ext_getElem
    · rw [hfl2, frameV_len, hnil]
    · intro j a b'
      rw [el_eq, el_eq]
      exact hfr2 j (by omega)
  subst hfe
  have hQ2 : Play (YV M vid cid v) B M2 [iv p.inp, .slice A1 n1 c1, .slice A2 n2 c2, .slice A3 1 c3] p PB oid vid cid vals vq (rendS p ins t).2 :=
    hQ.other (Z := fun i => i = M.length + 1) (fun i s hi hs => hk2 i s hi hs) (by omega) (fun i s hs hy => ⟨fun e => hy (.inr (.inr (.inr (.inl e)))), hy⟩) (.inl rfl) (.inr (.inl rfl))
  have hA2 : Acc intR 2 (M.length + 2) M2 v (rendS p ins t).1 := hA.off (X := fun i => i = M.length + 1) ⟨by omega, fun i s hi hs => hk2 i s hi hs⟩ (fun i hi => by omega)
  have ru2 := hk2 _ _ (by omega) ru
  simp (disch := omega) [t38, t37, t11, t9, t10, t0, t1, t2, t3]
  have hfv : SlV intP (M.length + 1) (M.length + 2) M2 (.slice (some ⟨M.length + 1, 0, none⟩) c c) (frameV ins t) := by
    refine ⟨_, _, _, rfl, by omega, (fun h => by cases h), SlP.of_sl ⟨hfl2, fun _ => ⟨M.length + 1, 0, rfl, by simp [rowEsz, rf2], fun j y hy => by simpa [cellAt, rf2] using hy⟩⟩ fun a e _ => ?_⟩
    injection e with e
    subst e
    exact ⟨Nat.le_refl _, by show M.length + 1 < M.length + 2; omega⟩
  refine awCall_ctr (frame_i hQ2 (patchP.agree h (hoff2.agree av)) hf ho (rendS_ok hok t) hfv (by rw [frameV_len]; exact hin) av (fun i h1 h2 hx => by rcases hx with hx | hx <;> omega) hb (by have := hoff2.1; omega) ?_) ?_
  · intro i hi
    have := hoff2.1
    rcases hi with h | h | h | h | h
    · omega
    · omega
    · omega
    · omega
    · exact Classical.byContradiction fun hn => h (hA2.apart (by omega))
  rintro _ M3 ⟨vq3, hQ3, hoff3⟩
  have hA3 := hA2.off hoff3 (fun i hi hx => by rcases hx with hx | hx <;> omega)
  have ru3 := hoff3.2 _ _ (fun hx => by rcases hx with hx | hx <;> omega) ru2
  have rf3 := hoff3.2 _ _ (fun hx => by rcases hx with hx | hx <;> omega) rf2
  have hoffM3 := hoff2.trans hoff3
  have hl3 := hoff3.1
  obtain ⟨o, ho1⟩ : ∃ o, p.outs = [o] := by
    match hpo : p.outs, hout with
    | [o], _ => exact ⟨o, rfl⟩
  have dO := outputs_x hQ3 (patchP.agree h (hoffM3.agree av)) hf
  rw [ho1] at dO
  simp only [List.map_cons, List.map_nil, List.length_cons, List.length_nil, Nat.zero_add] at dO
  refine awCall_det' dO (by have := hoff2.1; omega) ?_
  have hrs : (rendS p ins (t + 1)) = ((rendS p ins t).1 ++ [el (valsV p (rendS p ins t).2 (frameV ins t)) o.toNat], nextC p (rendS p ins t).2 (frameV ins t) (valsV p (rendS p ins t).2 (frameV ins t))) := by
    rw [rendS, ho1]
    rfl
  have hrl := rendS_len (p := p) (ins := ins) t
  generalize valsV p (rendS p ins t).2 (frameV ins t) = V at *
  generalize nextC p (rendS p ins t).2 (frameV ins t) V = C at *
  generalize el V o.toNat = y at *
  obtain ⟨M4, hM4⟩ : ∃ M4 : Mem, M4 = M3 ++ [Slot.live (rowI [y])] := ⟨_, rfl⟩
  have k4 : Keeps M3 M4 := by rw [hM4]; exact keeps_app _
  have l4 : M4.length = M3.length + 1 := by rw [hM4]; simp
  have r4 : M4[M3.length]? = some (.live (rowI [y])) := by rw [hM4]; simp
  rw [← hM4]
  clear hM4 dO
  replace hQ3 := hQ3.keeps k4
  replace hA3 := hA3.keeps k4
  replace ru3 := k4.get ru3
  replace rf3 := k4.get rf3
  replace hoffM3 := hoffM3.trans (k4.off _)
  simp (disch := omega) [wrap_in]
  refine awLoop_T (fun m'' T M5 => ∃ e : Nat, e + m'' = 1 ∧ (e = 0 → M5 = M4) ∧ (e = 1 → ∃ v', Off (XP vid cid) M M5 ∧ M.length + 2 ≤ M5.length ∧ M5[M.length]? = some (.live ⟨[v'], true, true, 24, 1⟩) ∧ M5[M.length + 1]? = some (.live ⟨cellsL intR (frameV ins t), true, true, 2, 1⟩) ∧ Acc intR 2 (M.length + 2) M5 v' ((rendS p ins t).1 ++ [y]) ∧ Play (YV M vid cid v') B M5 [iv p.inp, .slice A1 n1 c1, .slice A2 n2 c2, .slice A3 1 c3] p PB oid vid cid V vq3 C) ∧ look T 57 = some (iv e) ∧ look T 56 = some (iv 1) ∧ look T 55 = some (.slice (some ⟨M3.length, 0, none⟩) 1 1) ∧ look T 11 = some (iv t) ∧ look T 9 = some (.slice (some ⟨M.length, 0, none⟩) 1 1) ∧ look T 10 = some (.slice (some ⟨M.length + 1, 0, none⟩) c c) ∧ look T 0 = some (.pointer (some ⟨PB, 0, none⟩)) ∧ look T 1 = some (.slice Ai c ci) ∧ look T 2 = some (iv 0) ∧ look T 3 = some (iv N)) 1
    ⟨0, by omega, fun _ => rfl, (fun h => by cases h), by simp, by simp, by simp, by simp [t11], by simp [t9], by simp [t10], by simp [t0], by simp [t1], by simp [t2], by simp [t3]⟩ ?_
  clear t11 t9 t10 t0 t1 t2 t3 t38 t37
  rintro m'' T M5 ⟨ec, hm'', g0, g1, t57, t56, t55, t11, t9, t10, t0, t1, t2, t3⟩
  have hcc : ec = 0 ∨ ec = 1 := by omega
  rcases hcc with rfl | rfl
  · obtain rfl := g0 rfl
    have e4 : rowEsz M5 M3.length = some 1 := by simp [rowEsz, r4, rowI]
    have ce4 : cellAt M5 M3.length 0 = some (iv y) := by simp [cellAt, r4, rowI, cellsL, intR]
    have eu : rowEsz M5 M.length = some 1 := by simp [rowEsz, ru3]
    have cu : cellAt M5 M.length 0 = some v := by simp [cellAt, ru3]
    simp (disch := omega) [t57, t56, t55, t11, t9, t10, t0, t1, t2, t3, e4, ce4, eu, cu, wrap_in, fill1I]
    have kx : Keeps M5 (M5 ++ [Slot.live ⟨[iv y], true, true, 2, 1⟩]) := keeps_app _
    refine (hA3.keeps kx).append2 (P := Tryz.prog) (by_ := 8) (a := y) (by have := hoff2.1; omega) (by simp; omega) (by omega) (by simp) (by kernel_rfl) (by simp [srcOf]; rfl) rfl (by omega) (by unfold maxLen; omega) fun v' M6 a6 b6 d6 => ?_
    have lu : M.length < M.length + 2 := by omega
    have ru6 := b6.2 _ _ (by omega) (kx.get ru3)
    have rf6 := b6.2 _ _ (by omega) (kx.get rf3)
    have hl6 := b6.1
    simp at hl6
    obtain ⟨A', n', c', rfl, -⟩ := id a6
    have eu6 : rowEsz M6 M.length = some 1 := by simp [rowEsz, ru6]
    have lt6 := (List.getElem?_eq_some_iff.1 ru6).1
    have pu : putCells b M6 M.length 0 [.slice A' n' c'] = some (M6.set M.length (.live ⟨[.slice A' n' c'], true, true, 24, 1⟩)) := put_whole (vs := [.slice A' n' c']) ru6 hbM rfl (by simp)
    simp (disch := omega) [t57, t56, t55, t11, t9, t10, t0, t1, t2, t3, eu6, wrap_in, pu]
    have off6 : Off (XP vid cid) M (M6.set M.length (.live ⟨[.slice A' n' c'], true, true, 24, 1⟩)) := by
      refine ⟨by simp; omega, fun i s hi hs => ?_⟩
      have hlt := (List.getElem?_eq_some_iff.1 hs).1
      rw [List.getElem?_set_ne (by omega)]
      exact b6.2 _ _ (by omega) (kx.get (hoffM3.2 i s hi hs))
    have P6 : Play (YV M vid cid (.slice A' n' c')) B (M6.set M.length (.live ⟨[.slice A' n' c'], true, true, 24, 1⟩)) [iv p.inp, .slice A1 n1 c1, .slice A2 n2 c2, .slice A3 1 c3] p PB oid vid cid V vq3 C := by
      have hap : ∀ i, i < M.length + 2 → Apart v i := fun i hi => hA3.apartB hi
      refine hQ3.other (Z := fun i => i = M.length ∨ ¬ Apart v i) (fun i s hi hs => ?_) ?_ (fun i s hs hy => ?_) (.inl rfl) (.inr (.inl rfl))
      · have h1 : i ≠ M.length := fun e => hi (.inl e)
        have h2 : Apart v i := Classical.byContradiction fun hn => hi (.inr hn)
        rw [List.getElem?_set_ne (Ne.symm h1)]
        exact (d6 i s h2 (kx.get hs)).1
      · refine ⟨fun e => ?_, fun e => ?_, fun e => ?_, fun e => ?_⟩ <;> (rcases e with e | e; omega; exact e (hap _ (by omega)))
      · have h2 : Apart v i := Classical.byContradiction fun hn => hy (.inr (.inr (.inr (.inr hn))))
        refine ⟨fun e => ?_, fun e => ?_⟩
        · rcases e with e | e
          · exact hy (.inr (.inr (.inl e)))
          · exact e h2
        · rcases e with e | e | e | e | e
          · exact hy (.inl e)
          · exact hy (.inr (.inl e))
          · exact hy (.inr (.inr (.inl e)))
          · exact hy (.inr (.inr (.inr (.inl e))))
          · exact e (d6 i s h2 (kx.get hs)).2
    refine lpI (m'' - 1) (by omega) ⟨1, by omega, fun h => by omega, fun _ => ⟨_, off6, by simp; omega, List.getElem?_set_self lt6, by rw [List.getElem?_set_ne (by omega)]; exact rf6, a6.set_ne (by omega), P6⟩, by simp, by simp [t56], by simp [t55], by simp [t11], by simp [t9], by simp [t10], by simp [t0], by simp [t1], by simp [t2], by simp [t3]⟩
  · obtain ⟨v', f1, f2, f3, f4, f5, f6⟩ := g1 rfl
    simp (disch := omega) [t57, t56, t55, t11, t9, t10, t0, t1, t2, t3, wrap_in]
    refine lpI (m - 1) (by omega) ⟨t + 1, v', V, vq3, frameV ins t, by omega, f1, f2, f3, f4, hfl2, by rw [hrs]; exact f5, by rw [hrs]; exact f6, by simp, by simp [t9], by simp [t10], by simp [t0], by simp [t1], by simp [t2], by simp [t3]⟩
end Go.Proofs.YtimijeeihicohaaGreat

namespace Go.Proofs.YtimijeeihicohaaGreat
open Go.RowKit
set_option linter.unusedVariables false
set_option linter.unusedSimpArgs false
set_option maxRecDepth 100000
attribute [local simp] List.getElem?_cons_zero
attribute [local irreducible] awCond awCall awLoop awDraw ow retQ retC resQ Keeps
theorem floor_tdiv (a b : Int) (hb : 0 < b) : (if a.tmod b < 0 then a.tdiv b - 1 else a.tdiv b) = a / b := by
  have h3 := Int.mul_tdiv_add_tmod a b
  have h4 := Int.tmod_lt_of_pos a hb
  have h5 := Int.lt_tmod_of_pos a hb
  split
  · rename_i h
    have e : a = (a.tmod b + b) + b * (a.tdiv b - 1) := by rw [Int.mul_sub, Int.mul_one]; omega
    conv => rhs; rw [e]
    rw [Int.add_mul_ediv_left _ _ (by omega), Int.ediv_eq_zero_of_lt (by omega) (by omega)]
    omega
  · rename_i h
    have e : a = a.tmod b + b * a.tdiv b := by omega
    conv => rhs; rw [e]
    rw [Int.add_mul_ediv_left _ _ (by omega), Int.ediv_eq_zero_of_lt (by omega) (by omega)]
    omega
theorem tdiv_in {a b : Int} (ha : -1000000000 ≤ a) (ha2 : a ≤ 1000000000) (hb : 0 < b) : -1000000000 ≤ a.tdiv b ∧ a.tdiv b ≤ 1000000000 := by
  have h : (a.tdiv b).natAbs ≤ a.natAbs := by rw [Int.natAbs_tdiv]; exact Nat.div_le_self _ _
  omega
theorem floorDiv_i {M : Mem} (a b : Int) (ha : -1000000000 ≤ a) (ha2 : a ≤ 1000000000) (hb : 0 < b) : Det Tryz.prog M.length 188 [iv a, iv b] M (iv (a / b)) M := by
  have h := tdiv_in ha ha2 hb
  have hb0 : ¬ b = 0 := by omega
  first | (refine det_fn Tryz.func188 rfl Tryz.ntmps188 Tryz.results188 rfl rfl rfl (by simp) ?_) | (refine det_fnC Tryz.func188 rfl Tryz.ntmps188 Tryz.results188 rfl rfl (by simp) ?_)
  simp (disch := omega) [hb0, wrap_in]
  rw [← floor_tdiv a b hb]
  by_cases h2 : a.tmod b < 0
  · simp (disch := omega) [h2, wrap_in, Keeps.refl]
  · simp (disch := omega) [h2, wrap_in, Keeps.refl]
theorem floorDiv_s {M : Mem} (a b : Int) (ha : -1000000000 ≤ a) (ha2 : a ≤ 1000000000) (hb : 0 < b) : Det Tryz.prog M.length 169 [iv a, iv b] M (iv (a / b)) M := by
  have h := tdiv_in ha ha2 hb
  have hb0 : ¬ b = 0 := by omega
  first | (refine det_fn Tryz.func169 rfl Tryz.ntmps169 Tryz.results169 rfl rfl rfl (by simp) ?_) | (refine det_fnC Tryz.func169 rfl Tryz.ntmps169 Tryz.results169 rfl rfl (by simp) ?_)
  simp (disch := omega) [hb0, wrap_in]
  rw [← floor_tdiv a b hb]
  by_cases h2 : a.tmod b < 0
  · simp (disch := omega) [h2, wrap_in, Keeps.refl]
  · simp (disch := omega) [h2, wrap_in, Keeps.refl]
end Go.Proofs.YtimijeeihicohaaGreat

namespace Go.Proofs.YtimijeeihicohaaGreat
open Go.RowKit
set_option linter.unusedVariables false
set_option linter.unusedSimpArgs false
set_option maxRecDepth 100000
attribute [local simp] List.getElem?_cons_zero
attribute [local irreducible] awCond awCall awLoop awDraw ow retQ retC resQ Keeps
def lineV (f t L a : Int) : Int := if L ≤ a then t else f + (t - f) * a / L
def heldV (st : Int) : List Segment → Int → Int
  | [], _ => st
  | s :: l, a => if a < s.ln then lineV st s.tg s.ln a else heldV s.tg l (a - s.ln)
theorem heldV_cons {st : Int} {s : Segment} {l : List Segment} {a : Int} : heldV st (s :: l) a = if a < s.ln then lineV st s.tg s.ln a else heldV s.tg l (a - s.ln) := rfl
def levelV (e : Envl) (gate a : Int) : Int := if a < gate then heldV e.st e.segs a else lineV (heldV e.st e.segs gate) 0 e.rel (a - gate)
theorem line_mul {f t a : Int} (h1 : 0 ≤ f) (h2 : f ≤ 65536) (h3 : 0 ≤ t) (h4 : t ≤ 65536) (h5 : 0 ≤ a) (h6 : a ≤ 4000) : -262144000 ≤ (t - f) * a ∧ (t - f) * a ≤ 262144000 := by
  have h : ((t - f) * a).natAbs ≤ 65536 * 4000 := by
    rw [Int.natAbs_mul]
    exact Nat.mul_le_mul (by omega) (by omega)
  omega
theorem lineV_bd {f t L a : Int} (h1 : 0 ≤ f) (h2 : f ≤ 65536) (h3 : 0 ≤ t) (h4 : t ≤ 65536) (h5 : 0 ≤ a) (h7 : 0 ≤ L) : 0 ≤ lineV f t L a ∧ lineV f t L a ≤ 65536 := by
  unfold lineV
  split
  · exact ⟨h3, h4⟩
  · rename_i h
    have hL : 0 < L := by omega
    have haL : a ≤ L := by omega
    rcases Int.le_total f t with hft | hft
    · have m1 : 0 ≤ (t - f) * a := Int.mul_nonneg (by omega) h5
      have m2 : (t - f) * a ≤ (t - f) * L := Int.mul_le_mul_of_nonneg_left haL (by omega)
      have q1 : 0 ≤ (t - f) * a / L := Int.ediv_nonneg m1 (by omega)
      have q2 : (t - f) * a / L ≤ t - f := Int.ediv_le_of_le_mul hL m2
      omega
    · have m1 : (f - t) * a ≤ (f - t) * L := Int.mul_le_mul_of_nonneg_left haL (by omega)
      have m2 : 0 ≤ (f - t) * a := Int.mul_nonneg (by omega) h5
      have e1 : (t - f) * a = -((f - t) * a) := by rw [← Int.neg_mul]; congr 1; omega
      have e2 : (t - f) * L = -((f - t) * L) := by rw [← Int.neg_mul]; congr 1; omega
      have q1 : t - f ≤ (t - f) * a / L := Int.le_ediv_of_mul_le hL (by omega)
      have q2 : (t - f) * a / L ≤ 0 := by
        have := Int.ediv_le_of_le_mul (a := (t - f) * a) (b := 0) hL (by omega)
        exact this
      omega
theorem lineAt_i {M : Mem} (f t L a : Int) (h1 : 0 ≤ f) (h2 : f ≤ 65536) (h3 : 0 ≤ t) (h4 : t ≤ 65536) (h5 : 0 ≤ a) (h6 : a ≤ L) (h7 : L ≤ 4000) : Det Tryz.prog M.length 143 [iv f, iv t, iv L, iv a] M (iv (lineV f t L a)) M := by
  have hb := line_mul h1 h2 h3 h4 h5 (show a ≤ 4000 by omega)
  first | (refine det_fn Tryz.func143 rfl Tryz.ntmps143 Tryz.results143 rfl rfl rfl (by simp) ?_) | (refine det_fnC Tryz.func143 rfl Tryz.ntmps143 Tryz.results143 rfl rfl (by simp) ?_)
  simp
  by_cases h : a = L
  · have : L ≤ a := by omega
    simp [h, lineV, Keeps.refl]
  · have hl : ¬ L ≤ a := by omega
    have hv := lineV_bd (L := L) h1 h2 h3 h4 h5 (by omega)
    unfold lineV at hv
    rw [if_neg hl] at hv
    simp (disch := omega) [h, wrap_in]
    refine awCall_det' (floorDiv_i _ _ (by omega) (by omega) (by omega)) (by simp) ?_
    simp (disch := omega) [wrap_in, lineV, hl, Keeps.refl]
theorem l14Line_s {M : Mem} (f t L a : Int) (h1 : 0 ≤ f) (h2 : f ≤ 65536) (h3 : 0 ≤ t) (h4 : t ≤ 65536) (h5 : 0 ≤ a) (h6 : 0 ≤ L) (h7 : L ≤ 4000) : Det Tryz.prog M.length 137 [iv f, iv t, iv L, iv a] M (iv (lineV f t L a)) M := by
  first | (refine det_fn Tryz.func137 rfl Tryz.ntmps137 Tryz.results137 rfl rfl rfl (by simp) ?_) | (refine det_fnC Tryz.func137 rfl Tryz.ntmps137 Tryz.results137 rfl rfl (by simp) ?_)
  simp
  by_cases h : L ≤ a
  · simp [h, lineV, Keeps.refl]
  · have hb := line_mul h1 h2 h3 h4 h5 (show a ≤ 4000 by omega)
    have hv := lineV_bd (L := L) h1 h2 h3 h4 h5 (by omega)
    unfold lineV at hv
    rw [if_neg h] at hv
    simp (disch := omega) [h, wrap_in]
    refine awCall_det' (floorDiv_s _ _ (by omega) (by omega) (by omega)) (by simp) ?_
    simp (disch := omega) [wrap_in, lineV, h, Keeps.refl]
theorem envB_bd {e : Envl} (h : envB e = true) : (0 ≤ e.st ∧ e.st ≤ 65536) ∧ (0 ≤ e.rel ∧ e.rel ≤ 4000) ∧ e.segs.length ≤ 8 ∧ ∀ i, i < e.segs.length → (0 ≤ (el e.segs i).tg ∧ (el e.segs i).tg ≤ 65536) ∧ 0 ≤ (el e.segs i).ln ∧ (el e.segs i).ln ≤ 4000 := by
  unfold envB at h
  simp only [Bool.and_eq_true, decide_eq_true_eq] at h
  obtain ⟨⟨⟨h1, h2⟩, h3⟩, h4⟩ := h
  refine ⟨inB_iff.1 h2, inB_iff.1 h3, h4, fun i hi => ?_⟩
  have := List.all_eq_true.1 h1 _ (el_mem hi)
  unfold segB at this
  rw [Bool.and_eq_true] at this
  exact ⟨inB_iff.1 this.1, inB_iff.1 this.2⟩
theorem heldV_bd : ∀ (l : List Segment) (st a : Int), 0 ≤ st → st ≤ 65536 → 0 ≤ a → (∀ s, s ∈ l → segB s = true) → 0 ≤ heldV st l a ∧ heldV st l a ≤ 65536
  | [], st, a, h1, h2, _, _ => ⟨h1, h2⟩
  | s :: l, st, a, h1, h2, h3, h => by
    have hs := h s (by simp)
    unfold segB at hs
    rw [Bool.and_eq_true] at hs
    have b1 := inB_iff.1 hs.1
    have b2 := inB_iff.1 hs.2
    unfold heldV
    split
    · exact lineV_bd h1 h2 b1.1 b1.2 h3 b2.1
    · exact heldV_bd l _ _ b1.1 b1.2 (by omega) fun x hx => h x (by simp [hx])
theorem held_i {M : Mem} {lo hi : Nat} {us : List Value} {e : Envl} (a : Int) (h : envP.rd lo hi M e us) (hb : envB e = true) (h1 : 0 ≤ a) (h2 : a ≤ 4000) : Det Tryz.prog M.length 142 [.agg us.toArray, iv a] M (iv (heldV e.st e.segs a)) M := by
  obtain ⟨u, rfl, A, n, c, rfl, q1, q2, q3⟩ := h
  have hl := q3.1
  obtain ⟨b1, b2, b3, b4⟩ := envB_bd hb
  first | (refine det_fn Tryz.func142 rfl Tryz.ntmps142 Tryz.results142 rfl rfl rfl (by simp) ?_) | (refine det_fnC Tryz.func142 rfl Tryz.ntmps142 Tryz.results142 rfl rfl (by simp) ?_)
  simp
  refine awLoop_T (fun m T M' => ∃ (k : Nat) (lv at_ : Int), k + m = n ∧ Keeps M M' ∧ heldV e.st e.segs a = heldV lv (e.segs.drop k) at_ ∧ (0 ≤ lv ∧ lv ≤ 65536) ∧ (0 ≤ at_ ∧ at_ ≤ 4000) ∧ look T 13 = some (iv k) ∧ look T 12 = some (iv n) ∧ look T 11 = some (.slice A n c) ∧ look T 5 = some (iv lv) ∧ look T 1 = some (iv at_)) n ⟨0, e.st, a, by omega, keeps_app _, by simp, b1, ⟨h1, h2⟩, by simp, by simp, by simp, by simp, by simp⟩ ?_
  rintro m T M' ⟨k, lv, at_, hm, hK, hh, hlv, hat, t13, t12, t11, t5, t1⟩
  have hKl := hK.len
  by_cases hlt : k < n
  · obtain ⟨id, off, rfl, he, hc⟩ := (q3.sl.keeps hK).at_ hlt
    have w := b4 k (by omega)
    rw [drop_el (by omega), heldV_cons] at hh
    have hcl := segment_load hc
    simp (disch := omega) [t13, t12, t11, hlt, wrap_in, he, hcl]
    generalize el e.segs k = g at *
    by_cases hl2 : at_ < g.ln
    · rw [if_pos hl2] at hh
      simp (disch := omega) [t1, t5, hl2, wrap_in]
      refine awCall_det' (lineAt_i lv g.tg g.ln at_ (by omega) (by omega) (by omega) (by omega) (by omega) (by omega) (by omega)) (by simp <;> omega) ?_
      simp [hh, hK.app]
    · rw [if_neg hl2] at hh
      simp (disch := omega) [t1, t5, t13, hl2, wrap_in]
      refine lpI (m - 1) (by omega) ⟨k + 1, g.tg, at_ - g.ln, by omega, hK.app _, hh, w.1, by omega, by simp, by simp [t12], by simp [t11], by simp, by simp⟩
  · obtain rfl : k = n := by omega
    rw [List.drop_of_length_le (by omega)] at hh
    simp [t13, t12, t11, t5, hK]
    exact hh.symm
theorem l14Held_s {M : Mem} {lo hi id0 off0 : Nat} {us : List Value} {e : Envl} (a : Int) (h : envP.rd lo hi M e us) (hc0 : Cl M id0 off0 us) (hb : envB e = true) (h1 : 0 ≤ a) (h2 : a ≤ 4000) : Det Tryz.prog M.length 136 [.pointer (some ⟨id0, off0, none⟩), iv a] M (iv (heldV e.st e.segs a)) M := by
  obtain ⟨u, rfl, A, n, c, rfl, q1, q2, q3⟩ := h
  have hl := q3.1
  obtain ⟨b1, b2, b3, b4⟩ := envB_bd hb
  have f0 : cellAt M id0 off0 = some (iv e.st) := hc0 0 _ rfl
  have f1 : cellAt M id0 (off0 + 1) = some (.slice A n c) := hc0 1 _ rfl
  have f2 : cellAt M id0 (off0 + 2) = some (iv e.rel) := hc0 2 _ rfl
  first | (refine det_fn Tryz.func136 rfl Tryz.ntmps136 Tryz.results136 rfl rfl rfl (by simp) ?_) | (refine det_fnC Tryz.func136 rfl Tryz.ntmps136 Tryz.results136 rfl rfl (by simp) ?_)
  simp [f0]
  refine awLoop_T (fun m T M' => ∃ (k : Nat) (lv at_ : Int), k + m = n ∧ Keeps M M' ∧ heldV e.st e.segs a = heldV lv (e.segs.drop k) at_ ∧ (0 ≤ lv ∧ lv ≤ 65536) ∧ (0 ≤ at_ ∧ at_ ≤ 4000) ∧ look T 6 = some (iv k) ∧ look T 0 = some (.pointer (some ⟨id0, off0, none⟩)) ∧ look T 5 = some (iv lv) ∧ look T 1 = some (iv at_)) n ⟨0, e.st, a, by omega, Keeps.refl _, by simp, b1, ⟨h1, h2⟩, by simp, by simp, by simp, by simp⟩ ?_
  rintro m T M' ⟨k, lv, at_, hm, hK, hh, hlv, hat, t6, t0, t5, t1⟩
  have hKl := hK.len
  have f1' := cellAt_keeps hK f1
  by_cases hlt : k < n
  · obtain ⟨id, off, rfl, he, hc⟩ := (q3.sl.keeps hK).at_ hlt
    have w := b4 k (by omega)
    rw [drop_el (by omega), heldV_cons] at hh
    have hcl := segment_load hc
    simp (disch := omega) [t6, t0, f1', hlt, wrap_in, he, hcl]
    generalize el e.segs k = g at *
    by_cases hl2 : at_ < g.ln
    · rw [if_pos hl2] at hh
      simp (disch := omega) [t1, t5, hl2, wrap_in]
      refine awCall_det' (l14Line_s lv g.tg g.ln at_ (by omega) (by omega) (by omega) (by omega) (by omega) (by omega) (by omega)) (by simp <;> omega) ?_
      simp [hh, hK.app]
    · rw [if_neg hl2] at hh
      simp (disch := omega) [t1, t5, t6, hl2, wrap_in]
      refine lpI (m - 1) (by omega) ⟨k + 1, g.tg, at_ - g.ln, by omega, hK.app _, hh, w.1, by omega, by simp, by simp [t0], by simp, by simp⟩
  · obtain rfl : k = n := by omega
    rw [List.drop_of_length_le (by omega)] at hh
    simp [t6, t0, f1', t5, hK]
    exact hh.symm
theorem levelAt_i {M : Mem} {lo hi : Nat} {us : List Value} {e : Envl} (gate a : Int) (h : envP.rd lo hi M e us) (hb : envB e = true) (h1 : 0 ≤ gate) (h2 : gate ≤ 4000) (h3 : 0 ≤ a) (h4 : a ≤ 4000) : Det Tryz.prog M.length 94 [.agg us.toArray, iv gate, iv a] M (iv (levelV e gate a)) M := by
  have h' := h
  obtain ⟨u, rfl, hu⟩ := h'
  obtain ⟨b1, b2, b3, b4⟩ := envB_bd hb
  have hs : ∀ s, s ∈ e.segs → segB s = true := by
    have hb' := hb
    unfold envB at hb'
    simp only [Bool.and_eq_true] at hb'
    exact List.all_eq_true.1 hb'.1.1.1
  have hg := heldV_bd e.segs e.st gate b1.1 b1.2 h1 hs
  unfold levelV
  first | (refine det_fn Tryz.func94 rfl Tryz.ntmps94 Tryz.results94 rfl rfl rfl (by simp) ?_) | (refine det_fnC Tryz.func94 rfl Tryz.ntmps94 Tryz.results94 rfl rfl (by simp) ?_)
  simp
  by_cases c1 : a < gate
  · simp [c1]
    refine awCall_det' (held_i a (envP.app h _) hb h3 h4) (by simp) ?_
    simp [keeps_app]
  · simp (disch := omega) [c1, wrap_in]
    refine awCond_split ?_ ?_ <;> intro hr <;> simp at hr
    · simp [c1, keeps_app]
      unfold lineV
      rw [if_pos (by omega)]
    · simp (disch := omega) [c1, wrap_in]
      refine awDraw_E 8 [[],[],[0,1],[],[3],[],[],[5,6],[2,0,1,4,3,7,5,6],[8,2,0,1,4,3,7,5,6]] (by kernel_rfl) (by kernel_rfl) ?_
      simp (disch := omega) [c1, wrap_in]
      refine awCall_det' (d := true) (held_i gate (envP.app h _) hb h1 h2) (by simp) ?_
      simp (disch := omega) [c1, wrap_in]
      refine awCall_det' (lineAt_i _ 0 e.rel (a - gate) hg.1 hg.2 (by omega) (by omega) (by omega) (by omega) (by omega)) (by simp) ?_
      simp [keeps_app]
theorem l14At_s {M : Mem} {lo hi id0 off0 : Nat} {us : List Value} {e : Envl} (gate a : Int) (h : envP.rd lo hi M e us) (hc0 : Cl M id0 off0 us) (hb : envB e = true) (h1 : 0 ≤ gate) (h2 : gate ≤ 4000) (h3 : 0 ≤ a) (h4 : a ≤ 4000) : Det Tryz.prog M.length 86 [.pointer (some ⟨id0, off0, none⟩), iv gate, iv a] M (iv (levelV e gate a)) M := by
  have h' := h
  obtain ⟨u, rfl, hu⟩ := h'
  obtain ⟨b1, b2, b3, b4⟩ := envB_bd hb
  have hs : ∀ s, s ∈ e.segs → segB s = true := by
    have hb' := hb
    unfold envB at hb'
    simp only [Bool.and_eq_true] at hb'
    exact List.all_eq_true.1 hb'.1.1.1
  have hg := heldV_bd e.segs e.st gate b1.1 b1.2 h1 hs
  have f2 : cellAt M id0 (off0 + 2) = some (iv e.rel) := hc0 2 _ rfl
  unfold levelV
  first | (refine det_fn Tryz.func86 rfl Tryz.ntmps86 Tryz.results86 rfl rfl rfl (by simp) ?_) | (refine det_fnC Tryz.func86 rfl Tryz.ntmps86 Tryz.results86 rfl rfl (by simp) ?_)
  simp
  by_cases c1 : a < gate
  · simp [c1]
    refine awCall_det' (l14Held_s a h hc0 hb h3 h4) (by simp) ?_
    simp [Keeps.refl]
  · simp (disch := omega) [c1, wrap_in]
    refine awDraw_E 10 [[],[],[0,1],[],[3],[4,3],[5,4,3],[],[],[7,8],[2,0,1,6,5,4,3,9,7,8],[10,2,0,1,6,5,4,3,9,7,8]] (by kernel_rfl) (by kernel_rfl) ?_
    simp (disch := omega) [c1, f2, wrap_in]
    refine awCall_det' (d := true) (l14Held_s gate h hc0 hb h1 h2) (by simp) ?_
    simp (disch := omega) [c1, f2, wrap_in]
    refine awCall_det' (l14Line_s _ 0 e.rel (a - gate) hg.1 hg.2 (by omega) (by omega) (by omega) (by omega) (by omega)) (by simp) ?_
    simp [Keeps.refl]
end Go.Proofs.YtimijeeihicohaaGreat

namespace Go.Proofs.YtimijeeihicohaaGreat
open Go.RowKit
set_option linter.unusedVariables false
set_option linter.unusedSimpArgs false
set_option maxRecDepth 100000
attribute [local simp] List.getElem?_cons_zero
attribute [local irreducible] awCond awCall awLoop awDraw ow retQ retC resQ Keeps
structure Gate where
  (o s e k u : Int)
deriving Inhabited, DecidableEq
def Gate.row (c : Gate) : List Value := [iv c.o, iv c.s, iv c.e, iv c.k, iv c.u]
def gateR : RecV Gate 5 := ⟨Gate.row, fun _ => rfl⟩
abbrev Gate.v (c : Gate) : Value := .agg #[iv c.o, iv c.s, iv c.e, iv c.k, iv c.u]
theorem gate_cells {M : Mem} {id off : Nat} {g : Gate} (h : Cl M id off g.row) : cellAt M id off = some (iv g.o) ∧ cellAt M id (off + 1) = some (iv g.s) ∧ cellAt M id (off + 2) = some (iv g.e) ∧ cellAt M id (off + 3) = some (iv g.k) ∧ cellAt M id (off + 4) = some (iv g.u) :=
  ⟨h 0 _ rfl, h 1 _ rfl, h 2 _ rfl, h 3 _ rfl, h 4 _ rfl⟩
theorem gate_load {M : Mem} {id off : Nat} {g : Gate} (h : Cl M id off g.row) : cellsAt M id off 5 = some [iv g.o, iv g.s, iv g.e, iv g.k, iv g.u] := cellsAt_of h rfl (by omega)
@[simp] theorem gate_fill (x0 x1 x2 x3 x4 : Int) : Instr.fill (fun i => some (i * 5, 5)) (zrow [iv 0, iv 0, iv 0, iv 0, iv 0] 1).toArray [(0, .agg #[iv x0, iv x1, iv x2, iv x3, iv x4])] = some #[iv x0, iv x1, iv x2, iv x3, iv x4] := fill_agg (by omega) rfl rfl
end Go.Proofs.YtimijeeihicohaaGreat

namespace Go.Proofs.YtimijeeihicohaaGreat
open Go.RowKit
set_option linter.unusedVariables false
set_option linter.unusedSimpArgs false
set_option maxRecDepth 100000
attribute [local simp] List.getElem?_cons_zero
attribute [local irreducible] awCond awCall awLoop awDraw ow retQ retC resQ Keeps
def gateB (g : Gate) : Bool := inB g.o 0 3 && decide (0 ≤ g.s) && decide (g.s < g.e) && decide (g.e ≤ 4000) && inB g.k 0 127 && inB g.u 1 127
def okG (l : List Gate) : Bool := decide (∀ i, i < l.length → gateB (el l i) = true ∧ (0 < i → (el l (i - 1)).s ≤ (el l i).s)) && decide (l.length ≤ 60)
theorem okG_of {l : List Gate} (h : ∀ i, i < l.length → gateB (el l i) = true ∧ (0 < i → (el l (i - 1)).s ≤ (el l i).s)) : okG l = decide (l.length ≤ 60) := by
  unfold okG; rw [decide_eq_true h, Bool.true_and]
end Go.Proofs.YtimijeeihicohaaGreat

namespace Go.Proofs.YtimijeeihicohaaGreat
open Go.RowKit
set_option linter.unusedVariables false
set_option linter.unusedSimpArgs false
set_option maxRecDepth 100000
attribute [local simp] List.getElem?_cons_zero
attribute [local irreducible] awCond awCall awLoop awDraw ow retQ retC resQ Keeps











































































end Go.Proofs.YtimijeeihicohaaGreat

namespace Go.Proofs.YtimijeeihicohaaGreat
open Go.RowKit
set_option linter.unusedVariables false
set_option linter.unusedSimpArgs false
set_option maxRecDepth 100000
attribute [local simp] List.getElem?_cons_zero
attribute [local irreducible] awCond awCall awLoop awDraw ow retQ retC resQ Keeps
def playB (l : List Gate) : Bool := decide (∀ i, i < l.length → ∀ k, k < i → ¬ ((el l k).o = (el l i).o ∧ (el l i).s < (el l k).e))
end Go.Proofs.YtimijeeihicohaaGreat

namespace Go.Proofs.YtimijeeihicohaaGreat
open Go.RowKit
set_option linter.unusedVariables false
set_option linter.unusedSimpArgs false
set_option maxRecDepth 100000
attribute [local simp] List.getElem?_cons_zero
attribute [local irreducible] awCond awCall awLoop awDraw ow retQ retC resQ Keeps
def oneB (l : List Gate) : Bool := l.all fun g => decide (g.o = (el l 0).o)
def codeV (x : Inst) (l : List Gate) (n : Int) (one : Bool) : Int :=
  if instB x && okG l then (if inB n 0 4000 then (if (one && !oneB l) || !playB l then 6 else 0) else 2) else 1
end Go.Proofs.YtimijeeihicohaaGreat
