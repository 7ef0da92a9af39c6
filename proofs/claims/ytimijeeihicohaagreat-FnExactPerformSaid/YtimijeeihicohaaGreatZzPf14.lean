/- Parts of the proof, together: Nodes, as the program plays them: inputs, steps. Lists of lists in rows of one's own; the state of a patch. The state of a patch at the beginning; copies of states: the program's. A player: the program's. A player's rows: what a store changes. No conditions. -/
import Derived.Test.YtimijeeihicohaaGreatZzPf13
namespace Go.Proofs.YtimijeeihicohaaGreat
open Go.RowKit
set_option linter.unusedVariables false
set_option linter.unusedSimpArgs false
set_option maxRecDepth 100000
attribute [local simp] List.getElem?_cons_zero
attribute [local irreducible] awCond awCall awLoop awDraw ow retQ retC resQ Keeps
theorem newRow_in {M A : Mem} {q n : Nat} {l : List Int} {t : Bool} {c : Nat} (hn : l.length = n) (hq : M.length ≤ q) (hr : A[q]? = some (.live ⟨cellsL intR l, true, t, 2, 1⟩)) : NewRow M (.slice (some ⟨q, 0, none⟩) n c) A n (rowI l) := ⟨q, c, t, rfl, hq, hr, fun h => by cases h⟩
theorem inV_len {x : Node} {fr vals : List Int} : (inV x fr vals).length = if x.k = 1 then 1 else x.from_.length := by
  unfold inV
  split <;> simp
theorem slv_drop {M : Mem} {lo hi id off n c : Nat} {l : List Int} (h : SlV intP lo hi M (.slice (some ⟨id, off, none⟩) n c) l) (hn : 1 ≤ n) : SlV intP lo hi M (.slice (some ⟨id, off + 1, none⟩) (n - 1) (n - 1)) (l.drop 1) := by
  obtain ⟨A, m, d, e, h1, h2, h3⟩ := h
  injection e with e1 e2 e3
  subst e1; subst e2; subst e3
  refine ⟨_, _, _, rfl, by omega, (fun h => by cases h), by rw [List.length_drop, h3.1], fun hp => ?_⟩
  obtain ⟨id', off', e, g1, g2, g3, g4⟩ := h3.2 (by omega)
  injection e with e
  injection e with e1 e2
  subst e1; subst e2
  refine ⟨_, _, rfl, g1, g2, g3, fun i hi => ?_⟩
  obtain ⟨us, a, b⟩ := g4 (i + 1) (by omega)
  refine ⟨us, ?_, ?_⟩
  · rw [show el (l.drop 1) i = el l (i + 1) by unfold el; simp [List.getD_eq_getElem?_getD, Nat.add_comm]]
    exact a
  · rw [show off + 1 + i * 1 = off + (i + 1) * 1 by omega]
    exact b
theorem NewRow.keeps {M M1 M2 : Mem} {v : Value} {n : Nat} {row : Row} (h : NewRow M v M1 n row) (hk : Keeps M1 M2) : NewRow M v M2 n row := by
  obtain ⟨q, m, t, h1, h2, h3, h4⟩ := h
  exact ⟨q, m, t, h1, h2, hk.get h3, h4⟩
theorem append_new {M M1 : Mem} {b : Nat} {S : St} {v x : Value} {l : List Int} {a : Int} (hx : x = .slice (some ⟨M1.length, 0, none⟩) 1 1) (hM : S.M = M1 ++ [Slot.live ⟨[iv a], true, true, 2, 1⟩]) (h : Acc intR 2 M.length M1 v l) (hs : Same M.length M M1) (hnn : ∃ a n c, v = .slice (some a) n c) (hb : b ≤ M.length) (hl : l.length ≤ 1048576) {K : Value → Mem → Prop}
    (hK : ∀ r M', NewRow M r M' (l ++ [a]).length (rowI (l ++ [a])) → Keeps M M' → K r M') : appendK Tryz.prog b S K 24 24 v x := by
  subst hx
  obtain ⟨ra, rn, rc, rfl⟩ := hnn
  obtain ⟨v', M', a1, a2, a3⟩ := append_det (P := Tryz.prog) (t := 24) (tx := 24) (e := 2) (by_ := 8) (b := b) (S := ⟨0, [], M1 ++ [Slot.live ⟨[iv a], true, true, 2, 1⟩]⟩) (x := .slice (some ⟨M1.length, 0, none⟩) 1 1) (a := a) (h.keeps (keeps_app _)) hb (by have := hs.1; simp; omega) (by simp) (by kernel_rfl) (by simp [srcOf]; rfl) (by omega) (by unfold maxLen; omega)
  refine appendK_M (S := ⟨0, [], M1 ++ [Slot.live ⟨[iv a], true, true, 2, 1⟩]⟩) hM.symm (append_ctr (append_nn (a3 (fun v M => v = v' ∧ M = M') ⟨rfl, rfl⟩)) ?_)
  rintro v M2 ⟨⟨rfl, rfl⟩, hnn⟩
  exact hK _ _ (a1.newRow hnn) (slt (Same.trans' (Same.trans' hs (Same.appB _ _)) a2))
theorem inputs_x {M : Mem} {lo hi lo1 hi1 lo2 hi2 PB : Nat} {us : List Value} {x : Node} {vv fv : Value} {fr vals : List Int} {p : Patch} (h : nodeP.rd lo hi M x us) (hv : cellAt M PB 5 = some vv) (hvv : SlV intP lo1 hi1 M vv vals) (hf : SlV intP lo2 hi2 M fv fr) (hx : NodeOk p x) (hfl : p.inp = fr.length) (hvl : vals.length = p.nodes.length) :
    Det Tryz.prog M.length 222 [.pointer (some ⟨PB, 0, none⟩), .agg us.toArray, fv] M (.slice (some ⟨M.length, 0, none⟩) (inV x fr vals).length (inV x fr vals).length) (M ++ [.live (rowI (inV x fr vals))]) := by
  refine Ctr.compact (rowI_plain _) ?_
  obtain ⟨A, n, c, rfl, hu⟩ := node_box h
  first | (refine ctr_fn Tryz.func222 rfl Tryz.ntmps222 Tryz.results222 rfl rfl (by simp) ?_) | (refine ctr_fnC Tryz.func222 rfl Tryz.ntmps222 Tryz.results222 rfl (by simp) ?_)
  simp
  by_cases k1 : x.k = 1
  · obtain ⟨a1, a2⟩ := hx.inp k1
    have e : inV x fr vals = [el fr x.a.toNat] := by simp [inV, k1]
    rw [e]
    obtain ⟨Af, nf, cf, rfl, hnf, -, hSf, -⟩ := sl_take hf
    obtain ⟨id, off, rfl, he, hc⟩ := sl_cells hSf (by omega)
    obtain ⟨a, ha⟩ := Int.eq_ofNat_of_zero_le a1
    have c1 := cellAt_app (hc a (by omega)) [Slot.live ⟨[iv 1, iv x.a, iv x.b, .slice A n c], true, true, 198, 4⟩]
    have e1 := rowEsz_keeps (keeps_app [Slot.live ⟨[iv 1, iv x.a, iv x.b, .slice A n c], true, true, 198, 4⟩]) he
    generalize hxa : x.a = xa at *
    subst ha
    have haf : a < nf := by omega
    simp (disch := omega) [k1, c1, e1, haf, fill1I]
    exact ⟨⟨M.length + 1, 1, true, rfl, by omega, by simp [rowI, cellsL, intR], fun h => by cases h⟩, keeps_app _⟩
  · have e : inV x fr vals = x.from_.map fun f => el vals f.toNat := by simp [inV, k1]
    rw [e]
    have hv' := cellAt_app hv [Slot.live ⟨[iv x.k, iv x.a, iv x.b, .slice A n c], true, true, 198, 4⟩]
    simp [k1]
    refine awDraw_E 6 [[],[0],[],[2],[3,2],[4,3,2],[1,0,5,4,3,2],[6,1,0,5,4,3,2]] (by kernel_rfl) (by kernel_rfl) ?_
    simp [hv']
    have hfr : x.from_.length ≤ 1048576 := by
      have := hx.kind
      have h1 := hx.one
      have h2 := hx.two
      have h3 := hx.three
      by_cases g3 : x.k = 15
      · have := h3 g3; omega
      by_cases g2 : x.k = 3 ∨ x.k = 4 ∨ x.k = 9 ∨ x.k = 16
      · have := h2 g2; omega
      by_cases g1 : x.k = 5 ∨ x.k = 6 ∨ x.k = 7 ∨ x.k = 8 ∨ x.k = 10 ∨ x.k = 11 ∨ x.k = 12 ∨ x.k = 13 ∨ x.k = 17
      · have := h1 g1; omega
      · have := hx.zero (by omega); omega
    refine awCall_det' (mapped_x (hu.app _) (hvv.app _) hfr fun k hk => ?_) (by first | omega | (simp <;> omega) | simp) ?_
    · have := List.all_eq_true.1 hx.idx _ (el_mem hk)
      have := inB_iff.1 this
      obtain ⟨f, hf⟩ := Int.eq_ofNat_of_zero_le this.1
      exact ⟨f, hf, by omega⟩
    simp
    exact ⟨newRow_in (t := false) (by simp) (by omega) (by simp [rowI]), keeps_app _⟩
def StepK (M : Mem) (o : Int) (l : List Int) (r : Value) (M' : Mem) : Prop := ∃ v, r = .tuple #[iv o, v] ∧ NewRow M v M' l.length (rowI l) ∧ Keeps M M'
set_option maxHeartbeats 1000000 in
theorem step_x {M : Mem} {lo hi lo1 hi1 lo2 hi2 lo3 hi3 : Nat} {us : List Value} {x : Node} {tv vi vs : Value} {i s : List Int} {p : Patch} (h : nodeP.rd lo hi M x us) (ht : x.k ≠ 6 → SlV tabP lo1 hi1 M tv p.tabs) (hi : SlV intP lo2 hi2 M vi i) (hs : SlV intP lo3 hi3 M vs s) (hx : NodeOk p x) (htb : tablesB p.tabs = true)
    (hil : i.length = if x.k = 1 then 1 else x.from_.length) (hsl : s.length = (startV x).length) :
    Det Tryz.prog M.length 221 [.agg us.toArray, tv, vi, vs] M (.tuple #[iv (outV x p.tabs i s), .slice (some ⟨M.length, 0, none⟩) (nextV x i s (outV x p.tabs i s)).length (nextV x i s (outV x p.tabs i s)).length]) (M ++ [.live (rowI (nextV x i s (outV x p.tabs i s)))]) := by
  refine Ctr.compact2 rfl (rowI_plain _) ?_
  show Ctr _ _ _ _ _ fun v' M' => StepK M (outV x p.tabs i s) (nextV x i s (outV x p.tabs i s)) v' M'
  obtain ⟨A, n, c, rfl, hu⟩ := node_box h
  have hbx : ∀ q, q = x.k → Keeps M (M ++ [Slot.live ⟨[iv q, iv x.a, iv x.b, .slice A n c], true, true, 198, 4⟩]) := fun q _ => keeps_app _
  first | (refine ctr_fn Tryz.func221 rfl Tryz.ntmps221 Tryz.results221 rfl rfl (by simp) ?_) | (refine ctr_fnC Tryz.func221 rfl Tryz.ntmps221 Tryz.results221 rfl (by simp) ?_)
  simp
  generalize ho : outV x p.tabs i s = o
  generalize hn : nextV x i s o = nx
  have ho2 := ho
  have hn2 := hn
  have hsl2 := hsl
  unfold outV at ho2
  unfold nextV at hn2
  unfold startV at hsl2
  generalize hkk : x.k = kk at *
  by_cases k6 : kk = 6
  · subst k6
    obtain ⟨idi, offi, di, rfl, ei, i0, i1, -⟩ := slv_at hi (n := 1) (by rw [hil, if_neg (by omega)]; exact hx.one (by omega)) (by omega)
    replace i0 := cellAt_app i0 [Slot.live ⟨[iv 6, iv x.a, iv x.b, .slice A n c], true, true, 198, 4⟩]
    replace ei := rowEsz_keeps (keeps_app [Slot.live ⟨[iv 6, iv x.a, iv x.b, .slice A n c], true, true, 198, 4⟩]) ei
    obtain ⟨ids, offs, ds, rfl, es, s0, s1, -⟩ := slv_at hs (n := s.length) (by rfl) (by have := hx.del (by omega); simp at hsl2; omega)
    replace s0 := cellAt_app s0 [Slot.live ⟨[iv 6, iv x.a, iv x.b, .slice A n c], true, true, 198, 4⟩]
    replace es := rowEsz_keeps (keeps_app [Slot.live ⟨[iv 6, iv x.a, iv x.b, .slice A n c], true, true, 198, 4⟩]) es
    have hc2 := hx.del (by omega)
    simp at ho2 hsl2 hn2
    have hgt : 0 < s.length := by omega
    have hd := slv_drop (hs.app [Slot.live ⟨[iv 6, iv x.a, iv x.b, .slice A n c], true, true, 198, 4⟩]) (by omega)
    have htl : s.tail.length = s.length - 1 := by simp
    rw [List.drop_one] at hd
    subst hn2
    generalize hT : s.tail = tl at *
    simp
    have kM := keeps_app (M := M) [Slot.live ⟨[iv 6, iv x.a, iv x.b, .slice A n c], true, true, 198, 4⟩]
    generalize M ++ [Slot.live ⟨[iv 6, iv x.a, iv x.b, .slice A n c], true, true, 198, 4⟩] = M0 at *
    have lM := kM.len
    refine awDraw_K (fun j => if j = 5 ∨ j = 9 then [10] else []) (fun k v M' => match k with
      | 0 => v = .slice (some ⟨ids, offs, none⟩) s.length ds
      | 1 => v = .pointer (some ⟨ids, offs, none⟩)
      | 2 => v = iv (el s 0)
      | 3 => v = .slice (some ⟨ids, offs, none⟩) s.length ds
      | 4 => v = .slice (some ⟨ids, offs + 1, none⟩) (s.length - 1) (s.length - 1)
      | 5 => Acc intR 2 M0.length M' v tl ∧ ∃ a n c, v = .slice (some a) n c
      | 6 => v = .slice (some ⟨idi, offi, none⟩) 1 di
      | 7 => v = .pointer (some ⟨idi, offi, none⟩)
      | 8 => v = iv (el i 0)
      | 9 => ∃ q, v = .slice (some ⟨q, 0, none⟩) 1 1 ∧ M'[q]? = some (.live ⟨[iv (el i 0)], true, true, 2, 1⟩)
      | 10 => NewRow M v M' (tl ++ [el i 0]).length (rowI (tl ++ [el i 0]))
      | 11 => v = iv (el s 0)
      | 12 => NewRow M v M' (tl ++ [el i 0]).length (rowI (tl ++ [el i 0]))
      | _ => True) ?_ (by kernel_rfl) (by decide +kernel) (by decide +kernel) ?_ ?_
    · intro k v M1 M2 h hk
      rcases k with _ | _ | _ | _ | _ | _ | _ | _ | _ | _ | _ | _ | _ | k
      · exact h
      · exact h
      · exact h
      · exact h
      · exact h
      · exact ⟨h.1.keeps hk, h.2⟩
      · exact h
      · exact h
      · exact h
      · obtain ⟨q, h1, h2⟩ := h
        exact ⟨q, h1, hk.get h2⟩
      · exact h.keeps hk
      · exact h
      · exact h.keeps hk
      · trivial
    · intro X k o T M1 K hC hX hk hp hf ho hK
      have kk1 := kM.trans hk
      have c_s := cellAt_keeps hk s0
      have c_i := cellAt_keeps hk i0
      have e_s := rowEsz_keeps hk es
      have e_i := rowEsz_keeps hk ei
      have f3 := hf 3 (by decide +kernel)
      have f2 := hf 2 (by decide +kernel)
      simp at f3 f2
      rcases k with _ | _ | _ | _ | _ | _ | _ | _ | _ | _ | _ | _ | _ | k
      · simp at ho; subst ho
        simp [f3]
        exact hK _ _ (.inl (Keeps.refl _)) rfl
      · obtain ⟨v, d, p⟩ := hp 0 17 (by decide +kernel) rfl
        rw [p (by simp)] at d
        simp at ho; subst ho
        simp [d, hgt, e_s]
        exact hK _ _ (.inl (Keeps.refl _)) rfl
      · obtain ⟨v, d, p⟩ := hp 1 18 (by decide +kernel) rfl
        rw [p (by simp)] at d
        simp at ho; subst ho
        simp [d, c_s]
        exact hK _ _ (.inl (Keeps.refl _)) rfl
      · simp at ho; subst ho
        simp [f3]
        exact hK _ _ (.inl (Keeps.refl _)) rfl
      · obtain ⟨v, d, p⟩ := hp 3 20 (by decide +kernel) rfl
        rw [p (by simp)] at d
        simp at ho; subst ho
        simp [d, e_s]
        exact ⟨by omega, hK _ _ (.inl (Keeps.refl _)) rfl⟩
      · obtain ⟨v, d, p⟩ := hp 4 21 (by decide +kernel) rfl
        rw [p (by simp)] at d
        simp at ho; subst ho
        simp [d]
        refine awCall_det' (clone_x (hd.keeps hk) (by omega)) (by have h9 : M0.length ≤ M1.length := hk.len; omega) ?_
        refine hK _ _ (.inl (keeps_app _)) ⟨?_, _, _, _, rfl⟩
        exact rowI_acc.low hk.len
      · simp at ho; subst ho
        simp [f2]
        exact hK _ _ (.inl (Keeps.refl _)) rfl
      · obtain ⟨v, d, p⟩ := hp 6 23 (by decide +kernel) rfl
        rw [p (by simp)] at d
        simp at ho; subst ho
        simp [d, e_i]
        exact hK _ _ (.inl (Keeps.refl _)) rfl
      · obtain ⟨v, d, p⟩ := hp 7 24 (by decide +kernel) rfl
        rw [p (by simp)] at d
        simp at ho; subst ho
        simp [d, c_i]
        exact hK _ _ (.inl (Keeps.refl _)) rfl
      · obtain ⟨v, d, p⟩ := hp 8 25 (by decide +kernel) rfl
        rw [p (by simp)] at d
        simp at ho; subst ho
        simp [d, fill1I]
        exact hK _ _ (.inl (keeps_app _)) ⟨_, rfl, getElem?_snoc_eq⟩
      · obtain ⟨v5, d5, p5⟩ := hp 5 22 (by decide +kernel) rfl
        obtain ⟨v9, d9, p9⟩ := hp 9 26 (by decide +kernel) rfl
        obtain ⟨hA, ra, rn, rc, rfl⟩ := p5 (by simpa using hX)
        obtain ⟨q, rfl, hq⟩ := p9 (by simpa using hX)
        simp at ho; subst ho
        simp [d5, d9]
        obtain ⟨v', M', a1, a2, a3⟩ := append_det (P := Tryz.prog) (t := 24) (tx := 24) (e := 2) (by_ := 8) (b := M.length) (S := ⟨0, [], M1⟩) (x := .slice (some ⟨q, 0, none⟩) 1 1) (a := el i 0) hA lM hk.len (by simp) (by kernel_rfl) (by simp [srcOf, cellsAt, hq]; rfl) (by omega) (by unfold maxLen; omega)
        refine appendK_M (S := ⟨0, [], M1⟩) (by rfl) (append_ctr (append_nn (a3 (fun v M => v = v' ∧ M = M') ⟨rfl, rfl⟩)) ?_)
        rintro v M2 ⟨⟨rfl, rfl⟩, hnn⟩
        refine hK _ _ (.inr ⟨a2.keeps hk (Nat.le_refl _), fun j u hj hkj hju => ?_⟩) ((a1.low lM).newRow hnn)
        rcases j with _ | _ | _ | _ | _ | _ | _ | _ | _ | _ | _ | _ | _ | j
        · exact hju
        · exact hju
        · exact hju
        · exact hju
        · exact hju
        · simp at hkj
        · exact hju
        · exact hju
        · exact hju
        · simp at hkj
        · rw [hX] at hj; cases hj
        · exact hju
        · have := hC.at_ 10 hj (by decide +kernel)
          rw [hX] at this; cases this
        · trivial
      · obtain ⟨v, d, p⟩ := hp 2 19 (by decide +kernel) rfl
        rw [p (by simp)] at d
        simp at ho; subst ho
        simp [d]
        exact hK _ _ (.inl (Keeps.refl _)) rfl
      · obtain ⟨v, d, p⟩ := hp 10 27 (by decide +kernel) rfl
        have p := p (by simp)
        simp at ho; subst ho
        simp [d]
        exact hK _ _ (.inl (Keeps.refl _)) p
      · simp at ho
    · intro T M1 hk hp hf
      obtain ⟨v8, d8, p8⟩ := hp 11 8 (by simp) rfl
      obtain ⟨v9, d9, p9⟩ := hp 12 9 (by simp) rfl
      have p8 := p8 (by simp)
      have p9 := p9 (by simp)
      subst p8
      simp [d8, d9]
      rw [ho2]
      exact ⟨_, rfl, p9, kM.trans hk⟩
  simp [k6]
  by_cases k7 : kk = 7
  · subst k7
    obtain ⟨idi, offi, di, rfl, ei, i0, i1, -⟩ := slv_at hi (n := 1) (by rw [hil, if_neg (by omega)]; exact hx.one (by omega)) (by omega)
    replace i0 := cellAt_app i0 [Slot.live ⟨[iv 7, iv x.a, iv x.b, .slice A n c], true, true, 198, 4⟩]
    replace ei := rowEsz_keeps (keeps_app [Slot.live ⟨[iv 7, iv x.a, iv x.b, .slice A n c], true, true, 198, 4⟩]) ei
    obtain ⟨ids, offs, ds, rfl, es, s0, s1, -⟩ := slv_at hs (n := 1) (by simpa using hsl2) (by omega)
    replace s0 := cellAt_app s0 [Slot.live ⟨[iv 7, iv x.a, iv x.b, .slice A n c], true, true, 198, 4⟩]
    replace es := rowEsz_keeps (keeps_app [Slot.live ⟨[iv 7, iv x.a, iv x.b, .slice A n c], true, true, 198, 4⟩]) es
    simp at ho2
    simp [ho2] at hn2
    simp
    refine awDraw_E 6 [[],[0],[1,0],[],[3],[4,3],[2,1,0,5,4,3],[6,2,1,0,5,4,3],[7,6,2,1,0,5,4,3]] (by kernel_rfl) (by kernel_rfl) ?_
    simp [i0, s0, ei, es]
    refine awCall_det' (Wrap_s _) (by first | omega | (simp <;> omega) | simp) ?_
    simp [smp_wrap, ho2, fill1I]
    rw [← hn2]
    exact ⟨_, rfl, newRow_in (t := true) (by simp) (by omega) (by simp [cellsL, intR]), keeps_app _⟩
  simp [k7]
  by_cases k8 : kk = 8
  · subst k8
    obtain ⟨idi, offi, di, rfl, ei, i0, i1, -⟩ := slv_at hi (n := 1) (by rw [hil, if_neg (by omega)]; exact hx.one (by omega)) (by omega)
    replace i0 := cellAt_app i0 [Slot.live ⟨[iv 8, iv x.a, iv x.b, .slice A n c], true, true, 198, 4⟩]
    replace ei := rowEsz_keeps (keeps_app [Slot.live ⟨[iv 8, iv x.a, iv x.b, .slice A n c], true, true, 198, 4⟩]) ei
    obtain ⟨ids, offs, ds, rfl, es, s0, s1, -⟩ := slv_at hs (n := 1) (by simpa using hsl2) (by omega)
    replace s0 := cellAt_app s0 [Slot.live ⟨[iv 8, iv x.a, iv x.b, .slice A n c], true, true, 198, 4⟩]
    replace es := rowEsz_keeps (keeps_app [Slot.live ⟨[iv 8, iv x.a, iv x.b, .slice A n c], true, true, 198, 4⟩]) es
    simp at ho2
    simp at hn2
    simp
    refine awDraw_D 13 [[],[0],[1,0],[],[3],[4,3],[2,1,0,5,4,3],[6,2,1,0,5,4,3],[],[8],[9,8],[10,9,8],[7,6,2,1,0,5,4,3],[11,10,9,8,12,7,6,2,1,0,5,4,3]] (by kernel_rfl) (by decide +kernel) ?_
    simp [i0, s0, ei, es]
    refine awCall_det' (d := true) (Wrap_s _) (by first | omega | (simp <;> omega) | simp) ?_
    simp [smp_wrap, ho2, fill1I, i0, ei, rowEsz_keeps, cellAt_app]
    rw [← hn2]
    exact ⟨_, rfl, newRow_in (t := true) (by simp) (by omega) (by simp [cellsL, intR]), keeps_app _⟩
  simp [k8]
  by_cases k12 : kk = 12
  · subst k12
    obtain ⟨idi, offi, di, rfl, ei, i0, i1, -⟩ := slv_at hi (n := 1) (by rw [hil, if_neg (by omega)]; exact hx.one (by omega)) (by omega)
    replace i0 := cellAt_app i0 [Slot.live ⟨[iv 12, iv x.a, iv x.b, .slice A n c], true, true, 198, 4⟩]
    replace ei := rowEsz_keeps (keeps_app [Slot.live ⟨[iv 12, iv x.a, iv x.b, .slice A n c], true, true, 198, 4⟩]) ei
    obtain ⟨ids, offs, ds, rfl, es, s0, s1, -⟩ := slv_at hs (n := 1) (by simpa using hsl2) (by omega)
    replace s0 := cellAt_app s0 [Slot.live ⟨[iv 12, iv x.a, iv x.b, .slice A n c], true, true, 198, 4⟩]
    replace es := rowEsz_keeps (keeps_app [Slot.live ⟨[iv 12, iv x.a, iv x.b, .slice A n c], true, true, 198, 4⟩]) es
    simp at ho2
    simp [ho2] at hn2
    simp
    refine awDraw_D 13 [[],[0],[1,0],[],[3],[4,3],[],[6],[7,6],[5,4,3,8,7,6],[9,5,4,3,8,7,6],[10,9,5,4,3,8,7,6],[2,1,0,10,9,5,4,3,8,7,6],[11,10,9,5,4,3,8,7,6,12,2,1,0]] (by kernel_rfl) (by decide +kernel) ?_
    simp [i0, s0, ei, es]
    refine awCall_det' (d := true) (Wrap_s _) (by first | omega | (simp <;> omega) | simp) ?_
    simp [smp_wrap, ho2, fill1I, i0, ei, rowEsz_keeps, cellAt_app]
    rw [← hn2]
    exact ⟨_, rfl, newRow_in (t := true) (by simp) (by omega) (by simp [cellsL, intR]), keeps_app _⟩
  simp [k12]
  by_cases k14 : kk = 14
  · subst k14
    obtain ⟨ids, offs, ds, rfl, es, s0, s1, -⟩ := slv_at hs (n := 1) (by simpa using hsl2) (by omega)
    replace s0 := cellAt_app s0 [Slot.live ⟨[iv 14, iv x.a, iv x.b, .slice A n c], true, true, 198, 4⟩]
    replace es := rowEsz_keeps (keeps_app [Slot.live ⟨[iv 14, iv x.a, iv x.b, .slice A n c], true, true, 198, 4⟩]) es
    simp at ho2
    simp [ho2] at hn2
    simp
    refine awDraw_D 9 [[],[0],[1,0],[],[3],[4,3],[5,4,3],[6,5,4,3],[2,1,0,6,5,4,3],[7,6,5,4,3,8,2,1,0]] (by kernel_rfl) (by decide +kernel) ?_
    simp [s0, es]
    refine awCall_det' (d := true) (noise_i _) (by first | omega | (simp <;> omega) | simp) ?_
    simp [ho2, fill1I]
    rw [← hn2]
    exact ⟨_, rfl, newRow_in (t := true) (by simp) (by omega) (by simp [cellsL, intR]), keeps_app _⟩
  simp [k14]
  by_cases k16 : kk = 16
  · subst k16
    obtain ⟨idi, offi, di, rfl, ei, i0, i1, -⟩ := slv_at hi (n := 2) (by rw [hil, if_neg (by omega)]; exact hx.two (by omega)) (by omega)
    replace i0 := cellAt_app i0 [Slot.live ⟨[iv 16, iv x.a, iv x.b, .slice A n c], true, true, 198, 4⟩]
    replace ei := rowEsz_keeps (keeps_app [Slot.live ⟨[iv 16, iv x.a, iv x.b, .slice A n c], true, true, 198, 4⟩]) ei
    obtain ⟨ids, offs, ds, rfl, es, s0, s1, -⟩ := slv_at hs (n := 1) (by simpa using hsl2) (by omega)
    replace s0 := cellAt_app s0 [Slot.live ⟨[iv 16, iv x.a, iv x.b, .slice A n c], true, true, 198, 4⟩]
    replace es := rowEsz_keeps (keeps_app [Slot.live ⟨[iv 16, iv x.a, iv x.b, .slice A n c], true, true, 198, 4⟩]) es
    have i1' := cellAt_app (i1 (by omega)) [Slot.live ⟨[iv 16, iv x.a, iv x.b, .slice A n c], true, true, 198, 4⟩]
    simp at ho2
    simp [ho2] at hn2
    simp [i0, i1', s0, ei, es]
    by_cases h0 : 0 < el i 1
    · simp [h0] at ho2
      simp [h0, i0, ei, ho2, fill1I]
      rw [← hn2]
      exact ⟨_, rfl, newRow_in (t := true) (by simp) (by omega) (by simp [cellsL, intR]), keeps_app _⟩
    · simp [h0] at ho2
      simp [h0, ho2, fill1I]
      rw [← hn2]
      exact ⟨_, rfl, newRow_in (t := true) (by simp) (by omega) (by simp [cellsL, intR]), keeps_app _⟩
  simp [k16]
  by_cases k17 : kk = 17
  · subst k17
    obtain ⟨idi, offi, di, rfl, ei, i0, i1, -⟩ := slv_at hi (n := 1) (by rw [hil, if_neg (by omega)]; exact hx.one (by omega)) (by omega)
    replace i0 := cellAt_app i0 [Slot.live ⟨[iv 17, iv x.a, iv x.b, .slice A n c], true, true, 198, 4⟩]
    replace ei := rowEsz_keeps (keeps_app [Slot.live ⟨[iv 17, iv x.a, iv x.b, .slice A n c], true, true, 198, 4⟩]) ei
    obtain ⟨ids, offs, ds, rfl, es, s0, s1, -⟩ := slv_at hs (n := s.length) (by rfl) (by have := hx.comb (by omega); simp at hsl2; omega)
    replace s0 := cellAt_app s0 [Slot.live ⟨[iv 17, iv x.a, iv x.b, .slice A n c], true, true, 198, 4⟩]
    replace es := rowEsz_keeps (keeps_app [Slot.live ⟨[iv 17, iv x.a, iv x.b, .slice A n c], true, true, 198, 4⟩]) es
    have hc2 := hx.comb (by omega)
    simp at ho2 hsl2 hn2
    have hgt : 0 < s.length := by omega
    simp
    refine awDraw_E 9 [[],[0],[1,0],[],[3],[],[5],[6,5],[4,3,7,6,5],[2,1,0,8,4,3,7,6,5],[9,2,1,0,8,4,3,7,6,5],[10,9,2,1,0,8,4,3,7,6,5]] (by kernel_rfl) (by kernel_rfl) ?_
    simp [i0, s0, ei, es, hgt]
    refine awCall_det' (Wrap_s _) (by first | omega | (simp <;> omega) | simp) ?_
    have eo : smp (IntKind.i64.wrap (el i 0 + IntKind.i64.wrap (x.a * el s 0))) = o := by
      rw [smp_wrap, ← ho2]
      refine smp_eq ?_
      rw [IntKind.wrap_i64]
      omega
    rw [eo]
    refine ⟨by omega, es, ?_⟩
    have hd := slv_drop (hs.app [Slot.live ⟨[iv 17, iv x.a, iv x.b, .slice A n c], true, true, 198, 4⟩]) (by omega)
    have htl : s.tail.length = s.length - 1 := by simp
    rw [List.drop_one] at hd
    refine awCall_det' (clone_x hd (by omega)) (by first | omega | (simp <;> omega) | simp) ?_
    simp only [fill1I, ow_some]
    subst hn2
    generalize hT : s.tail = tl at *
    simp
    refine append_new (M := M) (M1 := M ++ [Slot.live ⟨[iv 17, iv x.a, iv x.b, .slice A n c], true, true, 198, 4⟩] ++ [Slot.live (rowI tl)]) (l := tl) (a := o) (by simp) (by simp [fill1I]) ?_ ?_ ⟨_, _, _, rfl⟩ (by omega) (by omega) ?_
    · have := (rowI_acc (M := M ++ [Slot.live ⟨[iv 17, iv x.a, iv x.b, .slice A n c], true, true, 198, 4⟩]) (l := tl)).low (B' := M.length) (by simp)
      simpa using this
    · exact Same.trans' (Same.appS _ _) (Same.appB _ _)
    · intro r M' h1 h2
      try simp
      exact ⟨_, rfl, h1, h2⟩
  simp [k17]
  have hk : x.k = 1 ∨ x.k = 2 ∨ x.k = 3 ∨ x.k = 4 ∨ x.k = 5 ∨ x.k = 9 ∨ x.k = 10 ∨ x.k = 11 ∨ x.k = 13 ∨ x.k = 15 := by
    have := hx.kind
    omega
  obtain ⟨N, dN⟩ := output_i (M := M ++ [Slot.live ⟨[iv kk, iv x.a, iv x.b, .slice A n c], true, true, 198, 4⟩]) (us := [iv kk, iv x.a, iv x.b, .slice A n c]) (s := s) ⟨_, by rw [hkk], hu.app _⟩ ((ht (by omega)).app _) (hi.app _) hx htb (by rw [hkk]; exact hil) (by rw [hkk]; omega)
  rw [ho] at dN
  refine awCall_det' dN (by first | omega | (simp <;> omega) | simp) ?_
  simp
  refine awCall_det' (zeros_i 0 (by omega)) (by first | omega | (simp <;> omega) | simp) ?_
  have e0 : nx = [] := by
    have n1 : ¬ (kk = 7 ∨ kk = 16) := by omega
    rw [← hn2, if_neg k6, if_neg k17, if_neg n1, if_neg k8, if_neg k12, if_neg k14]
  subst e0
  simp
  exact ⟨_, rfl, newRow_in (t := true) rfl (by simp) (by simp), by simpa using (hbx kk rfl).app (N ++ [Slot.live ⟨cellsL intR (List.replicate 0 0), true, true, 2, 1⟩])⟩
end Go.Proofs.YtimijeeihicohaaGreat

namespace Go.Proofs.YtimijeeihicohaaGreat
open Go.RowKit
set_option linter.unusedVariables false
set_option linter.unusedSimpArgs false
set_option maxRecDepth 100000
attribute [local simp] List.getElem?_cons_zero
attribute [local irreducible] awCond awCall awLoop awDraw ow retQ retC resQ Keeps
def valR : RecV Value 1 := ⟨fun v => [v], fun _ => rfl⟩
theorem cellsL_valR (l : List Value) : cellsL valR l = l := by
  induction l with
  | nil => rfl
  | cons a l ih => rw [cellsL_cons, ih]; rfl
/-- A list of lists: the list's own row, and a row for each element. -/
def LLv (B : Nat) (M : Mem) (v : Value) (cs : List (List Int)) : Prop :=
  ∃ vs, Acc valR 24 B M v vs ∧ vs.length = cs.length ∧ ∀ k, k < cs.length → ∃ id, el vs k = .slice (some ⟨id, 0, none⟩) (el cs k).length (el cs k).length ∧ B ≤ id ∧ M[id]? = some (.live (rowI (el cs k))) ∧ Apart v id
theorem LLv.keeps {B : Nat} {M M' : Mem} {v : Value} {cs : List (List Int)} (h : LLv B M v cs) (hk : Keeps M M') : LLv B M' v cs := by
  obtain ⟨vs, h1, h2, h3⟩ := h
  refine ⟨vs, h1.keeps hk, h2, fun k hk' => ?_⟩
  obtain ⟨id, a, b, c, d⟩ := h3 k hk'
  exact ⟨id, a, b, hk.get c, d⟩
theorem LLv.low {B B' : Nat} {M : Mem} {v : Value} {cs : List (List Int)} (h : LLv B M v cs) (hb : B' ≤ B) : LLv B' M v cs := by
  obtain ⟨vs, h1, h2, h3⟩ := h
  refine ⟨vs, h1.low hb, h2, fun k hk' => ?_⟩
  obtain ⟨id, a, b, c, d⟩ := h3 k hk'
  exact ⟨id, a, by omega, c, d⟩
theorem LLv.nil {B : Nat} {M : Mem} : LLv B M (.slice none 0 0) [] := ⟨[], .nil, rfl, fun k hk => by simp at hk⟩
theorem rowI_rd {M : Mem} {id : Nat} {l : List Int} (h : M[id]? = some (.live (rowI l))) (hl : l.length ≤ 1048576) : SlV intP id (id + 1) M (.slice (some ⟨id, 0, none⟩) l.length l.length) l := by
  refine ⟨_, _, _, rfl, by omega, (fun h => by cases h), SlP.of_sl ⟨rfl, fun _ => ⟨id, 0, rfl, by simp [rowEsz, h, rowI], fun j y hy => by simpa [cellAt, h, rowI] using hy⟩⟩ fun a e _ => ?_⟩
  injection e with e
  subst e
  exact ⟨Nat.le_refl _, Nat.lt_succ_self _⟩
theorem LLv.slv {B : Nat} {M : Mem} {v : Value} {cs : List (List Int)} (h : LLv B M v cs) (hl : ∀ c, c ∈ cs → c.length ≤ 1048576) (hn : cs.length ≤ 1048576) : SlV tabP B M.length M v cs := by
  obtain ⟨vs, ⟨A, n, c, rfl, hvn, hA⟩, h2, h3⟩ := h
  rcases hA with ⟨rfl, rfl, rfl⟩ | ⟨id, t, rfl, hid, hr⟩
  · exact ⟨none, 0, 0, rfl, by omega, fun _ => rfl, by omega, fun h => by omega⟩
  · refine ⟨_, n, c, rfl, by omega, (fun h => by cases h), by omega, fun _ => ⟨id, 0, rfl, hid, (List.getElem?_eq_some_iff.1 hr).1, by simp [rowEsz, hr], fun i hi => ?_⟩⟩
    obtain ⟨jd, a, b, c, d⟩ := h3 i (by omega)
    refine ⟨[el vs i], ⟨_, rfl, ?_⟩, cl_cons.2 ⟨?_, cl_nil⟩⟩
    · rw [a]
      exact (rowI_rd c (hl _ (el_mem (by omega)))).wide b (by have := (List.getElem?_eq_some_iff.1 c).1; omega)
    · have : vs[i]? = some (el vs i) := el_some (by omega)
      simp [cellAt, hr, cellsL_valR, this]
theorem el_snoc_lt {α : Type} [Inhabited α] {l : List α} {a : α} {k : Nat} (h : k < l.length) : el (l ++ [a]) k = el l k := el_append_left h
theorem el_snoc_eq {α : Type} [Inhabited α] {l : List α} {a : α} : el (l ++ [a]) l.length = a := by rw [el_append_right (Nat.le_refl _), Nat.sub_self]; rfl
/-- One list more. -/
theorem LLv.push {B b : Nat} {M1 : Mem} {S : St} {v x : Value} {cs : List (List Int)} {c : List Int} {K : Value → Mem → Prop} (h : LLv B M1 v cs) (hb : b ≤ B) (hB : B ≤ M1.length) (hM : S.M = M1 ++ [Slot.live (rowI c)] ++ [Slot.live ⟨[.slice (some ⟨M1.length, 0, none⟩) c.length c.length], true, true, 24, 1⟩]) (hx : x = .slice (some ⟨M1.length + 1, 0, none⟩) 1 1) (hn : cs.length ≤ 1048576)
    (hK : ∀ v' M', LLv B M' v' (cs ++ [c]) → Same B M1 M' → (∀ (i : Nat) s, Apart v i → M1[i]? = some s → M'[i]? = some s ∧ Apart v' i) → K v' M') : appendK Tryz.prog b S K 22 22 v x := by
  obtain ⟨vs, h1, h2, h3⟩ := h
  subst hx
  have hkp : Keeps M1 S.M := by rw [hM, List.append_assoc]; exact keeps_app _
  have hap : ∀ id, M1.length ≤ id → Apart v id := fun id hi => h1.apart hi
  refine (h1.keeps hkp).append2 (P := Tryz.prog) (by_ := 24) (a := .slice (some ⟨M1.length, 0, none⟩) c.length c.length) hb (by rw [hM]; simp; omega) (by omega) (by simp) (by kernel_rfl) ?_ (by simp [valR]; rfl) (by omega) (by unfold maxLen; omega) fun v' M' a b d => ?_
  · rw [hM]
    have e : (M1 ++ [Slot.live (rowI c)] ++ [Slot.live ⟨[.slice (some ⟨M1.length, 0, none⟩) c.length c.length], true, true, 24, 1⟩])[M1.length + 1]? = some (Slot.live ⟨[.slice (some ⟨M1.length, 0, none⟩) c.length c.length], true, true, 24, 1⟩) := by simp
    simp [srcOf, cellsAt, valR]
  · refine hK v' M' ⟨vs ++ [.slice (some ⟨M1.length, 0, none⟩) c.length c.length], a, by simp [h2], fun k hk => ?_⟩ ⟨Nat.le_trans hkp.len b.1, fun i s hi hs => b.2 i s hi (hkp.get hs)⟩ fun i s hv hs => d i s hv (hkp.get hs)
    simp at hk
    by_cases hlt : k < cs.length
    · obtain ⟨id, e1, e2, e3, e4⟩ := h3 k hlt
      obtain ⟨f1, f2⟩ := d id _ e4 (hkp.get e3)
      rw [el_snoc_lt (by omega), el_snoc_lt (by omega)]
      exact ⟨id, e1, e2, f1, f2⟩
    · obtain rfl : k = cs.length := by omega
      have hr : S.M[M1.length]? = some (.live (rowI c)) := by rw [hM]; simp
      obtain ⟨f1, f2⟩ := d M1.length _ (hap _ (Nat.le_refl _)) hr
      rw [el_snoc_eq, show cs.length = vs.length from h2.symm, el_snoc_eq]
      exact ⟨M1.length, rfl, hB, f1, f2⟩
end Go.Proofs.YtimijeeihicohaaGreat

namespace Go.Proofs.YtimijeeihicohaaGreat
open Go.RowKit
set_option linter.unusedVariables false
set_option linter.unusedSimpArgs false
set_option maxRecDepth 100000
attribute [local simp] List.getElem?_cons_zero
attribute [local irreducible] awCond awCall awLoop awDraw ow retQ retC resQ Keeps
theorem LLv.set_lt {B : Nat} {M : Mem} {v : Value} {cs : List (List Int)} {i : Nat} {s : Slot} (h : LLv B M v cs) (hi : i < B) : LLv B (M.set i s) v cs := by
  obtain ⟨vs, h1, h2, h3⟩ := h
  refine ⟨vs, h1.set_ne hi, h2, fun k hk' => ?_⟩
  obtain ⟨id, a, b, c, d⟩ := h3 k hk'
  exact ⟨id, a, b, by rw [List.getElem?_set_ne (by omega)]; exact c, d⟩
theorem LLv.one {B : Nat} {M : Mem} {v : Value} {cs : List (List Int)} (h : LLv B M v cs) : ∃ A n c, v = .slice A n c := by
  obtain ⟨vs, ⟨A, n, c, rfl, -⟩, -⟩ := h
  exact ⟨A, n, c, rfl⟩
theorem fill1S {z : Value} {a : Option Addr} {n c : Nat} : Instr.fill (fun i => some (i, 1)) (zrow [z] 1).toArray [(0, .slice a n c)] = some #[.slice a n c] := by rfl
theorem startState_i {M : Mem} {lo hi : Nat} {us : List Value} {p : Patch} (h : patchP.rd lo hi M p us) (hx : ∀ y, y ∈ p.nodes → NodeOk p y) (hn24 : p.nodes.length ≤ 24) :
    Ctr Tryz.prog M.length 149 [.agg us.toArray] M fun r M' => ∃ v, r = .agg #[v] ∧ LLv M.length M' v (p.nodes.map startV) ∧ Keeps M M' := by
  obtain ⟨A1, n1, c1, A2, n2, c2, A3, n3, c3, rfl⟩ := patch_isV h
  obtain ⟨u1, u2, u3, e, hu1, hu2, hu3⟩ := h
  simp only [List.cons.injEq, and_true, true_and] at e
  obtain ⟨rfl, rfl, rfl⟩ := e
  obtain ⟨B2, m2, d2, e2, q1, q2, q3⟩ := hu2
  injection e2 with e2a e2b e2c
  subst e2a; subst e2b; subst e2c
  have hnl := q3.1
  first | (refine ctr_fn Tryz.func149 rfl Tryz.ntmps149 Tryz.results149 rfl rfl (by simp) ?_) | (refine ctr_fnC Tryz.func149 rfl Tryz.ntmps149 Tryz.results149 rfl (by simp) ?_)
  simp
  refine awLoop_T (fun q T M1 => ∃ (k : Nat) (v : Value), k + q = n2 ∧ Keeps M M1 ∧ M.length + 3 ≤ M1.length ∧ M1[M.length + 1]? = some (.live ⟨[.slice none 0 0], true, true, 209, 1⟩) ∧ M1[M.length + 2]? = some (.live ⟨[v], true, true, 209, 1⟩) ∧ LLv (M.length + 3) M1 v ((p.nodes.take k).map startV) ∧ look T 10 = some (iv k) ∧ look T 9 = some (iv n2) ∧ look T 8 = some (.slice A2 n2 c2) ∧ look T 3 = some (.pointer (some ⟨M.length + 2, 0, none⟩)) ∧ look T 2 = some (.pointer (some ⟨M.length + 1, 0, none⟩))) n2
    ⟨0, .slice none 0 0, by omega, keeps_app _, by simp, by simp, by simp, by simpa using LLv.nil, by simp, by simp, by simp, by simp, by simp⟩ ?_
  rintro q T M1 ⟨k, v, hq, k1, l1, r1, r2, hL, t10, t9, t8, t3, t2⟩
  by_cases hlt : k < n2
  · obtain ⟨id, off, us, rfl, he, hrd, hc⟩ := q3.at_ hlt
    obtain ⟨A, n, c, rfl, hu⟩ := node_box hrd
    have cN := cellsAt_keeps k1 (cellsAt_of (n := 4) hc rfl (by omega))
    have eN := rowEsz_keeps k1 he
    have hrd1 := nodeP.keeps hrd k1
    simp (disch := omega) [t10, t9, t8, t3, t2, hlt, cN, eN, wrap_in]
    obtain ⟨Mb, hMb⟩ : ∃ Mb : Mem, Mb = M1 ++ [Slot.live ⟨[iv (el p.nodes k).k, iv (el p.nodes k).a, iv (el p.nodes k).b, .slice A n c], true, true, 198, 4⟩] := ⟨_, rfl⟩
    have kb : Keeps M1 Mb := by rw [hMb]; exact keeps_app _
    have lb : Mb.length = M1.length + 1 := by rw [hMb]; simp
    have cb : cellsAt Mb M1.length 0 4 = some [iv (el p.nodes k).k, iv (el p.nodes k).a, iv (el p.nodes k).b, .slice A n c] := by rw [hMb]; simp
    have cv : cellAt Mb (M.length + 2) 0 = some v := by simp [cellAt, kb.get r2]
    rw [← hMb]
    clear hMb
    replace hrd1 := nodeP.keeps hrd1 kb
    refine awDraw_D 5 [[],[0],[],[2],[3,2],[1,0,4,3,2],[0,1,2,3,4,5],[6,0,1,2,3,4,5]] (by kernel_rfl) (by decide +kernel) ?_
    simp (disch := omega) [t3, cb, cv]
    refine awCall_det' (d := true) (start_x (p := p) hrd1 (hx _ (el_mem (by omega)))) (by omega) ?_
    simp (disch := omega) [fill1S]
    refine LLv.push (c := startV (el p.nodes k)) (hL.keeps kb) (by omega) (by omega) (by simp) rfl (by simp; omega) fun v' M2 hL2 hs2 _ => ?_
    have k2 : Keeps M M2 := hs2.keeps (k1.trans kb) (by omega)
    have r12 := hs2.2 _ _ (by omega) (kb.get r1)
    have r22 := hs2.2 _ _ (by omega) (kb.get r2)
    have l2 := hs2.1
    obtain ⟨A', n', c', rfl⟩ := hL2.one
    simp (disch := omega) [t3]
    rw [put_whole (vs := [.slice A' n' c']) r22 (by omega) rfl (by simp), ow_some]
    have lt2 := (List.getElem?_eq_some_iff.1 r22).1
    try simp (disch := omega) [t10, t9, t8, t3, t2, wrap_in]
    refine lpI (q - 1) (by omega) ⟨k + 1, _, by omega, keeps_set k2 (by omega), by simp; omega, by rw [List.getElem?_set_ne (by omega)]; exact r12, List.getElem?_set_self lt2, ?_, by simp, by simp [t9], by simp [t8], by simp [t3], by simp [t2]⟩
    rw [take_el (by omega), List.map_append]
    exact hL2.set_lt (by omega)
  · obtain rfl : k = n2 := by omega
    have cv : cellsAt M1 (M.length + 2) 0 1 = some [v] := by simp [cellsAt, r2]
    rw [List.take_of_length_le (by omega)] at hL
    obtain ⟨A', n', c', rfl⟩ := hL.one
    simp (disch := omega) [t10, t9, t8, t3, t2, cv]
    rw [put_whole (vs := [.slice A' n' c']) r1 (by omega) rfl (by simp), ow_some]
    have lt2 := (List.getElem?_eq_some_iff.1 r1).1
    have c2 : cellsAt (M1.set (M.length + 1) (.live ⟨[.slice A' n' c'], true, true, 209, 1⟩)) (M.length + 1) 0 1 = some [.slice A' n' c'] := by simp [cellsAt, List.getElem?_set_self lt2]
    simp [c2, t2]
    exact ⟨(hL.set_lt (by omega)).low (by omega), keeps_set k1 (by omega)⟩
theorem clones_i {M : Mem} {lo hi : Nat} {u : Value} {cs : List (List Int)} (h : SlV tabP lo hi M u cs) (hl : ∀ c, c ∈ cs → c.length ≤ 1048576) (hn : cs.length ≤ 1048576) :
    Ctr Tryz.prog M.length 193 [u] M fun r M' => LLv M.length M' r cs ∧ Keeps M M' := by
  obtain ⟨A, n, c, rfl, h1, h2, h3⟩ := h
  have hnl := h3.1
  first | (refine ctr_fn Tryz.func193 rfl Tryz.ntmps193 Tryz.results193 rfl rfl (by simp) ?_) | (refine ctr_fnC Tryz.func193 rfl Tryz.ntmps193 Tryz.results193 rfl (by simp) ?_)
  simp
  refine awLoop_T (fun q T M1 => ∃ (k : Nat) (v : Value), k + q = n ∧ Keeps M M1 ∧ LLv M.length M1 v (cs.take k) ∧ look T 9 = some (iv k) ∧ look T 8 = some (iv n) ∧ look T 7 = some (.slice A n c) ∧ look T 3 = some v) n
    ⟨0, _, by omega, keeps_app _, ⟨[], ⟨_, 0, 0, rfl, rfl, .inr ⟨M.length, true, rfl, Nat.le_refl _, by simp [cellsL_nil]⟩⟩, rfl, fun k hk => by simp at hk⟩, by simp, by simp, by simp, by simp⟩ ?_
  rintro q T M1 ⟨k, v, hq, k1, hL, t9, t8, t7, t3⟩
  by_cases hlt : k < n
  · obtain ⟨id, off, us, rfl, he, ⟨u, rfl, hu⟩, hc⟩ := h3.at_ hlt
    have c1 := cellAt_keeps k1 (cl_cons.1 hc).1
    simp only [Nat.mul_one] at c1
    have e1 := rowEsz_keeps k1 he
    simp (disch := omega) [t9, t8, t7, t3, hlt, c1, e1, wrap_in]
    refine awCall_det' (clone_x (hu.keeps k1) (hl _ (el_mem (by omega)))) (by have := k1.len; omega) ?_
    simp (disch := omega) [t9, t8, t7, t3, fill1S]
    refine LLv.push (c := el cs k) hL (Nat.le_refl _) k1.len (by simp) rfl (by simp; omega) fun v' M2 hL2 hs2 _ => ?_
    have k2 : Keeps M M2 := hs2.keeps k1 (Nat.le_refl _)
    try simp (disch := omega) [t9, t8, t7, t3, wrap_in]
    refine lpI (q - 1) (by omega) ⟨k + 1, v', by omega, k2, ?_, by simp, by simp [t8], by simp [t7], by simp⟩
    rw [take_el (by omega)]
    exact hL2
  · obtain rfl : k = n := by omega
    rw [List.take_of_length_le (by omega)] at hL
    simp (disch := omega) [t9, t8, t7, t3]
    exact ⟨hL, k1⟩
end Go.Proofs.YtimijeeihicohaaGreat

namespace Go.Proofs.YtimijeeihicohaaGreat
open Go.RowKit
set_option linter.unusedVariables false
set_option linter.unusedSimpArgs false
set_option maxRecDepth 100000
attribute [local simp] List.getElem?_cons_zero
attribute [local irreducible] awCond awCall awLoop awDraw ow retQ retC resQ Keeps
theorem order_x {M : Mem} {lo hi : Nat} {us : List Value} {x : Patch} (h : patchP.rd lo hi M x us) (hx : ∀ y, y ∈ x.nodes → idxB x.nodes.length y.from_ = true) (hn24 : x.nodes.length ≤ 24) :
    Det Tryz.prog M.length 172 [.agg us.toArray] M (.slice (some ⟨M.length, 0, none⟩) (ordL x.nodes).length (ordL x.nodes).length) (M ++ [.live (rowI (ordL x.nodes))]) :=
  Ctr.compact (rowI_plain _) ((order_i h hx hn24).mono fun v M' ⟨h1, h2, h3⟩ => ⟨h1.newRow h3, h2⟩)
theorem play_build {i : Int} {q1 q2 q3 w1 w2 w3 : Option Addr} {a1 b1 a2 b2 a3 b3 c1 d1 c2 d2 c3 d3 : Nat} : Instr.fill (fun x => [(0, 4), (4, 1), (5, 1), (6, 1)][x]?)
    #[Value.int IntKind.i64 0, Value.slice none 0 0, Value.slice none 0 0, Value.slice none 0 0, Value.slice none 0 0, Value.slice none 0 0, Value.slice none 0 0]
    [(0, Value.agg #[iv i, .slice q1 a1 b1, .slice q2 a2 b2, .slice q3 a3 b3]), (1, .slice w1 c1 d1), (2, .slice w2 c2 d2), (3, .slice w3 c3 d3)] = some #[iv i, .slice q1 a1 b1, .slice q2 a2 b2, .slice q3 a3 b3, .slice w1 c1 d1, .slice w2 c2 d2, .slice w3 c3 d3] := by kernel_rfl
/-- What a player holds: the patch, its order, the values, the state. -/
structure Play (Y : Nat → Prop) (B : Nat) (M : Mem) (us : List Value) (p : Patch) (PB oid vid cid : Nat) (vals : List Int) (vs : List Value) (cs : List (List Int)) : Prop where
  low : B ≤ PB ∧ B ≤ oid ∧ B ≤ vid ∧ B ≤ cid
  box : ∃ c t1 t2 : Nat, ∃ tt : Bool, M[PB]? = some (.live ⟨us ++ [.slice (some ⟨oid, 0, none⟩) p.nodes.length t1, .slice (some ⟨vid, 0, none⟩) p.nodes.length t2, .slice (some ⟨cid, 0, none⟩) p.nodes.length c], true, tt, 240, 7⟩)
  ord : M[oid]? = some (.live (rowI (ordL p.nodes)))
  val : ∃ e, M[vid]? = some (.live ⟨cellsL intR vals, true, true, e, 1⟩)
  cel : ∃ t, M[cid]? = some (.live ⟨vs, true, t, 24, 1⟩)
  len : vals.length = p.nodes.length ∧ vs.length = p.nodes.length ∧ cs.length = p.nodes.length
  elt : ∀ k, k < p.nodes.length → ∃ id, el vs k = .slice (some ⟨id, 0, none⟩) (el cs k).length (el cs k).length ∧ M[id]? = some (.live (rowI (el cs k))) ∧ ¬ Y id
  ne : vid ≠ cid ∧ PB ≠ vid ∧ PB ≠ cid ∧ oid ≠ vid ∧ oid ≠ cid ∧ Y vid ∧ Y cid
set_option maxHeartbeats 1000000 in
theorem playerOf_i {M : Mem} {lo hi lo' hi' : Nat} {us : List Value} {sv : Value} {p : Patch} {cs : List (List Int)} (h : patchP.rd lo hi M p us) (hs : SlV tabP lo' hi' M sv cs) (hf : formB p = true) (ho : (ordL p.nodes).length = p.nodes.length) (hc : okCs p cs) (h0 : 0 < p.nodes.length) :
    Ctr Tryz.prog M.length 148 [.agg us.toArray, .agg #[sv]] M fun r M' => ∃ PB oid vid cid vs, r = .pointer (some ⟨PB, 0, none⟩) ∧ Play (fun i => i = vid ∨ i = cid) M.length M' us p PB oid vid cid (List.replicate p.nodes.length 0) vs cs ∧ Keeps M M' := by
  obtain ⟨hn24, hidx, hnF⟩ := formB_nodes hf
  have hok : ∀ y, y ∈ p.nodes → NodeOk p y := fun y hy => nodeF_ok (hnF y hy)
  have hcl : ∀ c, c ∈ cs → c.length ≤ 1048576 := fun c hc' => by
    obtain ⟨k, hk, rfl⟩ := List.getElem_of_mem hc'
    rw [el_eq hk, hc.2 k (by rw [← hc.1]; exact hk)]
    have hy := hok _ (el_mem (l := p.nodes) (i := k) (by rw [← hc.1]; exact hk))
    unfold startV
    split
    · have := hy.del (by assumption); simp; omega
    · split
      · have := hy.comb (by assumption); simp; omega
      · split
        · simp
        · split <;> simp
  have hcn := hc.1
  obtain ⟨A1, n1, c1, A2, n2, c2, A3, n3, c3, rfl⟩ := patch_isV h
  have h' := h
  obtain ⟨u1, u2, u3, e, hu1, hu2, hu3⟩ := h'
  simp only [List.cons.injEq, and_true, true_and] at e
  obtain ⟨rfl, rfl, rfl⟩ := e
  obtain ⟨B2, m2, d2, e2, q1, q2, q3⟩ := hu2
  injection e2 with e2a e2b e2c
  subst e2a; subst e2b; subst e2c
  have hnl := q3.1
  obtain ⟨As, ns, cs', rfl, g1, g2, g3⟩ := id hs
  first | (refine ctr_fn Tryz.func148 rfl Tryz.ntmps148 Tryz.results148 rfl rfl (by simp) ?_) | (refine ctr_fnC Tryz.func148 rfl Tryz.ntmps148 Tryz.results148 rfl (by simp) ?_)
  simp
  obtain ⟨M0, hM0⟩ : ∃ M0 : Mem, M0 = M ++ [Slot.live ⟨[iv p.inp, .slice A1 n1 c1, .slice A2 n2 c2, .slice A3 n3 c3], true, true, 39, 4⟩, .live ⟨[.slice As ns cs'], true, true, 209, 1⟩] := ⟨_, rfl⟩
  have k0 : Keeps M M0 := by rw [hM0]; exact keeps_app _
  have l0 : M0.length = M.length + 2 := by rw [hM0]; simp
  have b4 : cellsAt M0 M.length 0 4 = some [iv p.inp, .slice A1 n1 c1, .slice A2 n2 c2, .slice A3 n3 c3] := by rw [hM0]; simp
  have b2 : cellAt M0 M.length 2 = some (.slice A2 n2 c2) := by rw [hM0]; simp
  have bs : cellAt M0 (M.length + 1) 0 = some (.slice As ns cs') := by rw [hM0]; simp
  rw [← hM0]
  clear hM0
  refine awDraw_K (fun _ => []) (fun k v M' => match k with
    | 0 => v = .agg #[iv p.inp, .slice A1 n1 c1, .slice A2 n2 c2, .slice A3 n3 c3]
    | 1 => v = .agg #[iv p.inp, .slice A1 n1 c1, .slice A2 n2 c2, .slice A3 n3 c3]
    | 2 => ∃ id, v = .slice (some ⟨id, 0, none⟩) n2 n2 ∧ M.length ≤ id ∧ M'[id]? = some (.live (rowI (ordL p.nodes)))
    | 3 => v = .pointer (some ⟨M.length, 2, none⟩)
    | 4 => v = .slice A2 n2 c2
    | 5 => v = iv n2
    | 6 => ∃ id, v = .slice (some ⟨id, 0, none⟩) n2 n2 ∧ M.length ≤ id ∧ M'[id]? = some (.live ⟨cellsL intR (List.replicate n2 0), true, true, 2, 1⟩)
    | 7 => v = .pointer (some ⟨M.length + 1, 0, none⟩)
    | 8 => v = .slice As ns cs'
    | 9 => LLv M.length M' v cs
    | 10 => ∃ oid vid cv, v = .agg #[iv p.inp, .slice A1 n1 c1, .slice A2 n2 c2, .slice A3 n3 c3, .slice (some ⟨oid, 0, none⟩) n2 n2, .slice (some ⟨vid, 0, none⟩) n2 n2, cv] ∧ M.length ≤ oid ∧ M'[oid]? = some (.live (rowI (ordL p.nodes))) ∧ M.length ≤ vid ∧ M'[vid]? = some (.live ⟨cellsL intR (List.replicate n2 0), true, true, 2, 1⟩) ∧ LLv M.length M' cv cs
    | 11 => ∃ PB oid vid cv, v = .pointer (some ⟨PB, 0, none⟩) ∧ M.length ≤ PB ∧ M'[PB]? = some (.live ⟨[iv p.inp, .slice A1 n1 c1, .slice A2 n2 c2, .slice A3 n3 c3, .slice (some ⟨oid, 0, none⟩) n2 n2, .slice (some ⟨vid, 0, none⟩) n2 n2, cv], true, true, 240, 7⟩) ∧ M.length ≤ oid ∧ M'[oid]? = some (.live (rowI (ordL p.nodes))) ∧ M.length ≤ vid ∧ M'[vid]? = some (.live ⟨cellsL intR (List.replicate n2 0), true, true, 2, 1⟩) ∧ LLv M.length M' cv cs
    | 12 => ∃ PB oid vid cv, v = .pointer (some ⟨PB, 0, none⟩) ∧ M.length ≤ PB ∧ M'[PB]? = some (.live ⟨[iv p.inp, .slice A1 n1 c1, .slice A2 n2 c2, .slice A3 n3 c3, .slice (some ⟨oid, 0, none⟩) n2 n2, .slice (some ⟨vid, 0, none⟩) n2 n2, cv], true, true, 240, 7⟩) ∧ M.length ≤ oid ∧ M'[oid]? = some (.live (rowI (ordL p.nodes))) ∧ M.length ≤ vid ∧ M'[vid]? = some (.live ⟨cellsL intR (List.replicate n2 0), true, true, 2, 1⟩) ∧ LLv M.length M' cv cs
    | _ => True) ?_ (by kernel_rfl) (by decide +kernel) (by decide +kernel) ?_ ?_
  · intro k v M1 M2 h hk
    rcases k with _ | _ | _ | _ | _ | _ | _ | _ | _ | _ | _ | _ | _ | k
    · exact h
    · exact h
    · obtain ⟨id, a, b, c⟩ := h
      exact ⟨id, a, b, hk.get c⟩
    · exact h
    · exact h
    · exact h
    · obtain ⟨id, a, b, c⟩ := h
      exact ⟨id, a, b, hk.get c⟩
    · exact h
    · exact h
    · exact h.keeps hk
    · obtain ⟨oid, vid, cv, a, b, c, d, e, f⟩ := h
      exact ⟨oid, vid, cv, a, b, hk.get c, d, hk.get e, f.keeps hk⟩
    · obtain ⟨PB, oid, vid, cv, a, b', b'', b, c, d, e, f⟩ := h
      exact ⟨PB, oid, vid, cv, a, b', hk.get b'', b, hk.get c, d, hk.get e, f.keeps hk⟩
    · obtain ⟨PB, oid, vid, cv, a, b', b'', b, c, d, e, f⟩ := h
      exact ⟨PB, oid, vid, cv, a, b', hk.get b'', b, hk.get c, d, hk.get e, f.keeps hk⟩
    · trivial
  · intro X k o T M1 K hC hX hk hp hf ho' hK
    have kk1 := k0.trans hk
    have lk : M0.length ≤ M1.length := hk.len
    have f2 := hf 2 (by decide +kernel)
    have f3 := hf 3 (by decide +kernel)
    simp at f2 f3
    rcases k with _ | _ | _ | _ | _ | _ | _ | _ | _ | _ | _ | _ | _ | k
    · simp at ho'; subst ho'
      simp [f2, cellsAt_keeps hk b4]
      exact hK _ _ (.inl (Keeps.refl _)) rfl
    · simp at ho'; subst ho'
      simp [f2, cellsAt_keeps hk b4]
      exact hK _ _ (.inl (Keeps.refl _)) rfl
    · obtain ⟨v, d, q⟩ := hp 1 6 (by decide +kernel) rfl
      rw [q (by simp)] at d
      simp at ho'; subst ho'
      simp [d]
      refine awCall_det' (order_x (patchP.keeps h kk1) hidx hn24) (by omega) ?_
      refine hK _ _ (.inl (keeps_app _)) ⟨M1.length, by rw [ho, hnl], by omega, by simp⟩
    · simp at ho'; subst ho'
      simp [f2]
      exact hK _ _ (.inl (Keeps.refl _)) rfl
    · obtain ⟨v, d, q⟩ := hp 3 8 (by decide +kernel) rfl
      rw [q (by simp)] at d
      simp at ho'; subst ho'
      simp [d, cellAt_keeps hk b2]
      exact hK _ _ (.inl (Keeps.refl _)) rfl
    · obtain ⟨v, d, q⟩ := hp 4 9 (by decide +kernel) rfl
      rw [q (by simp)] at d
      simp at ho'; subst ho'
      simp [d]
      have szN : Det Tryz.prog M1.length 192 [.slice A2 n2 c2] M1 (iv n2) M1 := by
        first | (refine det_fn Tryz.func192 rfl Tryz.ntmps192 Tryz.results192 rfl rfl rfl (by simp) ?_) | (refine det_fnC Tryz.func192 rfl Tryz.ntmps192 Tryz.results192 rfl rfl (by simp) ?_)
        simp [Keeps.refl]
      refine awCall_det' szN (by omega) ?_
      exact hK _ _ (.inl (Keeps.refl _)) rfl
    · obtain ⟨v, d, q⟩ := hp 5 10 (by decide +kernel) rfl
      rw [q (by simp)] at d
      simp at ho'; subst ho'
      simp [d]
      refine awCall_det' (zeros_i n2 (by omega)) (by omega) ?_
      exact hK _ _ (.inl (keeps_app _)) ⟨M1.length, rfl, by omega, by simp⟩
    · simp at ho'; subst ho'
      simp [f3]
      exact hK _ _ (.inl (Keeps.refl _)) rfl
    · obtain ⟨v, d, q⟩ := hp 7 12 (by decide +kernel) rfl
      rw [q (by simp)] at d
      simp at ho'; subst ho'
      simp [d, cellAt_keeps hk bs]
      exact hK _ _ (.inl (Keeps.refl _)) rfl
    · obtain ⟨v, d, q⟩ := hp 8 13 (by decide +kernel) rfl
      rw [q (by simp)] at d
      simp at ho'; subst ho'
      simp [d]
      refine awCall_ctr ((clones_i (hs.keeps kk1) hcl (by omega)).weaken (by omega)) ?_
      rintro r M2 ⟨a, b⟩
      exact hK _ _ (.inl b) (a.low (by omega))
    · obtain ⟨v5, d5, q5⟩ := hp 0 5 (by decide +kernel) rfl
      obtain ⟨v7, d7, q7⟩ := hp 2 7 (by decide +kernel) rfl
      obtain ⟨v11, d11, q11⟩ := hp 6 11 (by decide +kernel) rfl
      obtain ⟨v14, d14, q14⟩ := hp 9 14 (by decide +kernel) rfl
      rw [q5 (by simp)] at d5
      obtain ⟨oid, rfl, o1, o2⟩ := q7 (by simp)
      obtain ⟨vid, rfl, w1, w2⟩ := q11 (by simp)
      have hL := q14 (by simp)
      obtain ⟨Ac, nc, cc, rfl⟩ := LLv.one hL
      simp at ho'; subst ho'
      simp [d5, d7, d11, d14, play_build]
      exact hK _ _ (.inl (Keeps.refl _)) ⟨oid, vid, _, rfl, o1, o2, w1, w2, hL⟩
    · obtain ⟨v, d, q⟩ := hp 10 15 (by decide +kernel) rfl
      obtain ⟨oid, vid, cv, rfl, a1, a2, a3, a4, a5⟩ := q (by simp)
      simp at ho'; subst ho'
      simp [d]
      refine hK _ _ (.inl (keeps_app _)) ⟨M1.length, oid, vid, cv, rfl, by omega, by simp, a1, (keeps_app _).get a2, a3, (keeps_app _).get a4, LLv.keeps a5 (keeps_app _)⟩
    · obtain ⟨v, d, q⟩ := hp 11 16 (by decide +kernel) rfl
      have q := q (by simp)
      simp at ho'; subst ho'
      simp [d]
      exact hK _ _ (.inl (Keeps.refl _)) q
    · simp at ho'
  · intro T M1 hk hp hf
    have kk_ : Keeps M0 M1 → Keeps M M1 := fun h => k0.trans h
    obtain ⟨v, d, q⟩ := hp 12 4 (by simp) rfl
    obtain ⟨PB, oid, vid, cv, rfl, a1, a2, a3, a4, a5, a6, a7⟩ := q (by simp)
    simp [d]
    obtain ⟨vs, ⟨A, n, c, rfl, e1, e2⟩, e3, e4⟩ := a7
    subst e1
    rcases e2 with ⟨-, e2, -⟩ | ⟨cid, t, rfl, g1, g2⟩
    · omega
    · rw [cellsL_valR] at g2
      have hv : vs.length = n2 := by omega
      rw [hv] at a2
      refine ⟨⟨oid, vid, cid, vs, ⟨⟨a1, a3, a5, g1⟩, ⟨_, _, _, _, by rw [hnl]; exact a2⟩, a4, ⟨_, by rw [hnl]; exact a6⟩, ⟨t, g2⟩, ⟨by simp, by omega, by omega⟩, fun k hk => ?_, ?_⟩⟩, kk_ hk⟩
      · obtain ⟨id, f1, f2, f3, f4⟩ := e4 k (by omega)
        refine ⟨id, f1, f3, fun e => ?_⟩
        rcases e with e | e
        case inr => exact f4 _ _ _ _ rfl rfl e
        rw [e, a6] at f3
        simp [rowI] at f3
      · refine ⟨fun e => ?_, fun e => ?_, fun e => ?_, fun e => ?_, fun e => ?_, .inl rfl, .inr rfl⟩
        · rw [e, g2] at a6
          simp [rowI] at a6
        · rw [e, a6] at a2
          simp [rowI] at a2
        · rw [e, g2] at a2
          simp [rowI] at a2
        · rw [e, a6] at a4
          simp [rowI] at a4
        · rw [e, g2] at a4
          simp [rowI] at a4
end Go.Proofs.YtimijeeihicohaaGreat

namespace Go.Proofs.YtimijeeihicohaaGreat
open Go.RowKit
set_option linter.unusedVariables false
set_option linter.unusedSimpArgs false
set_option maxRecDepth 100000
attribute [local simp] List.getElem?_cons_zero
attribute [local irreducible] awCond awCall awLoop awDraw ow retQ retC resQ Keeps
def Off (X : Nat → Prop) (M M' : Mem) : Prop := M.length ≤ M'.length ∧ ∀ (i : Nat) s, ¬ X i → M[i]? = some s → M'[i]? = some s
theorem Off.refl (X : Nat → Prop) (M : Mem) : Off X M M := ⟨Nat.le_refl _, fun i s _ h => h⟩
theorem Off.trans {X : Nat → Prop} {M1 M2 M3 : Mem} (h : Off X M1 M2) (h' : Off X M2 M3) : Off X M1 M3 := ⟨Nat.le_trans h.1 h'.1, fun i s hi hs => h'.2 i s hi (h.2 i s hi hs)⟩
theorem Keeps.off {M M' : Mem} (X : Nat → Prop) (h : Keeps M M') : Off X M M' := ⟨h.len, fun i s _ hs => h.get hs⟩
theorem Off.agree {X : Nat → Prop} {M M' : Mem} {lo hi : Nat} (h : Off X M M') (hx : ∀ i, lo ≤ i → i < hi → ¬ X i) : Agree lo hi M M' := fun i s a b hs => h.2 i s (hx i a b) hs
theorem Off.mono {X Y : Nat → Prop} {M M' : Mem} (h : Off X M M') (hy : ∀ i, X i → Y i) : Off Y M M' := ⟨h.1, fun i s hi hs => h.2 i s (fun hx => hi (hy i hx)) hs⟩
def XP (vid cid : Nat) : Nat → Prop := fun i => i = vid ∨ i = cid
section
variable {B b : Nat} {M M' : Mem} {us : List Value} {p : Patch} {PB oid vid cid : Nat} {vals : List Int} {vs : List Value} {cs : List (List Int)} {Y : Nat → Prop}
theorem Play.keeps (h : Play Y B M us p PB oid vid cid vals vs cs) (hk : Keeps M M') : Play Y B M' us p PB oid vid cid vals vs cs := by
  obtain ⟨low, ⟨c, t1, t2, tt, h1⟩, h2, ⟨e, h3⟩, ⟨t, h4⟩, h5, h6, h7⟩ := h
  refine ⟨low, ⟨c, t1, t2, tt, hk.get h1⟩, hk.get h2, ⟨e, hk.get h3⟩, ⟨t, hk.get h4⟩, h5, fun k hk' => ?_, h7⟩
  obtain ⟨id, a, b, c⟩ := h6 k hk'
  exact ⟨id, a, hk.get b, c⟩
theorem Play.putVal (h : Play Y B M us p PB oid vid cid vals vs cs) (hb : b ≤ B) {i : Nat} (hi : i < p.nodes.length) (y : Int) :
    ∃ M', putCells b M vid i [iv y] = some M' ∧ Play Y B M' us p PB oid vid cid (vals.set i y) vs cs ∧ Off (XP vid cid) M M' := by
  obtain ⟨low, ⟨c, t1, t2, tt, h1⟩, h2, ⟨e, h3⟩, ⟨t, h4⟩, h5, h6, h7⟩ := h
  have hp := put_rec (R := intR) (b := b) (a := y) (off := i) (i := i) h3 (by omega) (by omega) (by omega) rfl
  have hlt := (List.getElem?_eq_some_iff.1 h3).1
  refine ⟨_, hp, ⟨low, ⟨c, t1, t2, tt, by rw [List.getElem?_set_ne (by omega)]; exact h1⟩, by rw [List.getElem?_set_ne (by omega)]; exact h2, ⟨e, List.getElem?_set_self hlt⟩, ⟨t, by rw [List.getElem?_set_ne h7.1]; exact h4⟩, by rw [List.length_set]; exact h5, fun k hk' => ?_, h7⟩, by simp, fun j s hj hs => ?_⟩
  · obtain ⟨id, a, b, c⟩ := h6 k hk'
    exact ⟨id, a, by rw [List.getElem?_set_ne (fun e => c (by rw [← e]; exact h7.2.2.2.2.2.1))]; exact b, c⟩
  · rw [List.getElem?_set_ne (fun e => hj (.inl e.symm))]
    exact hs
theorem Play.putCel (h : Play Y B M us p PB oid vid cid vals vs cs) (hb : b ≤ B) {i id : Nat} {c : List Int} (hi : i < p.nodes.length) (hr : M[id]? = some (.live (rowI c))) (n1 : ¬ Y id) :
    ∃ M', putCells b M cid i [.slice (some ⟨id, 0, none⟩) c.length c.length] = some M' ∧ Play Y B M' us p PB oid vid cid vals (vs.set i (.slice (some ⟨id, 0, none⟩) c.length c.length)) (cs.set i c) ∧ Off (XP vid cid) M M' := by
  obtain ⟨low, ⟨cc, t1, t2, tt, h1⟩, h2, ⟨e, h3⟩, ⟨t, h4⟩, h5, h6, h7⟩ := h
  have h4' : M[cid]? = some (.live ⟨cellsL valR vs, true, t, 24, 1⟩) := by rw [cellsL_valR]; exact h4
  have hp := put_rec (R := valR) (b := b) (a := .slice (some ⟨id, 0, none⟩) c.length c.length) (off := i) (i := i) h4' (by omega) (by omega) (by omega) rfl
  have hlt := (List.getElem?_eq_some_iff.1 h4).1
  rw [cellsL_valR] at hp
  refine ⟨_, hp, ⟨low, ⟨cc, t1, t2, tt, by rw [List.getElem?_set_ne (by omega)]; exact h1⟩, by rw [List.getElem?_set_ne (by omega)]; exact h2, ⟨e, by rw [List.getElem?_set_ne (Ne.symm h7.1)]; exact h3⟩, ⟨t, List.getElem?_set_self hlt⟩, by rw [List.length_set, List.length_set]; exact h5, fun k hk' => ?_, h7⟩, by simp, fun j s hj hs => ?_⟩
  · by_cases e : i = k
    · subst e
      rw [el_set_same _ (by omega), el_set_same _ (by omega)]
      exact ⟨id, rfl, by rw [List.getElem?_set_ne (fun e => n1 (by rw [← e]; exact h7.2.2.2.2.2.2))]; exact hr, n1⟩
    · obtain ⟨id, a, b, c⟩ := h6 k hk'
      rw [el_set_other _ e, el_set_other _ e]
      exact ⟨id, a, by rw [List.getElem?_set_ne (fun e => c (by rw [← e]; exact h7.2.2.2.2.2.2))]; exact b, c⟩
  · rw [List.getElem?_set_ne (fun e => hj (.inr e.symm))]
    exact hs
theorem Play.cells {i : Int} {s1 s2 s3 : Value} (h : Play Y B M [iv i, s1, s2, s3] p PB oid vid cid vals vs cs) : cellAt M PB 1 = some s1 ∧ cellAt M PB 2 = some s2 ∧ cellAt M PB 3 = some s3 ∧ (∃ c, cellAt M PB 4 = some (.slice (some ⟨oid, 0, none⟩) p.nodes.length c)) ∧ (∃ c, cellAt M PB 5 = some (.slice (some ⟨vid, 0, none⟩) p.nodes.length c)) ∧ (∃ c, cellAt M PB 6 = some (.slice (some ⟨cid, 0, none⟩) p.nodes.length c)) ∧ cellAt M PB 0 = some (iv i) := by
  obtain ⟨c, t1, t2, tt, h1⟩ := h.box
  simp [cellAt, h1]
theorem Play.rows (h : Play Y B M us p PB oid vid cid vals vs cs) : rowEsz M oid = some 1 ∧ rowEsz M vid = some 1 ∧ rowEsz M cid = some 1 := by
  obtain ⟨e, h3⟩ := h.val
  obtain ⟨t, h4⟩ := h.cel
  simp [rowEsz, h.ord, h3, h4, rowI]
theorem Play.ordAt (h : Play Y B M us p PB oid vid cid vals vs cs) {q : Nat} (hq : q < (ordL p.nodes).length) : cellAt M oid q = some (iv (el (ordL p.nodes) q)) := by
  have := cellsL_get intR hq (show 0 < 1 by omega)
  simp [cellAt, h.ord, rowI]
  simpa [intR] using this
theorem Play.valsV (h : Play Y B M us p PB oid vid cid vals vs cs) (c : Nat) (hn : p.nodes.length ≤ 24) : SlV intP vid (vid + 1) M (.slice (some ⟨vid, 0, none⟩) p.nodes.length c) vals := by
  obtain ⟨e, h3⟩ := h.val
  have hl := h.len.1
  refine ⟨_, _, c, rfl, by omega, (fun h => by cases h), SlP.of_sl ⟨hl, fun _ => ⟨vid, 0, rfl, by simp [rowEsz, h3], fun j y hy => by simpa [cellAt, h3] using hy⟩⟩ fun a e _ => ?_⟩
  injection e with e
  subst e
  exact ⟨Nat.le_refl _, Nat.lt_succ_self _⟩
theorem Play.celAt (h : Play Y B M us p PB oid vid cid vals vs cs) {k : Nat} (hk : k < p.nodes.length) : ∃ id, cellAt M cid k = some (.slice (some ⟨id, 0, none⟩) (el cs k).length (el cs k).length) ∧ M[id]? = some (.live (rowI (el cs k))) ∧ ¬ Y id := by
  obtain ⟨t, h4⟩ := h.cel
  obtain ⟨id, a, b, c⟩ := h.elt k hk
  refine ⟨id, ?_, b, c⟩
  rw [← a]
  have hx : vs[k]? = some (el vs k) := el_some (by rw [h.len.2.1]; exact hk)
  simp [cellAt, h4, hx]
theorem Play.newY {Y' : Nat → Prop} (h : Play Y B M us p PB oid vid cid vals vs cs) (hY : ∀ i, Y' i → Y i ∨ M.length ≤ i) (h1 : Y' vid) (h2 : Y' cid) : Play Y' B M us p PB oid vid cid vals vs cs := by
  refine ⟨h.low, h.box, h.ord, h.val, h.cel, h.len, fun k hk => ?_, h.ne.1, h.ne.2.1, h.ne.2.2.1, h.ne.2.2.2.1, h.ne.2.2.2.2.1, h1, h2⟩
  obtain ⟨id, a, b, c⟩ := h.elt k hk
  refine ⟨id, a, b, fun hy => ?_⟩
  rcases hY id hy with h' | h'
  · exact c h'
  · have := (List.getElem?_eq_some_iff.1 b).1; omega
end
end Go.Proofs.YtimijeeihicohaaGreat
