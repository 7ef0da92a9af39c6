/- Parts of the proof, together: The state of a patch at the beginning; copies of states: the program's. A player: the program's. A player's rows: what a store changes. A frame, as the program plays it. No conditions. -/
import Derived.Test.YtimijeeihicohaaZzL16
namespace Go.Proofs.Ytimijeeihicohaa
open Go.RowKit
set_option linter.unusedVariables false
set_option linter.unusedSimpArgs false
set_option maxRecDepth 100000
attribute [local simp] List.getElem?_cons_zero
attribute [local irreducible] awCond awCall awLoop awDraw ow retQ retC resQ Keeps
theorem LLv.set_lt {B : Nat} {M : Mem} {v : Value} {cs : List (List Int)} {i : Nat} {s : Slot} (h : LLv B M v cs) (hi : i < B) : LLv B (M.set i s) v cs := by
  obtain ⟨vs, h1, h2, h3⟩ := h
  refine ⟨vs, h1.set_ne hi, h2, fun k hk' => ?_⟩
  obtain ⟨id, a, b, c, d⟩ := h3 k hk'
  exact ⟨id, a, b, by rw [List.getElem?_set_ne (by omega)]; exact c, d⟩
theorem LLv.one {B : Nat} {M : Mem} {v : Value} {cs : List (List Int)} (h : LLv B M v cs) : ∃ A n c, v = .slice A n c := by
  obtain ⟨vs, ⟨A, n, c, rfl, -⟩, -⟩ := h
  exact ⟨A, n, c, rfl⟩
theorem fill1S {z : Value} {a : Option Addr} {n c : Nat} : Instr.fill (fun i => some (i, 1)) (zrow [z] 1).toArray [(0, .slice a n c)] = some #[.slice a n c] := by rfl
theorem startState_i {M : Mem} {lo hi : Nat} {us : List Value} {p : Patch} (h : patchP.rd lo hi M p us) (hx : ∀ y, y ∈ p.nodes → NodeOk p y) (hn24 : p.nodes.length ≤ 24) :
    Ctr Try.prog M.length 115 [.agg us.toArray] M fun r M' => ∃ v, r = .agg #[v] ∧ LLv M.length M' v (p.nodes.map startV) ∧ Keeps M M' := by
  obtain ⟨A1, n1, c1, A2, n2, c2, A3, n3, c3, rfl⟩ := patch_isV h
  obtain ⟨u1, u2, u3, e, hu1, hu2, hu3⟩ := h
  simp only [List.cons.injEq, and_true, true_and] at e
  obtain ⟨rfl, rfl, rfl⟩ := e
  obtain ⟨B2, m2, d2, e2, q1, q2, q3⟩ := hu2
  injection e2 with e2a e2b e2c
  subst e2a; subst e2b; subst e2c
  have hnl := q3.1
  first | (refine ctr_fn Try.func115 rfl Try.ntmps115 Try.results115 rfl rfl (by simp) ?_) | (refine ctr_fnC Try.func115 rfl Try.ntmps115 Try.results115 rfl (by simp) ?_)
  simp
  refine awLoop_T (fun q T M1 => ∃ (k : Nat) (v : Value), k + q = n2 ∧ Keeps M M1 ∧ M.length + 3 ≤ M1.length ∧ M1[M.length + 1]? = some (.live ⟨[.slice none 0 0], true, true, 147, 1⟩) ∧ M1[M.length + 2]? = some (.live ⟨[v], true, true, 147, 1⟩) ∧ LLv (M.length + 3) M1 v ((p.nodes.take k).map startV) ∧ look T 10 = some (iv k) ∧ look T 9 = some (iv n2) ∧ look T 8 = some (.slice A2 n2 c2) ∧ look T 3 = some (.pointer (some ⟨M.length + 2, 0, none⟩)) ∧ look T 2 = some (.pointer (some ⟨M.length + 1, 0, none⟩))) n2
    ⟨0, .slice none 0 0, by omega, keeps_app _, by simp, by simp, by simp, by simpa using LLv.nil, by simp, by simp, by simp, by simp, by simp⟩ ?_
  rintro q T M1 ⟨k, v, hq, k1, l1, r1, r2, hL, t10, t9, t8, t3, t2⟩
  by_cases hlt : k < n2
  · obtain ⟨id, off, us, rfl, he, hrd, hc⟩ := q3.at_ hlt
    obtain ⟨A, n, c, rfl, hu⟩ := node_box hrd
    have cN := cellsAt_keeps k1 (cellsAt_of (n := 4) hc rfl (by omega))
    have eN := rowEsz_keeps k1 he
    have hrd1 := nodeP.keeps hrd k1
    simp (disch := omega) [t10, t9, t8, t3, t2, hlt, cN, eN, wrap_in]
    obtain ⟨Mb, hMb⟩ : ∃ Mb : Mem, Mb = M1 ++ [Slot.live ⟨[iv (el p.nodes k).k, iv (el p.nodes k).a, iv (el p.nodes k).b, .slice A n c], true, true, 138, 4⟩] := ⟨_, rfl⟩
    have kb : Keeps M1 Mb := by rw [hMb]; exact keeps_app _
    have lb : Mb.length = M1.length + 1 := by rw [hMb]; simp
    have cb : cellsAt Mb M1.length 0 4 = some [iv (el p.nodes k).k, iv (el p.nodes k).a, iv (el p.nodes k).b, .slice A n c] := by rw [hMb]; simp
    have cv : cellAt Mb (M.length + 2) 0 = some v := by simp [cellAt, kb.get r2]
    rw [← hMb]
    clear hMb
    replace hrd1 := nodeP.keeps hrd1 kb
    refine awDraw_D 5 [[],[0],[],[2],[3,2],[1,0,4,3,2],[0,1,2,3,4,5],[6,0,1,2,3,4,5]] (by kernel_rfl) (by decide +kernel) ?_
    simp (disch := omega) [t3, cb, cv]
    refine awCall_det' (d := true) (start_x (p := p) hrd1 (hx _ (el_mem (by omega)))) (by omega) ?_
    simp (disch := omega) [fill1S]
    refine LLv.push (c := startV (el p.nodes k)) (hL.keeps kb) (by omega) (by omega) (by simp) rfl (by simp; omega) fun v' M2 hL2 hs2 _ => ?_
    have k2 : Keeps M M2 := hs2.keeps (k1.trans kb) (by omega)
    have r12 := hs2.2 _ _ (by omega) (kb.get r1)
    have r22 := hs2.2 _ _ (by omega) (kb.get r2)
    have l2 := hs2.1
    obtain ⟨A', n', c', rfl⟩ := hL2.one
    simp (disch := omega) [t3]
    rw [put_whole (vs := [.slice A' n' c']) r22 (by omega) rfl (by simp), ow_some]
    have lt2 := (List.getElem?_eq_some_iff.1 r22).1
    try simp (disch := omega) [t10, t9, t8, t3, t2, wrap_in]
    refine lpI (q - 1) (by omega) ⟨k + 1, _, by omega, keeps_set k2 (by omega), by simp; omega, by rw [List.getElem?_set_ne (by omega)]; exact r12, List.getElem?_set_self lt2, ?_, by simp, by simp [t9], by simp [t8], by simp [t3], by simp [t2]⟩
    rw [take_el (by omega), List.map_append]
    exact hL2.set_lt (by omega)
  · obtain rfl : k = n2 := by omega
    have cv : cellsAt M1 (M.length + 2) 0 1 = some [v] := by simp [cellsAt, r2]
    rw [List.take_of_length_le (by omega)] at hL
    obtain ⟨A', n', c', rfl⟩ := hL.one
    simp (disch := omega) [t10, t9, t8, t3, t2, cv]
    rw [put_whole (vs := [.slice A' n' c']) r1 (by omega) rfl (by simp), ow_some]
    have lt2 := (List.getElem?_eq_some_iff.1 r1).1
    have c2 : cellsAt (M1.set (M.length + 1) (.live ⟨[.slice A' n' c'], true, true, 147, 1⟩)) (M.length + 1) 0 1 = some [.slice A' n' c'] := by simp [cellsAt, List.getElem?_set_self lt2]
    simp [c2, t2]
    exact ⟨(hL.set_lt (by omega)).low (by omega), keeps_set k1 (by omega)⟩
theorem clones_i {M : Mem} {lo hi : Nat} {u : Value} {cs : List (List Int)} (h : SlV tabP lo hi M u cs) (hl : ∀ c, c ∈ cs → c.length ≤ 1048576) (hn : cs.length ≤ 1048576) :
    Ctr Try.prog M.length 127 [u] M fun r M' => LLv M.length M' r cs ∧ Keeps M M' := by
  obtain ⟨A, n, c, rfl, h1, h2, h3⟩ := h
  have hnl := h3.1
  first | (refine ctr_fn Try.func127 rfl Try.ntmps127 Try.results127 rfl rfl (by simp) ?_) | (refine ctr_fnC Try.func127 rfl Try.ntmps127 Try.results127 rfl (by simp) ?_)
  simp
  refine awLoop_T (fun q T M1 => ∃ (k : Nat) (v : Value), k + q = n ∧ Keeps M M1 ∧ LLv M.length M1 v (cs.take k) ∧ look T 9 = some (iv k) ∧ look T 8 = some (iv n) ∧ look T 7 = some (.slice A n c) ∧ look T 3 = some v) n
    ⟨0, _, by omega, keeps_app _, ⟨[], ⟨_, 0, 0, rfl, rfl, .inr ⟨M.length, true, rfl, Nat.le_refl _, by simp [cellsL_nil]⟩⟩, rfl, fun k hk => by simp at hk⟩, by simp, by simp, by simp, by simp⟩ ?_
  rintro q T M1 ⟨k, v, hq, k1, hL, t9, t8, t7, t3⟩
  by_cases hlt : k < n
  · obtain ⟨id, off, us, rfl, he, ⟨u, rfl, hu⟩, hc⟩ := h3.at_ hlt
    have c1 := cellAt_keeps k1 (cl_cons.1 hc).1
    simp only [Nat.mul_one] at c1
    have e1 := rowEsz_keeps k1 he
    simp (disch := omega) [t9, t8, t7, t3, hlt, c1, e1, wrap_in]
    refine awCall_det' (clone_x (hu.keeps k1) (hl _ (el_mem (by omega)))) (by have := k1.len; omega) ?_
    simp (disch := omega) [t9, t8, t7, t3, fill1S]
    refine LLv.push (c := el cs k) hL (Nat.le_refl _) k1.len (by simp) rfl (by simp; omega) fun v' M2 hL2 hs2 _ => ?_
    have k2 : Keeps M M2 := hs2.keeps k1 (Nat.le_refl _)
    try simp (disch := omega) [t9, t8, t7, t3, wrap_in]
    refine lpI (q - 1) (by omega) ⟨k + 1, v', by omega, k2, ?_, by simp, by simp [t8], by simp [t7], by simp⟩
    rw [take_el (by omega)]
    exact hL2
  · obtain rfl : k = n := by omega
    rw [List.take_of_length_le (by omega)] at hL
    simp (disch := omega) [t9, t8, t7, t3]
    exact ⟨hL, k1⟩
end Go.Proofs.Ytimijeeihicohaa

namespace Go.Proofs.Ytimijeeihicohaa
open Go.RowKit
set_option linter.unusedVariables false
set_option linter.unusedSimpArgs false
set_option maxRecDepth 100000
attribute [local simp] List.getElem?_cons_zero
attribute [local irreducible] awCond awCall awLoop awDraw ow retQ retC resQ Keeps
theorem order_x {M : Mem} {lo hi : Nat} {us : List Value} {x : Patch} (h : patchP.rd lo hi M x us) (hx : ∀ y, y ∈ x.nodes → idxB x.nodes.length y.from_ = true) (hn24 : x.nodes.length ≤ 24) :
    Det Try.prog M.length 109 [.agg us.toArray] M (.slice (some ⟨M.length, 0, none⟩) (ordL x.nodes).length (ordL x.nodes).length) (M ++ [.live (rowI (ordL x.nodes))]) :=
  Ctr.compact (rowI_plain _) ((order_i h hx hn24).mono fun v M' ⟨h1, h2, h3⟩ => ⟨h1.newRow h3, h2⟩)
theorem play_build {i : Int} {q1 q2 q3 w1 w2 w3 : Option Addr} {a1 b1 a2 b2 a3 b3 c1 d1 c2 d2 c3 d3 : Nat} : Instr.fill (fun x => [(0, 4), (4, 1), (5, 1), (6, 1)][x]?)
    #[Value.int IntKind.i64 0, Value.slice none 0 0, Value.slice none 0 0, Value.slice none 0 0, Value.slice none 0 0, Value.slice none 0 0, Value.slice none 0 0]
    [(0, Value.agg #[iv i, .slice q1 a1 b1, .slice q2 a2 b2, .slice q3 a3 b3]), (1, .slice w1 c1 d1), (2, .slice w2 c2 d2), (3, .slice w3 c3 d3)] = some #[iv i, .slice q1 a1 b1, .slice q2 a2 b2, .slice q3 a3 b3, .slice w1 c1 d1, .slice w2 c2 d2, .slice w3 c3 d3] := by kernel_rfl
/-- What a player holds: the patch, its order, the values, the state. -/
structure Play (Y : Nat → Prop) (B : Nat) (M : Mem) (us : List Value) (p : Patch) (PB oid vid cid : Nat) (vals : List Int) (vs : List Value) (cs : List (List Int)) : Prop where
  low : B ≤ PB ∧ B ≤ oid ∧ B ≤ vid ∧ B ≤ cid
  box : ∃ c t1 t2 : Nat, ∃ tt : Bool, M[PB]? = some (.live ⟨us ++ [.slice (some ⟨oid, 0, none⟩) p.nodes.length t1, .slice (some ⟨vid, 0, none⟩) p.nodes.length t2, .slice (some ⟨cid, 0, none⟩) p.nodes.length c], true, tt, 160, 7⟩)
  ord : M[oid]? = some (.live (rowI (ordL p.nodes)))
  val : ∃ e, M[vid]? = some (.live ⟨cellsL intR vals, true, true, e, 1⟩)
  cel : ∃ t, M[cid]? = some (.live ⟨vs, true, t, 46, 1⟩)
  len : vals.length = p.nodes.length ∧ vs.length = p.nodes.length ∧ cs.length = p.nodes.length
  elt : ∀ k, k < p.nodes.length → ∃ id, el vs k = .slice (some ⟨id, 0, none⟩) (el cs k).length (el cs k).length ∧ M[id]? = some (.live (rowI (el cs k))) ∧ ¬ Y id
  ne : vid ≠ cid ∧ PB ≠ vid ∧ PB ≠ cid ∧ oid ≠ vid ∧ oid ≠ cid ∧ Y vid ∧ Y cid
set_option maxHeartbeats 1000000 in
theorem playerOf_i {M : Mem} {lo hi lo' hi' : Nat} {us : List Value} {sv : Value} {p : Patch} {cs : List (List Int)} (h : patchP.rd lo hi M p us) (hs : SlV tabP lo' hi' M sv cs) (hf : formB p = true) (ho : (ordL p.nodes).length = p.nodes.length) (hc : okCs p cs) (h0 : 0 < p.nodes.length) :
    Ctr Try.prog M.length 114 [.agg us.toArray, .agg #[sv]] M fun r M' => ∃ PB oid vid cid vs, r = .pointer (some ⟨PB, 0, none⟩) ∧ Play (fun i => i = vid ∨ i = cid) M.length M' us p PB oid vid cid (List.replicate p.nodes.length 0) vs cs ∧ Keeps M M' := by
  obtain ⟨hn24, hidx, hnF⟩ := formB_nodes hf
  have hok : ∀ y, y ∈ p.nodes → NodeOk p y := fun y hy => nodeF_ok (hnF y hy)
  have hcl : ∀ c, c ∈ cs → c.length ≤ 1048576 := fun c hc' => by
    obtain ⟨k, hk, rfl⟩ := List.getElem_of_mem hc'
    rw [el_eq hk, hc.2 k (by rw [← hc.1]; exact hk)]
    have hy := hok _ (el_mem (l := p.nodes) (i := k) (by rw [← hc.1]; exact hk))
    unfold startV
    split
    · have := hy.del (by assumption); simp; omega
    · split
      · have := hy.comb (by assumption); simp; omega
      · split
        · simp
        · split <;> simp
  have hcn := hc.1
  obtain ⟨A1, n1, c1, A2, n2, c2, A3, n3, c3, rfl⟩ := patch_isV h
  have h' := h
  obtain ⟨u1, u2, u3, e, hu1, hu2, hu3⟩ := h'
  simp only [List.cons.injEq, and_true, true_and] at e
  obtain ⟨rfl, rfl, rfl⟩ := e
  obtain ⟨B2, m2, d2, e2, q1, q2, q3⟩ := hu2
  injection e2 with e2a e2b e2c
  subst e2a; subst e2b; subst e2c
  have hnl := q3.1
  obtain ⟨As, ns, cs', rfl, g1, g2, g3⟩ := id hs
  first | (refine ctr_fn Try.func114 rfl Try.ntmps114 Try.results114 rfl rfl (by simp) ?_) | (refine ctr_fnC Try.func114 rfl Try.ntmps114 Try.results114 rfl (by simp) ?_)
  simp
  obtain ⟨M0, hM0⟩ : ∃ M0 : Mem, M0 = M ++ [Slot.live ⟨[iv p.inp, .slice A1 n1 c1, .slice A2 n2 c2, .slice A3 n3 c3], true, true, 48, 4⟩, .live ⟨[.slice As ns cs'], true, true, 147, 1⟩] := ⟨_, rfl⟩
  have k0 : Keeps M M0 := by rw [hM0]; exact keeps_app _
  have l0 : M0.length = M.length + 2 := by rw [hM0]; simp
  have b4 : cellsAt M0 M.length 0 4 = some [iv p.inp, .slice A1 n1 c1, .slice A2 n2 c2, .slice A3 n3 c3] := by rw [hM0]; simp
  have b2 : cellAt M0 M.length 2 = some (.slice A2 n2 c2) := by rw [hM0]; simp
  have bs : cellAt M0 (M.length + 1) 0 = some (.slice As ns cs') := by rw [hM0]; simp
  rw [← hM0]
  clear hM0
  refine awDraw_K (fun _ => []) (fun k v M' => match k with
    | 0 => v = .agg #[iv p.inp, .slice A1 n1 c1, .slice A2 n2 c2, .slice A3 n3 c3]
    | 1 => v = .agg #[iv p.inp, .slice A1 n1 c1, .slice A2 n2 c2, .slice A3 n3 c3]
    | 2 => ∃ id, v = .slice (some ⟨id, 0, none⟩) n2 n2 ∧ M.length ≤ id ∧ M'[id]? = some (.live (rowI (ordL p.nodes)))
    | 3 => v = .pointer (some ⟨M.length, 2, none⟩)
    | 4 => v = .slice A2 n2 c2
    | 5 => v = iv n2
    | 6 => ∃ id, v = .slice (some ⟨id, 0, none⟩) n2 n2 ∧ M.length ≤ id ∧ M'[id]? = some (.live ⟨cellsL intR (List.replicate n2 0), true, true, 2, 1⟩)
    | 7 => v = .pointer (some ⟨M.length + 1, 0, none⟩)
    | 8 => v = .slice As ns cs'
    | 9 => LLv M.length M' v cs
    | 10 => ∃ oid vid cv, v = .agg #[iv p.inp, .slice A1 n1 c1, .slice A2 n2 c2, .slice A3 n3 c3, .slice (some ⟨oid, 0, none⟩) n2 n2, .slice (some ⟨vid, 0, none⟩) n2 n2, cv] ∧ M.length ≤ oid ∧ M'[oid]? = some (.live (rowI (ordL p.nodes))) ∧ M.length ≤ vid ∧ M'[vid]? = some (.live ⟨cellsL intR (List.replicate n2 0), true, true, 2, 1⟩) ∧ LLv M.length M' cv cs
    | 11 => ∃ PB oid vid cv, v = .pointer (some ⟨PB, 0, none⟩) ∧ M.length ≤ PB ∧ M'[PB]? = some (.live ⟨[iv p.inp, .slice A1 n1 c1, .slice A2 n2 c2, .slice A3 n3 c3, .slice (some ⟨oid, 0, none⟩) n2 n2, .slice (some ⟨vid, 0, none⟩) n2 n2, cv], true, true, 160, 7⟩) ∧ M.length ≤ oid ∧ M'[oid]? = some (.live (rowI (ordL p.nodes))) ∧ M.length ≤ vid ∧ M'[vid]? = some (.live ⟨cellsL intR (List.replicate n2 0), true, true, 2, 1⟩) ∧ LLv M.length M' cv cs
    | 12 => ∃ PB oid vid cv, v = .pointer (some ⟨PB, 0, none⟩) ∧ M.length ≤ PB ∧ M'[PB]? = some (.live ⟨[iv p.inp, .slice A1 n1 c1, .slice A2 n2 c2, .slice A3 n3 c3, .slice (some ⟨oid, 0, none⟩) n2 n2, .slice (some ⟨vid, 0, none⟩) n2 n2, cv], true, true, 160, 7⟩) ∧ M.length ≤ oid ∧ M'[oid]? = some (.live (rowI (ordL p.nodes))) ∧ M.length ≤ vid ∧ M'[vid]? = some (.live ⟨cellsL intR (List.replicate n2 0), true, true, 2, 1⟩) ∧ LLv M.length M' cv cs
    | _ => True) ?_ (by kernel_rfl) (by decide +kernel) (by decide +kernel) ?_ ?_
  · intro k v M1 M2 h hk
    rcases k with _ | _ | _ | _ | _ | _ | _ | _ | _ | _ | _ | _ | _ | k
    · exact h
    · exact h
    · obtain ⟨id, a, b, c⟩ := h
      exact ⟨id, a, b, hk.get c⟩
    · exact h
    · exact h
    · exact h
    · obtain ⟨id, a, b, c⟩ := h
      exact ⟨id, a, b, hk.get c⟩
    · exact h
    · exact h
    · exact h.keeps hk
    · obtain ⟨oid, vid, cv, a, b, c, d, e, f⟩ := h
      exact ⟨oid, vid, cv, a, b, hk.get c, d, hk.get e, f.keeps hk⟩
    · obtain ⟨PB, oid, vid, cv, a, b', b'', b, c, d, e, f⟩ := h
      exact ⟨PB, oid, vid, cv, a, b', hk.get b'', b, hk.get c, d, hk.get e, f.keeps hk⟩
    · obtain ⟨PB, oid, vid, cv, a, b', b'', b, c, d, e, f⟩ := h
      exact ⟨PB, oid, vid, cv, a, b', hk.get b'', b, hk.get c, d, hk.get e, f.keeps hk⟩
    · trivial
  · intro X k o T M1 K hC hX hk hp hf ho' hK
    have kk1 := k0.trans hk
    have lk : M0.length ≤ M1.length := hk.len
    have f2 := hf 2 (by decide +kernel)
    have f3 := hf 3 (by decide +kernel)
    simp at f2 f3
    rcases k with _ | _ | _ | _ | _ | _ | _ | _ | _ | _ | _ | _ | _ | k
    · simp at ho'; subst ho'
      simp [f2, cellsAt_keeps hk b4]
      exact hK _ _ (.inl (Keeps.refl _)) rfl
    · simp at ho'; subst ho'
      simp [f2, cellsAt_keeps hk b4]
      exact hK _ _ (.inl (Keeps.refl _)) rfl
    · obtain ⟨v, d, q⟩ := hp 1 6 (by decide +kernel) rfl
      rw [q (by simp)] at d
      simp at ho'; subst ho'
      simp [d]
      refine awCall_det' (order_x (patchP.keeps h kk1) hidx hn24) (by omega) ?_
      refine hK _ _ (.inl (keeps_app _)) ⟨M1.length, by rw [ho, hnl], by omega, by simp⟩
    · simp at ho'; subst ho'
      simp [f2]
      exact hK _ _ (.inl (Keeps.refl _)) rfl
    · obtain ⟨v, d, q⟩ := hp 3 8 (by decide +kernel) rfl
      rw [q (by simp)] at d
      simp at ho'; subst ho'
      simp [d, cellAt_keeps hk b2]
      exact hK _ _ (.inl (Keeps.refl _)) rfl
    · obtain ⟨v, d, q⟩ := hp 4 9 (by decide +kernel) rfl
      rw [q (by simp)] at d
      simp at ho'; subst ho'
      simp [d]
      have szN : Det Try.prog M1.length 121 [.slice A2 n2 c2] M1 (iv n2) M1 := by
        first | (refine det_fn Try.func121 rfl Try.ntmps121 Try.results121 rfl rfl rfl (by simp) ?_) | (refine det_fnC Try.func121 rfl Try.ntmps121 Try.results121 rfl rfl (by simp) ?_)
        simp [Keeps.refl]
      refine awCall_det' szN (by omega) ?_
      exact hK _ _ (.inl (Keeps.refl _)) rfl
    · obtain ⟨v, d, q⟩ := hp 5 10 (by decide +kernel) rfl
      rw [q (by simp)] at d
      simp at ho'; subst ho'
      simp [d]
      refine awCall_det' (zeros_i n2 (by omega)) (by omega) ?_
      exact hK _ _ (.inl (keeps_app _)) ⟨M1.length, rfl, by omega, by simp⟩
    · simp at ho'; subst ho'
      simp [f3]
      exact hK _ _ (.inl (Keeps.refl _)) rfl
    · obtain ⟨v, d, q⟩ := hp 7 12 (by decide +kernel) rfl
      rw [q (by simp)] at d
      simp at ho'; subst ho'
      simp [d, cellAt_keeps hk bs]
      exact hK _ _ (.inl (Keeps.refl _)) rfl
    · obtain ⟨v, d, q⟩ := hp 8 13 (by decide +kernel) rfl
      rw [q (by simp)] at d
      simp at ho'; subst ho'
      simp [d]
      refine awCall_ctr ((clones_i (hs.keeps kk1) hcl (by omega)).weaken (by omega)) ?_
      rintro r M2 ⟨a, b⟩
      exact hK _ _ (.inl b) (a.low (by omega))
    · obtain ⟨v5, d5, q5⟩ := hp 0 5 (by decide +kernel) rfl
      obtain ⟨v7, d7, q7⟩ := hp 2 7 (by decide +kernel) rfl
      obtain ⟨v11, d11, q11⟩ := hp 6 11 (by decide +kernel) rfl
      obtain ⟨v14, d14, q14⟩ := hp 9 14 (by decide +kernel) rfl
      rw [q5 (by simp)] at d5
      obtain ⟨oid, rfl, o1, o2⟩ := q7 (by simp)
      obtain ⟨vid, rfl, w1, w2⟩ := q11 (by simp)
      have hL := q14 (by simp)
      obtain ⟨Ac, nc, cc, rfl⟩ := LLv.one hL
      simp at ho'; subst ho'
      simp [d5, d7, d11, d14, play_build]
      exact hK _ _ (.inl (Keeps.refl _)) ⟨oid, vid, _, rfl, o1, o2, w1, w2, hL⟩
    · obtain ⟨v, d, q⟩ := hp 10 15 (by decide +kernel) rfl
      obtain ⟨oid, vid, cv, rfl, a1, a2, a3, a4, a5⟩ := q (by simp)
      simp at ho'; subst ho'
      simp [d]
      refine hK _ _ (.inl (keeps_app _)) ⟨M1.length, oid, vid, cv, rfl, by omega, by simp, a1, (keeps_app _).get a2, a3, (keeps_app _).get a4, LLv.keeps a5 (keeps_app _)⟩
    · obtain ⟨v, d, q⟩ := hp 11 16 (by decide +kernel) rfl
      have q := q (by simp)
      simp at ho'; subst ho'
      simp [d]
      exact hK _ _ (.inl (Keeps.refl _)) q
    · simp at ho'
  · intro T M1 hk hp hf
    have kk_ : Keeps M0 M1 → Keeps M M1 := fun h => k0.trans h
    obtain ⟨v, d, q⟩ := hp 12 4 (by simp) rfl
    obtain ⟨PB, oid, vid, cv, rfl, a1, a2, a3, a4, a5, a6, a7⟩ := q (by simp)
    simp [d]
    obtain ⟨vs, ⟨A, n, c, rfl, e1, e2⟩, e3, e4⟩ := a7
    subst e1
    rcases e2 with ⟨-, e2, -⟩ | ⟨cid, t, rfl, g1, g2⟩
    · omega
    · rw [cellsL_valR] at g2
      have hv : vs.length = n2 := by omega
      rw [hv] at a2
      refine ⟨⟨oid, vid, cid, vs, ⟨⟨a1, a3, a5, g1⟩, ⟨_, _, _, _, by rw [hnl]; exact a2⟩, a4, ⟨_, by rw [hnl]; exact a6⟩, ⟨t, g2⟩, ⟨by simp, by omega, by omega⟩, fun k hk => ?_, ?_⟩⟩, kk_ hk⟩
      · obtain ⟨id, f1, f2, f3, f4⟩ := e4 k (by omega)
        refine ⟨id, f1, f3, fun e => ?_⟩
        rcases e with e | e
        case inr => exact f4 _ _ _ _ rfl rfl e
        rw [e, a6] at f3
        simp [rowI] at f3
      · refine ⟨fun e => ?_, fun e => ?_, fun e => ?_, fun e => ?_, fun e => ?_, .inl rfl, .inr rfl⟩
        · rw [e, g2] at a6
          simp [rowI] at a6
        · rw [e, a6] at a2
          simp [rowI] at a2
        · rw [e, g2] at a2
          simp [rowI] at a2
        · rw [e, a6] at a4
          simp [rowI] at a4
        · rw [e, g2] at a4
          simp [rowI] at a4
end Go.Proofs.Ytimijeeihicohaa

namespace Go.Proofs.Ytimijeeihicohaa
open Go.RowKit
set_option linter.unusedVariables false
set_option linter.unusedSimpArgs false
set_option maxRecDepth 100000
attribute [local simp] List.getElem?_cons_zero
attribute [local irreducible] awCond awCall awLoop awDraw ow retQ retC resQ Keeps
def Off (X : Nat → Prop) (M M' : Mem) : Prop := M.length ≤ M'.length ∧ ∀ (i : Nat) s, ¬ X i → M[i]? = some s → M'[i]? = some s
theorem Off.refl (X : Nat → Prop) (M : Mem) : Off X M M := ⟨Nat.le_refl _, fun i s _ h => h⟩
theorem Off.trans {X : Nat → Prop} {M1 M2 M3 : Mem} (h : Off X M1 M2) (h' : Off X M2 M3) : Off X M1 M3 := ⟨Nat.le_trans h.1 h'.1, fun i s hi hs => h'.2 i s hi (h.2 i s hi hs)⟩
theorem Keeps.off {M M' : Mem} (X : Nat → Prop) (h : Keeps M M') : Off X M M' := ⟨h.len, fun i s _ hs => h.get hs⟩
theorem Off.agree {X : Nat → Prop} {M M' : Mem} {lo hi : Nat} (h : Off X M M') (hx : ∀ i, lo ≤ i → i < hi → ¬ X i) : Agree lo hi M M' := fun i s a b hs => h.2 i s (hx i a b) hs
theorem Off.mono {X Y : Nat → Prop} {M M' : Mem} (h : Off X M M') (hy : ∀ i, X i → Y i) : Off Y M M' := ⟨h.1, fun i s hi hs => h.2 i s (fun hx => hi (hy i hx)) hs⟩
def XP (vid cid : Nat) : Nat → Prop := fun i => i = vid ∨ i = cid
section
variable {B b : Nat} {M M' : Mem} {us : List Value} {p : Patch} {PB oid vid cid : Nat} {vals : List Int} {vs : List Value} {cs : List (List Int)} {Y : Nat → Prop}
theorem Play.keeps (h : Play Y B M us p PB oid vid cid vals vs cs) (hk : Keeps M M') : Play Y B M' us p PB oid vid cid vals vs cs := by
  obtain ⟨low, ⟨c, t1, t2, tt, h1⟩, h2, ⟨e, h3⟩, ⟨t, h4⟩, h5, h6, h7⟩ := h
  refine ⟨low, ⟨c, t1, t2, tt, hk.get h1⟩, hk.get h2, ⟨e, hk.get h3⟩, ⟨t, hk.get h4⟩, h5, fun k hk' => ?_, h7⟩
  obtain ⟨id, a, b, c⟩ := h6 k hk'
  exact ⟨id, a, hk.get b, c⟩
theorem Play.putVal (h : Play Y B M us p PB oid vid cid vals vs cs) (hb : b ≤ B) {i : Nat} (hi : i < p.nodes.length) (y : Int) :
    ∃ M', putCells b M vid i [iv y] = some M' ∧ Play Y B M' us p PB oid vid cid (vals.set i y) vs cs ∧ Off (XP vid cid) M M' := by
  obtain ⟨low, ⟨c, t1, t2, tt, h1⟩, h2, ⟨e, h3⟩, ⟨t, h4⟩, h5, h6, h7⟩ := h
  have hp := put_rec (R := intR) (b := b) (a := y) (off := i) (i := i) h3 (by omega) (by omega) (by omega) rfl
  have hlt := (List.getElem?_eq_some_iff.1 h3).1
  refine ⟨_, hp, ⟨low, ⟨c, t1, t2, tt, by rw [List.getElem?_set_ne (by omega)]; exact h1⟩, by rw [List.getElem?_set_ne (by omega)]; exact h2, ⟨e, List.getElem?_set_self hlt⟩, ⟨t, by rw [List.getElem?_set_ne h7.1]; exact h4⟩, by rw [List.length_set]; exact h5, fun k hk' => ?_, h7⟩, by simp, fun j s hj hs => ?_⟩
  · obtain ⟨id, a, b, c⟩ := h6 k hk'
    exact ⟨id, a, by rw [List.getElem?_set_ne (fun e => c (by rw [← e]; exact h7.2.2.2.2.2.1))]; exact b, c⟩
  · rw [List.getElem?_set_ne (fun e => hj (.inl e.symm))]
    exact hs
theorem Play.putCel (h : Play Y B M us p PB oid vid cid vals vs cs) (hb : b ≤ B) {i id : Nat} {c : List Int} (hi : i < p.nodes.length) (hr : M[id]? = some (.live (rowI c))) (n1 : ¬ Y id) :
    ∃ M', putCells b M cid i [.slice (some ⟨id, 0, none⟩) c.length c.length] = some M' ∧ Play Y B M' us p PB oid vid cid vals (vs.set i (.slice (some ⟨id, 0, none⟩) c.length c.length)) (cs.set i c) ∧ Off (XP vid cid) M M' := by
  obtain ⟨low, ⟨cc, t1, t2, tt, h1⟩, h2, ⟨e, h3⟩, ⟨t, h4⟩, h5, h6, h7⟩ := h
  have h4' : M[cid]? = some (.live ⟨cellsL valR vs, true, t, 46, 1⟩) := by rw [cellsL_valR]; exact h4
  have hp := put_rec (R := valR) (b := b) (a := .slice (some ⟨id, 0, none⟩) c.length c.length) (off := i) (i := i) h4' (by omega) (by omega) (by omega) rfl
  have hlt := (List.getElem?_eq_some_iff.1 h4).1
  rw [cellsL_valR] at hp
  refine ⟨_, hp, ⟨low, ⟨cc, t1, t2, tt, by rw [List.getElem?_set_ne (by omega)]; exact h1⟩, by rw [List.getElem?_set_ne (by omega)]; exact h2, ⟨e, by rw [List.getElem?_set_ne (Ne.symm h7.1)]; exact h3⟩, ⟨t, List.getElem?_set_self hlt⟩, by rw [List.length_set, List.length_set]; exact h5, fun k hk' => ?_, h7⟩, by simp, fun j s hj hs => ?_⟩
  · by_cases e : i = k
    · subst e
      rw [el_set_same _ (by omega), el_set_same _ (by omega)]
      exact ⟨id, rfl, by rw [List.getElem?_set_ne (fun e => n1 (by rw [← e]; exact h7.2.2.2.2.2.2))]; exact hr, n1⟩
    · obtain ⟨id, a, b, c⟩ := h6 k hk'
      rw [el_set_other _ e, el_set_other _ e]
      exact ⟨id, a, by rw [List.getElem?_set_ne (fun e => c (by rw [← e]; exact h7.2.2.2.2.2.2))]; exact b, c⟩
  · rw [List.getElem?_set_ne (fun e => hj (.inr e.symm))]
    exact hs
theorem Play.cells {i : Int} {s1 s2 s3 : Value} (h : Play Y B M [iv i, s1, s2, s3] p PB oid vid cid vals vs cs) : cellAt M PB 1 = some s1 ∧ cellAt M PB 2 = some s2 ∧ cellAt M PB 3 = some s3 ∧ (∃ c, cellAt M PB 4 = some (.slice (some ⟨oid, 0, none⟩) p.nodes.length c)) ∧ (∃ c, cellAt M PB 5 = some (.slice (some ⟨vid, 0, none⟩) p.nodes.length c)) ∧ (∃ c, cellAt M PB 6 = some (.slice (some ⟨cid, 0, none⟩) p.nodes.length c)) ∧ cellAt M PB 0 = some (iv i) := by
  obtain ⟨c, t1, t2, tt, h1⟩ := h.box
  simp [cellAt, h1]
theorem Play.rows (h : Play Y B M us p PB oid vid cid vals vs cs) : rowEsz M oid = some 1 ∧ rowEsz M vid = some 1 ∧ rowEsz M cid = some 1 := by
  obtain ⟨e, h3⟩ := h.val
  obtain ⟨t, h4⟩ := h.cel
  simp [rowEsz, h.ord, h3, h4, rowI]
theorem Play.ordAt (h : Play Y B M us p PB oid vid cid vals vs cs) {q : Nat} (hq : q < (ordL p.nodes).length) : cellAt M oid q = some (iv (el (ordL p.nodes) q)) := by
  have := cellsL_get intR hq (show 0 < 1 by omega)
  simp [cellAt, h.ord, rowI]
  simpa [intR] using this
theorem Play.valsV (h : Play Y B M us p PB oid vid cid vals vs cs) (c : Nat) (hn : p.nodes.length ≤ 24) : SlV intP vid (vid + 1) M (.slice (some ⟨vid, 0, none⟩) p.nodes.length c) vals := by
  obtain ⟨e, h3⟩ := h.val
  have hl := h.len.1
  refine ⟨_, _, c, rfl, by omega, (fun h => by cases h), SlP.of_sl ⟨hl, fun _ => ⟨vid, 0, rfl, by simp [rowEsz, h3], fun j y hy => by simpa [cellAt, h3] using hy⟩⟩ fun a e _ => ?_⟩
  injection e with e
  subst e
  exact ⟨Nat.le_refl _, Nat.lt_succ_self _⟩
theorem Play.celAt (h : Play Y B M us p PB oid vid cid vals vs cs) {k : Nat} (hk : k < p.nodes.length) : ∃ id, cellAt M cid k = some (.slice (some ⟨id, 0, none⟩) (el cs k).length (el cs k).length) ∧ M[id]? = some (.live (rowI (el cs k))) ∧ ¬ Y id := by
  obtain ⟨t, h4⟩ := h.cel
  obtain ⟨id, a, b, c⟩ := h.elt k hk
  refine ⟨id, ?_, b, c⟩
  rw [← a]
  have hx : vs[k]? = some (el vs k) := el_some (by rw [h.len.2.1]; exact hk)
  simp [cellAt, h4, hx]
theorem Play.newY {Y' : Nat → Prop} (h : Play Y B M us p PB oid vid cid vals vs cs) (hY : ∀ i, Y' i → Y i ∨ M.length ≤ i) (h1 : Y' vid) (h2 : Y' cid) : Play Y' B M us p PB oid vid cid vals vs cs := by
  refine ⟨h.low, h.box, h.ord, h.val, h.cel, h.len, fun k hk => ?_, h.ne.1, h.ne.2.1, h.ne.2.2.1, h.ne.2.2.2.1, h.ne.2.2.2.2.1, h1, h2⟩
  obtain ⟨id, a, b, c⟩ := h.elt k hk
  refine ⟨id, a, b, fun hy => ?_⟩
  rcases hY id hy with h' | h'
  · exact c h'
  · have := (List.getElem?_eq_some_iff.1 b).1; omega
end
end Go.Proofs.Ytimijeeihicohaa

namespace Go.Proofs.Ytimijeeihicohaa
open Go.RowKit
set_option linter.unusedVariables false
set_option linter.unusedSimpArgs false
set_option maxRecDepth 100000
attribute [local simp] List.getElem?_cons_zero
attribute [local irreducible] awCond awCall awLoop awDraw ow retQ retC resQ Keeps
section
variable {p : Patch} {cs : List (List Int)} {fr V : List Int}
theorem nextC_len : (nextC p cs fr V).length = p.nodes.length := by simp [nextC]
theorem nextC_el {k : Nat} (hk : k < p.nodes.length) : el (nextC p cs fr V) k = nextV (el p.nodes k) (inV (el p.nodes k) fr V) (el cs k) (el V k) := by simp [nextC, el, hk]
/-- The state when q nodes of the order are done: delays wait. -/
structure Stage1 (p : Patch) (cs : List (List Int)) (fr V : List Int) (q : Nat) (cq : List (List Int)) : Prop where
  done : ∀ r, r < q → (el p.nodes (el (ordL p.nodes) r).toNat).k ≠ 6 → el cq (el (ordL p.nodes) r).toNat = el (nextC p cs fr V) (el (ordL p.nodes) r).toNat
  wait : ∀ r, q ≤ r → r < (ordL p.nodes).length → el cq (el (ordL p.nodes) r).toNat = el cs (el (ordL p.nodes) r).toNat
  del : ∀ i, i < p.nodes.length → (el p.nodes i).k = 6 → el cq i = el cs i
theorem Stage1.zero : Stage1 p cs fr V 0 cs := ⟨fun r h => by omega, fun _ _ _ => rfl, fun _ _ _ => rfl⟩
theorem Stage1.skip {q : Nat} {cq : List (List Int)} (h : Stage1 p cs fr V q cq) (h6 : (el p.nodes (el (ordL p.nodes) q).toNat).k = 6) : Stage1 p cs fr V (q + 1) cq :=
  ⟨fun r hr hk => by
    by_cases e : r = q
    · subst e; exact absurd h6 hk
    · exact h.done r (by omega) hk, fun r h1 h2 => h.wait r (by omega) h2, h.del⟩
theorem Stage1.set {q : Nat} {cq : List (List Int)} (h : Stage1 p cs fr V q cq) (ho : OrdOk p.nodes (ordL p.nodes)) (hq : q < (ordL p.nodes).length) (hl : cq.length = p.nodes.length) (h6 : (el p.nodes (el (ordL p.nodes) q).toNat).k ≠ 6) :
    Stage1 p cs fr V (q + 1) (cq.set (el (ordL p.nodes) q).toNat (el (nextC p cs fr V) (el (ordL p.nodes) q).toNat)) := by
  obtain ⟨i, hi, hil⟩ := ho.idx q hq
  have ne : ∀ r, r < (ordL p.nodes).length → r ≠ q → (el (ordL p.nodes) q).toNat ≠ (el (ordL p.nodes) r).toNat := fun r hr hn e => by
    obtain ⟨j, hj, -⟩ := ho.idx r hr
    have := ho.nodup q r hq hr (by rw [hi, hj] at e ⊢; simp at e; omega)
    omega
  refine ⟨fun r hr hk => ?_, fun r h1 h2 => ?_, fun j hj hk => ?_⟩
  · by_cases e : r = q
    · subst e
      rw [el_set_same _ (by rw [hi, hl]; simpa using hil)]
    · rw [el_set_other _ (ne r (by omega) e)]
      exact h.done r (by omega) hk
  · rw [el_set_other _ (ne r h2 (by omega))]
    exact h.wait r (by omega) h2
  · rw [el_set_other _ (fun e => h6 (by rw [e]; exact hk))]
    exact h.del j hj hk
/-- Then the delays, one by one. -/
structure Stage2 (p : Patch) (cs : List (List Int)) (fr V : List Int) (k : Nat) (cq : List (List Int)) : Prop where
  done : ∀ i, i < p.nodes.length → (el p.nodes i).k ≠ 6 ∨ i < k → el cq i = el (nextC p cs fr V) i
  wait : ∀ i, k ≤ i → i < p.nodes.length → (el p.nodes i).k = 6 → el cq i = el cs i
theorem Stage1.two {cq : List (List Int)} (h : Stage1 p cs fr V p.nodes.length cq) (hl : (ordL p.nodes).length = p.nodes.length) : Stage2 p cs fr V 0 cq :=
  ⟨fun i hi hd => by
    rcases hd with hd | hd
    · obtain ⟨q, hq, e⟩ := ordL_all hl i hi
      have := h.done q hq
      rw [e] at this
      simpa using this (by simpa using hd)
    · omega, fun i _ hi h6 => h.del i hi h6⟩
theorem Stage2.skip {k : Nat} {cq : List (List Int)} (h : Stage2 p cs fr V k cq) (h6 : (el p.nodes k).k ≠ 6) : Stage2 p cs fr V (k + 1) cq :=
  ⟨fun i hi hd => h.done i hi (by
    rcases hd with hd | hd
    · exact .inl hd
    · by_cases e : i = k
      · subst e; exact .inl h6
      · exact .inr (by omega)), fun i h1 h2 h3 => h.wait i (by omega) h2 h3⟩
theorem Stage2.set {k : Nat} {cq : List (List Int)} (h : Stage2 p cs fr V k cq) (hk : k < p.nodes.length) (hl : cq.length = p.nodes.length) : Stage2 p cs fr V (k + 1) (cq.set k (el (nextC p cs fr V) k)) :=
  ⟨fun i hi hd => by
    by_cases e : k = i
    · subst e
      rw [el_set_same _ (by omega)]
    · rw [el_set_other _ e]
      exact h.done i hi (by
        rcases hd with hd | hd
        · exact .inl hd
        · exact .inr (by omega)), fun i h1 h2 h3 => by
    rw [el_set_other _ (by omega)]
    exact h.wait i (by omega) h2 h3⟩
theorem Stage2.end_ {cq : List (List Int)} (h : Stage2 p cs fr V p.nodes.length cq) (hl : cq.length = p.nodes.length) : cq = nextC p cs fr V := by
  apply List.ext_getElem
  · rw [hl, nextC_len]
  · intro i a b
    rw [el_eq, el_eq]
    exact h.done i (by omega) (.inr (by omega))
end
theorem startV_small {p : Patch} {x : Node} (h : NodeOk p x) : (startV x).length ≤ 1048576 := by
  unfold startV
  split
  · have := h.del (by assumption); simp; omega
  · split
    · have := h.comb (by assumption); simp; omega
    · split
      · simp
      · split <;> simp
theorem from_small {p : Patch} {x : Node} (hx : NodeOk p x) : x.from_.length ≤ 1048576 := by
  have := hx.kind
  have h1 := hx.one
  have h2 := hx.two
  have h3 := hx.three
  by_cases g3 : x.k = 15
  · have := h3 g3; omega
  by_cases g2 : x.k = 3 ∨ x.k = 4 ∨ x.k = 9 ∨ x.k = 16
  · have := h2 g2; omega
  by_cases g1 : x.k = 5 ∨ x.k = 6 ∨ x.k = 7 ∨ x.k = 8 ∨ x.k = 10 ∨ x.k = 11 ∨ x.k = 12 ∨ x.k = 13 ∨ x.k = 17
  · have := h1 g1; omega
  · have := hx.zero (by omega); omega
set_option maxHeartbeats 4000000 in
theorem frame_i {M : Mem} {b lo hi lo2 hi2 B : Nat} {us : List Value} {p : Patch} {PB oid vid cid : Nat} {vals fr : List Int} {vs : List Value} {cs : List (List Int)} {fv : Value} {Y : Nat → Prop}
    (hP : Play Y B M us p PB oid vid cid vals vs cs) (h : patchP.rd lo hi M p us) (hf : formB p = true) (ho : (ordL p.nodes).length = p.nodes.length) (hc : okCs p cs) (hfr : SlV intP lo2 hi2 M fv fr) (hin : p.inp = fr.length)
    (av : ∀ i, lo ≤ i → i < hi → ¬ XP vid cid i) (av2 : ∀ i, lo2 ≤ i → i < hi2 → ¬ XP vid cid i) (hb : b ≤ B) (hbM : b ≤ M.length) (hY : ∀ i, Y i → i < M.length) :
    Ctr Try.prog b 129 [.pointer (some ⟨PB, 0, none⟩), fv] M fun _ M' => ∃ vs', Play Y B M' us p PB oid vid cid (valsV p cs fr) vs' (nextC p cs fr (valsV p cs fr)) ∧ Off (XP vid cid) M M' := by
  obtain ⟨hn24, hidx, hnF⟩ := formB_nodes hf
  have hok : ∀ y, y ∈ p.nodes → NodeOk p y := fun y hy => nodeF_ok (hnF y hy)
  have htb : tablesB p.tabs = true := by
    unfold formB at hf
    simp only [Bool.and_eq_true] at hf
    exact hf.1.1.1.1.2
  have hO := ordL_ok hidx
  obtain ⟨A1, n1, c1, A2, n2, c2, A3, n3, c3, rfl⟩ := patch_isV h
  obtain ⟨-, -, -, ⟨c4, p4⟩, -, -, -⟩ := hP.cells
  have hvl := hP.len.1
  have nx := fun (k : Nat) hk => nextC_el (p := p) (cs := cs) (fr := fr) (V := valsV p cs fr) (k := k) hk
  generalize hV : valsV p cs fr = V at nx ⊢
  first | (refine ctr_fn Try.func129 rfl Try.ntmps129 Try.results129 rfl rfl (by simp) ?_) | (refine ctr_fnC Try.func129 rfl Try.ntmps129 Try.results129 rfl (by simp) ?_)
  simp [p4]
  refine awLoop_T (fun m T M1 => ∃ (q : Nat) (vq : List Value) (cq : List (List Int)), q + m = p.nodes.length ∧ Play Y B M1 [iv p.inp, .slice A1 n1 c1, .slice A2 n2 c2, .slice A3 n3 c3] p PB oid vid cid (curV p (ordL p.nodes) cs fr vals q) vq cq ∧ Stage1 p cs fr V q cq ∧ Off (XP vid cid) M M1 ∧ look T 14 = some (iv q) ∧ look T 13 = some (iv p.nodes.length) ∧ look T 12 = some (.slice (some ⟨oid, 0, none⟩) p.nodes.length c4) ∧ look T 0 = some (.pointer (some ⟨PB, 0, none⟩)) ∧ look T 1 = some fv) p.nodes.length
    ⟨0, vs, cs, by omega, hP, .zero, .refl _ _, by simp, by simp, by simp, by simp, by simp⟩ ?_
  rintro m T M1 ⟨q, vq, cq, hm, hQ, hst, hoff, t14, t13, t12, t0, t1⟩
  have ag := hoff.agree av
  have hbM1 : b ≤ M1.length := Nat.le_trans hbM hoff.1
  by_cases hlt : q < p.nodes.length
  · obtain ⟨i, hi, hil⟩ := hO.idx q (by omega)
    obtain ⟨b1, b2, b3, -, ⟨c5, b5⟩, ⟨c6, b6⟩, b0⟩ := hQ.cells
    obtain ⟨e1, e2, e3⟩ := hQ.rows
    have co := hQ.ordAt (q := q) (by omega)
    rw [hi] at co
    have h1 := patchP.agree h ag
    obtain ⟨u1, u2, u3, e, hu1, hu2, hu3⟩ := id h1
    simp only [List.cons.injEq, and_true, true_and] at e
    obtain ⟨rfl, rfl, rfl⟩ := e
    obtain ⟨B2, m2, d2, ee, q1, q2, q3⟩ := id hu2
    injection ee with ea eb ec
    subst ea; subst eb; subst ec
    have hnl := q3.1
    obtain ⟨id2, off2, us2, rfl, he2, hrd, hc2⟩ := q3.at_ (i := i) (by omega)
    obtain ⟨A, n, c, rfl, hu⟩ := node_box hrd
    have cN := cellsAt_of (n := 4) hc2 rfl (by omega)
    have hin2 : i < n2 := by omega
    simp (disch := omega) [t14, t13, t12, t0, t1, hlt, co, e1, b2, cN, he2, hin2, wrap_in]
    obtain ⟨Mb, hMb⟩ : ∃ Mb : Mem, Mb = M1 ++ [Slot.live ⟨[iv (el p.nodes i).k, iv (el p.nodes i).a, iv (el p.nodes i).b, .slice A n c], true, true, 138, 4⟩] := ⟨_, rfl⟩
    have kb : Keeps M1 Mb := by rw [hMb]; exact keeps_app _
    have lb : Mb.length = M1.length + 1 := by rw [hMb]; simp
    have cb : cellsAt Mb M1.length 0 4 = some [iv (el p.nodes i).k, iv (el p.nodes i).a, iv (el p.nodes i).b, .slice A n c] := by rw [hMb]; simp
    have ck : cellAt Mb M1.length 0 = some (iv (el p.nodes i).k) := by rw [hMb]; simp
    rw [← hMb]
    clear hMb
    replace hQ := hQ.keeps kb
    have hoffb := hoff.trans (kb.off (XP vid cid))
    replace hrd := nodeP.keeps hrd kb
    replace hu1 := hu1.keeps kb
    have hfr1 := (hfr.agree (hoff.agree av2)).keeps kb
    replace b1 := cellAt_keeps kb b1
    replace b2 := cellAt_keeps kb b2
    replace b5 := cellAt_keeps kb b5
    replace b6 := cellAt_keeps kb b6
    obtain ⟨e1', e2', e3'⟩ := hQ.rows
    have hx := hok _ (el_mem (l := p.nodes) (i := i) hil)
    obtain ⟨ide, ce, re, ne1⟩ := hQ.celAt hil
    have hcq : el cq i = el cs i := by
      have := hst.wait q (Nat.le_refl _) (by omega)
      rw [hi] at this
      simpa using this
    rw [hcq] at ce re
    have hcl := hc.2 i hil
    have hval := hQ.valsV c5 hn24
    by_cases k6 : (el p.nodes i).k = 6
    · have hd := hx.del k6
      have hcl6 : 0 < (el cs i).length := by rw [hcl]; simp [startV, k6]; omega
      have ez : rowEsz Mb ide = some 1 := by simp [rowEsz, re, rowI]
      have cz : cellAt Mb ide 0 = some (iv (el (el cs i) 0)) := by
        have := cellsL_get intR (l := el cs i) (i := 0) (j := 0) hcl6 (by omega)
        simp [cellAt, re, rowI]
        simpa [intR] using this
      simp [k6]
      refine awDraw_E 14 [[],[0],[1,0],[2,1,0],[],[],[5],[6,5],[7,6,5],[],[8,7,6,5,9],[10,8,7,6,5,9],[11,10,8,7,6,5,9],[12,11,10,8,7,6,5,9],[3,2,1,0,4,5,6,7,8,9,10,11,12,13],[14,3,2,1,0,4,5,6,7,8,9,10,11,12,13]] (by kernel_rfl) (by kernel_rfl) ?_
      simp (disch := omega) [t0, b5, b6, ce, cz, ez, e2', e3', hil, hcl6]
      obtain ⟨M2, p2, P2, O2⟩ := hQ.putVal hb hil (el (el cs i) 0)
      rw [p2, ow_some]
      have hcur : curV p (ordL p.nodes) cs fr vals (q + 1) = (curV p (ordL p.nodes) cs fr vals q).set i (el (el cs i) 0) := by
        rw [curV, hi]
        simp [outV, k6]
      try simp (disch := omega) [t14, t13, t12, t0, t1, wrap_in]
      refine lpI (m - 1) (by omega) ⟨q + 1, vq, cq, by omega, by rw [hcur]; exact P2, hst.skip (by rw [hi]; exact k6), hoffb.trans O2, by simp, by simp [t13], by simp [t12], by simp [t0], by simp [t1]⟩
    · simp [k6]
      refine awDraw_M 31 [[],[0],[1,0],[2,1,0],[],[],[5],[6,5],[7,6,5],[],[],[],[11],[12,11],[13,12,11],[14,13,12,11],[],[],[],[16,17,18],[],[20],[21,20],[22,21,20],[],[23,22,21,20,24],[25,23,22,21,20,24],[10,15,14,13,12,11,19,16,17,18,26,25,23,22,21,20,24],[27,10,15,14,13,12,11,19,16,17,18,26,25,23,22,21,20,24],[28,27,10,15,14,13,12,11,19,16,17,18,26,25,23,22,21,20,24],[28,27,10,15,14,13,12,11,19,16,17,18,26,25,23,22,21,20,24],[3,2,1,0,4,8,7,6,5,10,11,12,13,14,15,16,17,18,19,20,21,22,23,24,25,26,27,28,29],[31,3,2,1,0,4,8,7,6,5,10,11,12,13,14,15,16,17,18,19,20,21,22,23,24,25,26,27,28,29],[8,7,6,5,9,0,1,2,3,4,10,11,12,13,14,15,16,17,18,19,20,21,22,23,24,25,26,27,28,29,30,31,32],[33,8,7,6,5,9,0,1,2,3,4,10,11,12,13,14,15,16,17,18,19,20,21,22,23,24,25,26,27,28,29,30,31,32]] [9,30] (by kernel_rfl) (by decide +kernel) (by decide +kernel) ?_
      simp (disch := omega) [t0, t1, b1, b5, b6, ce, cb, e3', hil]
      have hvl' : (curV p (ordL p.nodes) cs fr vals q).length = p.nodes.length := by rw [curV_len]; exact hvl
      have hI := cur_in (cs := cs) (fr := fr) (v0 := vals) hidx ho hvl (q := q) (by omega) (by rw [hi]; simpa using k6)
      have hOu := cur_out (cs := cs) (fr := fr) (v0 := vals) hidx ho hvl (q := q) (by omega)
      rw [hi, Int.toNat_natCast, hV] at hI hOu
      have hcur : curV p (ordL p.nodes) cs fr vals (q + 1) = (curV p (ordL p.nodes) cs fr vals q).set i (el V i) := by
        rw [curV, hi, Int.toNat_natCast, hOu]
      have hnx := nx i hil
      have hdI := inputs_x (p := p) hrd b5 hval hfr1 hx hin hvl'
      have hlI := inV_len (x := el p.nodes i) (fr := fr) (vals := curV p (ordL p.nodes) cs fr vals q)
      rw [← hI] at hnx
      generalize inV (el p.nodes i) fr (curV p (ordL p.nodes) cs fr vals q) = iN at *
      refine awCall_det' (d := true) hdI (by omega) ?_
      have ceh := cellAt_app ce [Slot.hole]
      have b6h := cellAt_app b6 [Slot.hole]
      have ezh := rowEsz_keeps (keeps_app [Slot.hole]) e3'
      simp (disch := omega) [holes, b6h, ezh, ceh, hil]
      have hsm : iN.length ≤ 1048576 := by
        rw [hlI]
        split
        · omega
        · exact from_small hx
      have hS := step_x (M := Mb ++ [Slot.live (rowI iN)]) (tv := .slice A1 n1 c1) (vi := .slice (some ⟨Mb.length, 0, none⟩) iN.length iN.length) (vs := .slice (some ⟨ide, 0, none⟩) (el cs i).length (el cs i).length) (i := iN) (s := el cs i) (nodeP.app hrd _) (fun _ => hu1.app _) (rowI_slv hsm) (rowI_rd ((keeps_app _).get re) (by rw [hcl]; exact startV_small hx)) hx htb hlI hcl
      rw [hOu, ← hnx] at hS
      generalize el V i = oV at *
      generalize hcN : el (nextC p cs fr V) i = cN at *
      refine awCall_det' (d := true) hS (by simp <;> omega) ?_
      refine ⟨[Slot.live (rowI cN)], by simp, ?_⟩
      have hQ2 := hQ.keeps (keeps_app [Slot.live (rowI iN), Slot.live (rowI cN)])
      obtain ⟨M2, p2, P2, O2⟩ := hQ2.putVal hb hil oV
      have hcid : cid < Mb.length := by obtain ⟨t, h4⟩ := hQ.cel; exact (List.getElem?_eq_some_iff.1 h4).1
      have hvid : vid < Mb.length := by obtain ⟨t, h4⟩ := hQ.val; exact (List.getElem?_eq_some_iff.1 h4).1
      have rN : M2[Mb.length + 1]? = some (.live (rowI cN)) := O2.2 _ _ (fun h => by rcases h with h | h <;> omega) (by simp)
      obtain ⟨M3, p3, P3, O3⟩ := P2.putCel (id := Mb.length + 1) (c := cN) hb hil rN (fun h => by have := hY _ h; have := hoff.1; omega)
      obtain ⟨-, -, e3b⟩ := P2.rows
      obtain ⟨-, f2b, -⟩ := hQ2.rows
      simp (disch := omega) [holes, f2b, e3b, hil, p2]
      rw [p3, ow_some]
      simp (disch := omega) [t14, t13, t12, t0, t1, wrap_in]
      have hstq := hst.set hO (by omega) hQ.len.2.2 (by rw [hi]; exact k6)
      rw [hi, Int.toNat_natCast, hcN] at hstq
      refine lpI (m - 1) (by omega) ⟨q + 1, _, cq.set i cN, by omega, by rw [hcur]; exact P3, hstq, ((hoffb.trans ((keeps_app _).off _)).trans O2).trans O3, by simp, by simp [t13], by simp [t12], by simp [t0], by simp [t1]⟩
  · obtain rfl : q = p.nodes.length := by omega
    have hst2 := hst.two ho
    have hcv : curV p (ordL p.nodes) cs fr vals p.nodes.length = V := by rw [← hV]; exact cur_vals hidx ho hvl
    rw [hcv] at hQ
    obtain ⟨b1, b2, b3, -, ⟨c5, b5⟩, ⟨c6, b6⟩, b0⟩ := hQ.cells
    simp [t14, t13, t12, t0, t1, b2]
    clear b1 b2 b3 b5 b6 b0 c5 c6 hst hm t14 t13 t12
    refine awLoop_T (fun m T M2 => ∃ (k : Nat) (vq : List Value) (cq : List (List Int)), k + m = p.nodes.length ∧ Play Y B M2 [iv p.inp, .slice A1 n1 c1, .slice A2 n2 c2, .slice A3 n3 c3] p PB oid vid cid V vq cq ∧ Stage2 p cs fr V k cq ∧ Off (XP vid cid) M M2 ∧ look T 84 = some (iv k) ∧ look T 83 = some (iv n2) ∧ look T 82 = some (.slice A2 n2 c2) ∧ look T 0 = some (.pointer (some ⟨PB, 0, none⟩)) ∧ look T 1 = some fv) p.nodes.length
      ⟨0, vq, cq, by omega, hQ, hst2, hoff, by simp, by simp, by simp, by simp [t0], by simp [t1]⟩ ?_
    clear hst2 hQ t0 t1 hoff
    rintro m T M1 ⟨k, vq, cq, hm, hQ, hst, hoff, t84, t83, t82, t0, t1⟩
    have ag := hoff.agree av
    have hbM1 : b ≤ M1.length := Nat.le_trans hbM hoff.1
    have h1 := patchP.agree h ag
    obtain ⟨u1, u2, u3, e, hu1, hu2, hu3⟩ := id h1
    simp only [List.cons.injEq, and_true, true_and] at e
    obtain ⟨rfl, rfl, rfl⟩ := e
    obtain ⟨B2, m2, d2, ee, q1, q2, q3⟩ := id hu2
    injection ee with ea eb ec
    subst ea; subst eb; subst ec
    have hnl := q3.1
    by_cases hil : k < p.nodes.length
    · obtain ⟨b1, b2, b3, -, ⟨c5, b5⟩, ⟨c6, b6⟩, b0⟩ := hQ.cells
      obtain ⟨id2, off2, us2, rfl, he2, hrd, hc2⟩ := q3.at_ (i := k) (by omega)
      obtain ⟨A, n, c, rfl, hu⟩ := node_box hrd
      have cN := cellsAt_of (n := 4) hc2 rfl (by omega)
      have hin2 : k < n2 := by omega
      simp (disch := omega) [t84, t83, t82, t0, t1, cN, he2, hin2, wrap_in]
      obtain ⟨Mb, hMb⟩ : ∃ Mb : Mem, Mb = M1 ++ [Slot.live ⟨[iv (el p.nodes k).k, iv (el p.nodes k).a, iv (el p.nodes k).b, .slice A n c], true, true, 138, 4⟩] := ⟨_, rfl⟩
      have kb : Keeps M1 Mb := by rw [hMb]; exact keeps_app _
      have lb : Mb.length = M1.length + 1 := by rw [hMb]; simp
      have cb : cellsAt Mb M1.length 0 4 = some [iv (el p.nodes k).k, iv (el p.nodes k).a, iv (el p.nodes k).b, .slice A n c] := by rw [hMb]; simp
      rw [← hMb]
      clear hMb
      replace hQ := hQ.keeps kb
      have hoffb := hoff.trans (kb.off (XP vid cid))
      replace hrd := nodeP.keeps hrd kb
      have hfr1 := (hfr.agree (hoff.agree av2)).keeps kb
      replace b5 := cellAt_keeps kb b5
      replace b6 := cellAt_keeps kb b6
      obtain ⟨e1', e2', e3'⟩ := hQ.rows
      have hx := hok _ (el_mem (l := p.nodes) (i := k) hil)
      obtain ⟨ide, ce, re, ne1⟩ := hQ.celAt hil
      have hval := hQ.valsV c5 hn24
      by_cases k6 : (el p.nodes k).k = 6
      · have hcq : el cq k = el cs k := hst.wait k (Nat.le_refl _) hil k6
        rw [hcq] at ce re
        have hcl := hc.2 k hil
        have hVl : V.length = p.nodes.length := hQ.len.1
        simp [k6]
        refine awDraw_M 21 [[],[0],[1,0],[2,1,0],[],[],[],[],[],[6,7,8],[],[10],[11,10],[12,11,10],[],[13,12,11,10,14],[15,13,12,11,10,14],[5,9,6,7,8,16,15,13,12,11,10,14],[17,5,9,6,7,8,16,15,13,12,11,10,14],[18,17,5,9,6,7,8,16,15,13,12,11,10,14],[18,17,5,9,6,7,8,16,15,13,12,11,10,14],[3,2,1,0,4,5,6,7,8,9,10,11,12,13,14,15,16,17,18,19,20],[21,3,2,1,0,4,5,6,7,8,9,10,11,12,13,14,15,16,17,18,19,20]] [] (by kernel_rfl) (by decide +kernel) (by decide +kernel) ?_
        simp (disch := omega) [t0, t1, b5, b6, ce, cb, e3', hil]
        have hnx := nx k hil
        have hdI := inputs_x (p := p) hrd b5 hval hfr1 hx hin hVl
        have hlI := inV_len (x := el p.nodes k) (fr := fr) (vals := V)
        have hOv : outV (el p.nodes k) p.tabs (inV (el p.nodes k) fr V) (el cs k) = el (el cs k) 0 := by simp [outV, k6]
        have hNv : ∀ o o', nextV (el p.nodes k) (inV (el p.nodes k) fr V) (el cs k) o = nextV (el p.nodes k) (inV (el p.nodes k) fr V) (el cs k) o' := fun o o' => by simp [nextV, k6]
        rw [hNv _ (outV (el p.nodes k) p.tabs (inV (el p.nodes k) fr V) (el cs k))] at hnx
        generalize inV (el p.nodes k) fr V = iN at *
        have hsm : iN.length ≤ 1048576 := by
          rw [hlI]
          split
          · omega
          · exact from_small hx
        refine awCall_det' (d := true) hdI (by omega) ?_
        have ceh := cellAt_app ce [Slot.hole]
        have b6h := cellAt_app b6 [Slot.hole]
        have ezh := rowEsz_keeps (keeps_app [Slot.hole]) e3'
        simp (disch := omega) [holes, b6h, ezh, ceh, hil]
        have hS := step_x (lo1 := 0) (hi1 := 0) (M := Mb ++ [Slot.live (rowI iN)]) (tv := .slice none 0 0) (vi := .slice (some ⟨Mb.length, 0, none⟩) iN.length iN.length) (vs := .slice (some ⟨ide, 0, none⟩) (el cs k).length (el cs k).length) (i := iN) (s := el cs k) (nodeP.app hrd _) (fun h => absurd k6 h) (rowI_slv hsm) (rowI_rd ((keeps_app _).get re) (by rw [hcl]; exact startV_small hx)) hx htb hlI hcl
        rw [← hnx] at hS
        generalize outV (el p.nodes k) p.tabs iN (el cs k) = oV at *
        generalize hcN : el (nextC p cs fr V) k = cN at *
        refine awCall_det' (d := true) hS (by simp <;> omega) ?_
        refine ⟨[Slot.live (rowI cN)], by simp, ?_⟩
        have hQ2 := hQ.keeps (keeps_app [Slot.live (rowI iN), Slot.live (rowI cN)])
        have hcid : cid < Mb.length := by obtain ⟨t, h4⟩ := hQ.cel; exact (List.getElem?_eq_some_iff.1 h4).1
        have hvid : vid < Mb.length := by obtain ⟨t, h4⟩ := hQ.val; exact (List.getElem?_eq_some_iff.1 h4).1
        have rN : (Mb ++ [Slot.live (rowI iN), Slot.live (rowI cN)])[Mb.length + 1]? = some (.live (rowI cN)) := by simp
        obtain ⟨M3, p3, P3, O3⟩ := hQ2.putCel (id := Mb.length + 1) (c := cN) hb hil rN (fun h => by have := hY _ h; have := hoff.1; omega)
        obtain ⟨-, -, e3b⟩ := hQ2.rows
        simp (disch := omega) [holes, e3b, hil, p3]
        try simp (disch := omega) [t84, t83, t82, t0, t1, wrap_in]
        have hstq := hst.set hil hQ.len.2.2
        rw [hcN] at hstq
        refine lpI (m - 1) (by omega) ⟨k + 1, _, cq.set k cN, by omega, P3, hstq, (hoffb.trans ((keeps_app _).off _)).trans O3, by simp, by simp [t83], by simp [t82], by simp [t0], by simp [t1]⟩
      · simp [k6]
        try simp (disch := omega) [t84, t83, t82, t0, t1, wrap_in]
        refine lpI (m - 1) (by omega) ⟨k + 1, vq, cq, by omega, hQ, hst.skip k6, hoffb, by simp, by simp [t83], by simp [t82], by simp [t0], by simp [t1]⟩
    · obtain rfl : k = p.nodes.length := by omega
      have hnlt : ¬ p.nodes.length < n2 := by omega
      simp (disch := omega) [t84, t83, t82, t0, t1, hnlt]
      have := hst.end_ hQ.len.2.2
      subst this
      exact ⟨⟨vq, hQ⟩, hoff⟩
end Go.Proofs.Ytimijeeihicohaa
