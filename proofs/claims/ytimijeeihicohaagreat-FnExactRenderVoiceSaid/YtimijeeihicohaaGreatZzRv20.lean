/- Parts of the proof, together: Nodes, as the reference plays them: next states; the state at the beginning. A frame, as the reference plays it. Frames one behind the other, as the reference plays them. The signal of a voice: the reference's. Instruments, patches, envelopes: whether they are the same. Instruments: whether they are the same, the rest. ControlsOf, as its law needs it. RenderVoice, as its law needs it. No conditions. -/
import Derived.Test.YtimijeeihicohaaGreatZzRv19
import Derived.Test.YtimijeeihicohaaGreatZzRv10
namespace Go.Proofs.YtimijeeihicohaaGreat
open Go.RowKit
set_option linter.unusedVariables false
set_option linter.unusedSimpArgs false
set_option maxRecDepth 100000
attribute [local simp] List.getElem?_cons_zero
attribute [local irreducible] awCond awCall awLoop awDraw ow retQ retC resQ Keeps
set_option maxHeartbeats 1000000 in
theorem l06Next_x {M : Mem} {lo hi lo2 hi2 lo3 hi3 id0 off0 : Nat} {us : List Value} {x : Node} {vi vs : Value} {i s : List Int} {p : Patch} (o : Int) (h : nodeP.rd lo hi M x us) (hc0 : Cl M id0 off0 us) (hi : SlV intP lo2 hi2 M vi i) (hs : SlV intP lo3 hi3 M vs s) (hx : NodeOk p x)
    (hil : i.length = if x.k = 1 then 1 else x.from_.length) (hsl : s.length = (startV x).length) :
    Det Tryz.prog M.length 220 [.pointer (some ⟨id0, off0, none⟩), vi, vs, iv o] M (.slice (some ⟨M.length, 0, none⟩) (nextV x i s o).length (nextV x i s o).length) (M ++ [.live (rowI (nextV x i s o))]) := by
  refine Ctr.compact (rowI_plain _) ?_
  obtain ⟨A, n, c, rfl, hu⟩ := node_box h
  have ck := hc0 0 _ rfl
  have ca := hc0 1 _ rfl
  simp only [Nat.add_zero] at ck
  first | (refine ctr_fn Tryz.func220 rfl Tryz.ntmps220 Tryz.results220 rfl rfl (by simp) ?_) | (refine ctr_fnC Tryz.func220 rfl Tryz.ntmps220 Tryz.results220 rfl (by simp) ?_)
  simp [ck]
  generalize hn : nextV x i s o = nx
  have hn2 := hn
  have hsl2 := hsl
  unfold nextV at hn2
  unfold startV at hsl2
  generalize hkk : x.k = kk at *
  by_cases k6 : kk = 6
  · subst k6
    obtain ⟨idi, offi, di, rfl, ei, i0, -, -⟩ := slv_at hi (n := 1) (by rw [hil, if_neg (by omega)]; exact hx.one (by omega)) (by omega)
    have hs1 : 0 < s.length := by
      rw [hsl]; unfold startV; rw [hkk]
      simp
      have := hx.del (by omega); omega
    obtain ⟨ids, offs, ds, rfl, es, s0, -, -⟩ := slv_at hs (n := s.length) rfl hs1
    have hd := slv_drop hs (by omega)
    have htl : s.tail.length = s.length - 1 := by simp
    rw [List.drop_one] at hd
    have hsm : s.length ≤ 1048576 := by rw [hsl]; exact startV_small hx
    simp at hn2
    subst hn2
    generalize hT : s.tail = tl at *
    simp
    refine awDraw_D 7 [[],[0],[1,0],[],[3],[4,3],[5,4,3],[2,1,0,6,5,4,3],[7,2,1,0,6,5,4,3]] (by kernel_rfl) (by decide +kernel) ?_
    simp (disch := omega) [es, hs1]
    refine ⟨by omega, ?_⟩
    refine awCall_det' (d := true) (l00Own_x hd (by omega)) (by first | omega | (simp <;> omega) | simp) ?_
    have eih := rowEsz_keeps (keeps_app [Slot.hole]) ei
    have cih := cellAt_app i0 [Slot.hole]
    simp (disch := omega) [holes, ei, i0, eih, cih, fill1I]
    refine append_new (M := M) (M1 := M ++ [Slot.live (rowI tl)]) (l := tl) (a := el i 0) (by simp) (by simp) ?_ ?_ ⟨_, _, _, rfl⟩ (by omega) (by omega) ?_
    · have := (rowI_acc (M := M) (l := tl))
      simpa using this
    · exact Same.appS _ _
    · intro r M' h1 h2
      simp at h1
      try simp
      exact ⟨h1, h2⟩
  simp [k6]
  by_cases k17 : kk = 17
  · subst k17
    have hs1 : 0 < s.length := by
      rw [hsl]; unfold startV; rw [hkk]
      simp
      have := hx.comb (by omega); omega
    obtain ⟨ids, offs, ds, rfl, es, s0, -, -⟩ := slv_at hs (n := s.length) rfl hs1
    have hd := slv_drop hs (by omega)
    have htl : s.tail.length = s.length - 1 := by simp
    rw [List.drop_one] at hd
    have hsm : s.length ≤ 1048576 := by rw [hsl]; exact startV_small hx
    simp at hn2
    subst hn2
    generalize hT : s.tail = tl at *
    simp
    simp (disch := omega) [es, hs1]
    refine ⟨by omega, ?_⟩
    refine awCall_det' (l00Own_x hd (by omega)) (by first | omega | (simp <;> omega) | simp) ?_
    simp only [fill1I, ow_some]
    try simp [fill1I]
    refine append_new (M := M) (M1 := M ++ [Slot.live (rowI tl)]) (l := tl) (a := o) (by simp) (by simp [fill1I]) ?_ ?_ ⟨_, _, _, rfl⟩ (by omega) (by omega) ?_
    · have := (rowI_acc (M := M) (l := tl))
      simpa using this
    · exact Same.appS _ _
    · intro r M' h1 h2
      simp at h1
      try simp
      exact ⟨h1, h2⟩
  simp [k17]
  by_cases k7 : kk = 7
  · subst k7
    simp at hn2
    simp [fill1I]
    rw [← hn2]
    exact ⟨newRow_one, keeps_app _⟩
  simp [k7]
  by_cases k16 : kk = 16
  · subst k16
    simp at hn2
    simp [fill1I]
    rw [← hn2]
    exact ⟨newRow_one, keeps_app _⟩
  simp [k16]
  by_cases k8 : kk = 8
  · subst k8
    obtain ⟨idi, offi, di, rfl, ei, i0, -, -⟩ := slv_at hi (n := 1) (by rw [hil, if_neg (by omega)]; exact hx.one (by omega)) (by omega)
    simp at hn2
    simp [i0, ei, fill1I]
    rw [← hn2]
    exact ⟨newRow_one, keeps_app _⟩
  simp [k8]
  by_cases k12 : kk = 12
  · subst k12
    obtain ⟨idi, offi, di, rfl, ei, i0, -, -⟩ := slv_at hi (n := 1) (by rw [hil, if_neg (by omega)]; exact hx.one (by omega)) (by omega)
    have hs1 : 0 < s.length := by
      rw [hsl]; unfold startV; rw [hkk]
      simp
      skip
    obtain ⟨ids, offs, ds, rfl, es, s0, -, -⟩ := slv_at hs (n := s.length) rfl hs1
    simp at hn2
    simp
    refine awDraw_E 6 [[],[0],[1,0],[],[3],[4,3],[2,1,0,5,4,3],[6,2,1,0,5,4,3],[7,6,2,1,0,5,4,3]] (by kernel_rfl) (by kernel_rfl) ?_
    simp [i0, ei, s0, es, hs1]
    refine awCall_det' (l01Add_s _ _) (by first | omega | (simp <;> omega) | simp) ?_
    simp [fill1I]
    rw [smp_add2]
    rw [← hn2]
    exact ⟨newRow_one, keeps_app _⟩
  simp [k12]
  by_cases k14 : kk = 14
  · subst k14
    have hs1 : 0 < s.length := by
      rw [hsl]; unfold startV; rw [hkk]
      simp
      skip
    obtain ⟨ids, offs, ds, rfl, es, s0, -, -⟩ := slv_at hs (n := s.length) rfl hs1
    simp at hn2
    simp [s0, es, hs1]
    refine awCall_det' (l06Noise_s _) (by first | omega | (simp <;> omega) | simp) ?_
    simp [fill1I]
    rw [← hn2]
    exact ⟨newRow_one, keeps_app _⟩
  simp [k14]
  have e0 : nx = [] := by
    have n1 : ¬ (kk = 7 ∨ kk = 16) := by omega
    rw [← hn2, if_neg k6, if_neg k17, if_neg n1, if_neg k8, if_neg k12, if_neg k14]
  subst e0
  try simp
  exact ⟨⟨M.length, 0, true, rfl, Nat.le_refl _, by simp [rowI, cellsL], fun h => by cases h⟩, keeps_app _⟩
theorem build1 {u : Value} {q : Option Addr} {a b : Nat} : Instr.fill (fun x => [(0, 1)][x]?) #[u] [(0, .slice q a b)] = some #[.slice q a b] := by rfl
theorem LLv.set_o {B : Nat} {M : Mem} {v : Value} {cs : List (List Int)} {i : Nat} {s : Slot} {r : Row} (h : LLv B M v cs) (ha : Apart v i) (hr : M[i]? = some (.live r)) (he : r.elem ≠ 2) : LLv B (M.set i s) v cs := by
  obtain ⟨vs, ⟨A, n, c, rfl, g1, g2⟩, h2, h3⟩ := h
  refine ⟨vs, ⟨A, n, c, rfl, g1, ?_⟩, h2, fun k hk' => ?_⟩
  · rcases g2 with g2 | ⟨id, t, rfl, g3, g4⟩
    · exact .inl g2
    · exact .inr ⟨id, t, rfl, g3, by rw [List.getElem?_set_ne (ha _ _ _ _ rfl rfl)]; exact g4⟩
  · obtain ⟨id, a, b, c, d⟩ := h3 k hk'
    refine ⟨id, a, b, ?_, d⟩
    rw [List.getElem?_set_ne (fun e => ?_)]
    · exact c
    · rw [← e, hr] at c
      injection c with c
      injection c with c
      rw [c] at he
      exact he rfl
theorem l08Start_s {M : Mem} {lo hi id0 off0 : Nat} {us : List Value} {p : Patch} (h : patchP.rd lo hi M p us) (hc0 : Cl M id0 off0 us) (hx : ∀ y, y ∈ p.nodes → NodeOk p y) (hn24 : p.nodes.length ≤ 24) :
    Ctr Tryz.prog M.length 146 [.pointer (some ⟨id0, off0, none⟩)] M fun r M' => ∃ v, r = .agg #[v] ∧ LLv M.length M' v (p.nodes.map startV) ∧ Keeps M M' := by
  obtain ⟨A1, n1, c1, A2, n2, c2, A3, n3, c3, rfl⟩ := patch_isV h
  have cn := hc0 2 _ rfl
  obtain ⟨u1, u2, u3, e, hu1, hu2, hu3⟩ := h
  simp only [List.cons.injEq, and_true, true_and] at e
  obtain ⟨rfl, rfl, rfl⟩ := e
  obtain ⟨B2, m2, d2, e2, q1, q2, q3⟩ := hu2
  injection e2 with e2a e2b e2c
  subst e2a; subst e2b; subst e2c
  have hnl := q3.1
  first | (refine ctr_fn Tryz.func146 rfl Tryz.ntmps146 Tryz.results146 rfl rfl (by simp) ?_) | (refine ctr_fnC Tryz.func146 rfl Tryz.ntmps146 Tryz.results146 rfl (by simp) ?_)
  simp [build1]
  refine awLoop_T (fun q T M1 => ∃ (k : Nat) (v : Value), k + q = n2 ∧ Keeps M M1 ∧ M.length + 3 ≤ M1.length ∧ M1[M.length]? = some (.live ⟨[.slice none 0 0], true, true, 209, 1⟩) ∧ M1[M.length + 2]? = some (.live ⟨[v], true, true, 209, 1⟩) ∧ LLv (M.length + 1) M1 v ((p.nodes.take k).map startV) ∧ Apart v (M.length + 2) ∧ look T 4 = some (iv k) ∧ look T 3 = some (.pointer (some ⟨M.length + 2, 0, none⟩)) ∧ look T 2 = some (.pointer (some ⟨M.length, 0, none⟩)) ∧ look T 0 = some (.pointer (some ⟨id0, off0, none⟩))) n2
    ⟨0, .slice (some ⟨M.length + 1, 0, none⟩) 0 0, by omega, keeps_app _, by simp, by simp, by simp, ⟨[], ⟨_, 0, 0, rfl, rfl, .inr ⟨M.length + 1, true, rfl, Nat.le_refl _, by simp [cellsL_nil]⟩⟩, rfl, fun k hk => by simp at hk⟩, fun A n c a e ea => by injection e with e; subst e; injection ea with ea; subst ea; show M.length + 2 ≠ M.length + 1; omega, by simp, by simp, by simp, by simp⟩ ?_
  rintro q T M1 ⟨k, v, hq, k1, l1, r1, r2, hL, hap, t4, t3, t2, t0⟩
  have cn1 := cellAt_keeps k1 cn
  by_cases hlt : k < n2
  · obtain ⟨id, off, us, rfl, he, hrd, hc⟩ := q3.at_ hlt
    have eN := rowEsz_keeps k1 he
    have hrd1 := nodeP.keeps hrd k1
    have hc1 := Cl.keeps hc k1
    have cv : cellAt M1 (M.length + 2) 0 = some v := by simp [cellAt, r2]
    simp (disch := omega) [t4, t3, t2, t0, hlt, cn1, eN, wrap_in]
    refine awDraw_D 10 [[],[0],[],[2],[3,2],[4,3,2],[],[5,4,3,2,6],[7,5,4,3,2,6],[8,7,5,4,3,2,6],[1,0,9,8,7,5,4,3,2,6],[0,1,2,3,4,5,6,7,8,9,10],[11,0,1,2,3,4,5,6,7,8,9,10]] (by kernel_rfl) (by decide +kernel) ?_
    simp (disch := omega) [t4, t3, t2, t0, cn1, eN, cv, hlt]
    refine awCall_det' (d := true) (l06Start_x (p := p) hrd1 hc1 (hx _ (el_mem (by omega)))) (by omega) ?_
    simp (disch := omega) [fill1S]
    refine LLv.push (c := startV (el p.nodes k)) hL (by omega) (by omega) (by simp) rfl (by simp; omega) fun v' M2 hL2 hs2 hd2 => ?_
    have k2 : Keeps M M2 := hs2.keeps k1 (by omega)
    have r12 := hs2.2 _ _ (by omega) r1
    obtain ⟨r22, hap2⟩ := hd2 _ _ hap r2
    have l2 := hs2.1
    obtain ⟨A', n', c', rfl⟩ := hL2.one
    simp (disch := omega) [t4, t3, t2, t0]
    rw [put_whole (vs := [.slice A' n' c']) r22 (by omega) rfl (by simp), ow_some]
    have lt2 := (List.getElem?_eq_some_iff.1 r22).1
    try simp (disch := omega) [t4, t3, t2, t0, wrap_in]
    refine lpI (q - 1) (by omega) ⟨k + 1, _, by omega, keeps_set k2 (by omega), by simp; omega, by rw [List.getElem?_set_ne (by omega)]; exact r12, List.getElem?_set_self lt2, ?_, hap2, by simp, by simp [t3], by simp [t2], by simp [t0]⟩
    rw [take_el (by omega), List.map_append]
    exact hL2.set_o hap2 r22 (by simp)
  · obtain rfl : k = n2 := by omega
    have cv : cellsAt M1 (M.length + 2) 0 1 = some [v] := by simp [cellsAt, r2]
    rw [List.take_of_length_le (by omega)] at hL
    obtain ⟨A', n', c', rfl⟩ := hL.one
    simp (disch := omega) [t4, t3, t2, t0, cn1, cv]
    rw [put_whole (vs := [.slice A' n' c']) r1 (by omega) rfl (by simp), ow_some]
    have lt2 := (List.getElem?_eq_some_iff.1 r1).1
    have c2 : cellsAt (M1.set M.length (.live ⟨[.slice A' n' c'], true, true, 209, 1⟩)) M.length 0 1 = some [.slice A' n' c'] := by simp [cellsAt, List.getElem?_set_self lt2]
    simp [c2, t2]
    exact ⟨(hL.set_lt (by omega)).low (by omega), keeps_set k1 (by omega)⟩
end Go.Proofs.YtimijeeihicohaaGreat

namespace Go.Proofs.YtimijeeihicohaaGreat
open Go.RowKit
set_option linter.unusedVariables false
set_option linter.unusedSimpArgs false
set_option maxRecDepth 100000
attribute [local simp] List.getElem?_cons_zero
attribute [local irreducible] awCond awCall awLoop awDraw ow retQ retC resQ Keeps
theorem formB_parts {p : Patch} (hf : formB p = true) : (∀ y, y ∈ p.nodes → NodeOk p y) ∧ tablesB p.tabs = true ∧ p.nodes.length ≤ 24 ∧ (∀ y, y ∈ p.nodes → idxB p.nodes.length y.from_ = true) ∧ 0 ≤ p.inp ∧ p.inp ≤ 4 ∧ idxB p.nodes.length p.outs = true := by
  obtain ⟨hn24, hidx, hnF⟩ := formB_nodes hf
  unfold formB at hf
  simp only [Bool.and_eq_true, decide_eq_true_eq] at hf
  have hi := inB_iff.1 hf.1.1.1.1.1
  exact ⟨fun y hy => nodeF_ok (hnF y hy), hf.1.1.1.1.2, hn24, hidx, hi.1, hi.2, hf.1.2⟩
theorem okCs_small {p : Patch} {cs : List (List Int)} (h : okCs p cs) (hx : ∀ y, y ∈ p.nodes → NodeOk p y) : ∀ c, c ∈ cs → c.length ≤ 1048576 := fun c hc => by
  obtain ⟨k, hk, rfl⟩ := List.getElem_of_mem hc
  rw [el_eq hk, h.2 k (by rw [← h.1]; exact hk)]
  exact startV_small (hx _ (el_mem (by rw [← h.1]; exact hk)))
set_option maxHeartbeats 2000000 in
theorem l08Values_x {M : Mem} {lo hi lo1 hi1 lo2 hi2 lo3 hi3 id0 off0 sid : Nat} {us : List Value} {p : Patch} {ov sv fv : Value} {fr : List Int} {cs : List (List Int)} (h : patchP.rd lo hi M p us) (hc0 : Cl M id0 off0 us) (hf : formB p = true) (ho : (ordL p.nodes).length = p.nodes.length)
    (hov : SlV intP lo1 hi1 M ov (ordL p.nodes)) (hsv : cellAt M sid 0 = some sv) (hcs : SlV tabP lo2 hi2 M sv cs) (hok : okCs p cs) (hfv : SlV intP lo3 hi3 M fv fr) (hin : p.inp = fr.length) :
    Det Tryz.prog M.length 190 [.pointer (some ⟨id0, off0, none⟩), ov, .pointer (some ⟨sid, 0, none⟩), fv] M (.slice (some ⟨M.length, 0, none⟩) p.nodes.length p.nodes.length) (M ++ [.live (rowI (valsV p cs fr))]) := by
  obtain ⟨hx, htb, hn24, hidx, -, -, -⟩ := formB_parts hf
  have hO := ordL_ok hidx
  refine Ctr.compact (rowI_plain _) ?_
  obtain ⟨A1, n1, c1, A2, n2, c2, A3, n3, c3, rfl⟩ := patch_isV h
  have ct := hc0 1 _ rfl
  have cn := hc0 2 _ rfl
  obtain ⟨u1, u2, u3, e, hu1, hu2, hu3⟩ := id h
  simp only [List.cons.injEq, and_true, true_and] at e
  obtain ⟨rfl, rfl, rfl⟩ := e
  obtain ⟨B2, m2, d2, e2, q1, q2, q3⟩ := id hu2
  injection e2 with e2a e2b e2c
  subst e2a; subst e2b; subst e2c
  have hnl := q3.1
  obtain ⟨Ao, no, co, rfl, hno, -, hSo, -⟩ := sl_take hov
  obtain ⟨As, ns, cs', rfl, g1, g2, g3⟩ := id hcs
  have hnsl := g3.1
  have hcl := hok.1
  first | (refine ctr_fn Tryz.func190 rfl Tryz.ntmps190 Tryz.results190 rfl rfl (by simp) ?_) | (refine ctr_fnC Tryz.func190 rfl Tryz.ntmps190 Tryz.results190 rfl (by simp) ?_)
  simp [cn]
  refine ⟨by omega, ?_⟩
  refine awLoop_T (fun m T M1 => ∃ q : Nat, q + m = n2 ∧ Keeps M M1 ∧ M1[M.length]? = some (.live ⟨cellsL intR (curV p (ordL p.nodes) cs fr (List.replicate n2 0) q), true, true, 2, 1⟩) ∧ look T 10 = some (iv q) ∧ look T 9 = some (.slice (some ⟨M.length, 0, none⟩) n2 n2) ∧ look T 0 = some (.pointer (some ⟨id0, off0, none⟩)) ∧ look T 1 = some (.slice Ao no co) ∧ look T 2 = some (.pointer (some ⟨sid, 0, none⟩)) ∧ look T 3 = some fv) n2
    ⟨0, by omega, keeps_app _, by simp [curV, cellsL_rep], by simp, by simp, by simp, by simp, by simp, by simp⟩ ?_
  rintro m T M1 ⟨q, hm, k1, rv, t10, t9, t0, t1, t2, t3⟩
  have hl1 := k1.len
  by_cases hlt : q < n2
  · obtain ⟨i, hi, hil⟩ := hO.idx q (by omega)
    obtain ⟨ido, offo, rfl, heo, hco⟩ := sl_cells hSo (by omega)
    have c_o := cellAt_keeps k1 (hco q (by omega))
    rw [hi] at c_o
    have e_o := rowEsz_keeps k1 heo
    have cn1 := cellAt_keeps k1 cn
    have ct1 := cellAt_keeps k1 ct
    have sv1 := cellAt_keeps k1 hsv
    obtain ⟨id2, off2, us2, rfl, he2, hrd, hc2⟩ := q3.at_ (i := i) (by omega)
    have eN := rowEsz_keeps k1 he2
    have hrd1 := nodeP.keeps hrd k1
    have hc21 := Cl.keeps hc2 k1
    have hxi := hx _ (el_mem (l := p.nodes) (i := i) hil)
    obtain ⟨idc, offc, usc, rfl, hec, ⟨ui, rfl, hui⟩, hcc⟩ := g3.at_ (i := i) (by omega)
    have cc1 := cellAt_keeps k1 (cl_cons.1 hcc).1
    simp only [Nat.mul_one] at cc1
    have ec1 := rowEsz_keeps k1 hec
    have hqo : q < no := by omega
    have hin2 : i < n2 := by omega
    have hins : i < ns := by omega
    have hval : SlV intP M.length (M.length + 1) M1 (.slice (some ⟨M.length, 0, none⟩) n2 n2) (curV p (ordL p.nodes) cs fr (List.replicate n2 0) q) := by
      refine ⟨_, _, _, rfl, by omega, (fun h => by cases h), SlP.of_sl ⟨by rw [curV_len]; simp, fun _ => ⟨M.length, 0, rfl, by simp [rowEsz, rv], fun j y hy => by simpa [cellAt, rv] using hy⟩⟩ fun a e _ => ?_⟩
      injection e with e
      subst e
      exact ⟨Nat.le_refl _, Nat.lt_succ_self _⟩
    simp (disch := omega) [t10, t9, t0, t1, t2, t3, hqo, c_o, e_o, cn1, eN, hin2, wrap_in]
    refine awDraw_M 18 [[],[],[],[],[3],[4,3],[5,4,3],[],[],[],[7,8,9],[],[11],[12,11],[13,12,11],[],[14,13,12,11,15],[16,14,13,12,11,15],[2,6,5,4,3,10,7,8,9,17,16,14,13,12,11,15],[0,1,2,3,4,5,6,7,8,9,10,11,12,13,14,15,16,17,18],[19,0,1,2,3,4,5,6,7,8,9,10,11,12,13,14,15,16,17,18]] [0,1] (by kernel_rfl) (by decide +kernel) (by decide +kernel) ?_
    simp (disch := omega) [t10, t9, t0, t1, t2, t3, ct1]
    have hvl : (List.replicate n2 (0 : Int)).length = p.nodes.length := by simp [hnl]
    have hdI := l08In_x (p := p) hrd1 hc21 hval (hfv.keeps k1) hxi hin (by rw [curV_len]; exact hvl)
    have hlI := inV_len (x := el p.nodes i) (fr := fr) (vals := curV p (ordL p.nodes) cs fr (List.replicate n2 0) q)
    have hcur : curV p (ordL p.nodes) cs fr (List.replicate n2 0) (q + 1) = (curV p (ordL p.nodes) cs fr (List.replicate n2 0) q).set i (outV (el p.nodes i) p.tabs (inV (el p.nodes i) fr (curV p (ordL p.nodes) cs fr (List.replicate n2 0) q)) (el cs i)) := by
      rw [curV, hi]
      simp
    have hsm : (inV (el p.nodes i) fr (curV p (ordL p.nodes) cs fr (List.replicate n2 0) q)).length ≤ 1048576 := by
      rw [hlI]
      split
      · omega
      · exact from_small hxi
    generalize inV (el p.nodes i) fr (curV p (ordL p.nodes) cs fr (List.replicate n2 0) q) = iN at *
    refine awCall_det' (d := true) hdI (by omega) ?_
    have svh := cellAt_app sv1 [Slot.hole]
    have cch := cellAt_app cc1 [Slot.hole]
    have ech := rowEsz_keeps (keeps_app [Slot.hole]) ec1
    simp (disch := omega) [holes, svh, cch, ech, hins]
    have hOut := l06Out_s (M := M1 ++ [Slot.live (rowI iN)]) (tv := .slice A1 n1 c1) (vi := .slice (some ⟨M1.length, 0, none⟩) iN.length iN.length) (vs := ui) (i := iN) (s := el cs i) (nodeP.app hrd1 _) (Cl.app hc21 _) ((hu1.keeps k1).app _) (rowI_slv hsm) ((hui.keeps k1).app _) hxi htb hlI (hok.2 i hil)
    refine awCall_det' hOut (by simp <;> omega) ?_
    generalize outV (el p.nodes i) p.tabs iN (el cs i) = oN at *
    have rv2 : (M1 ++ [Slot.live (rowI iN)])[M.length]? = some (.live ⟨cellsL intR (curV p (ordL p.nodes) cs fr (List.replicate n2 0) q), true, true, 2, 1⟩) := (keeps_app _).get rv
    have hp := put_rec (R := intR) (b := M.length) (a := oN) (off := i) (i := i) rv2 (by omega) (by rw [curV_len]; simp; omega) (by omega) rfl
    have hp' : putCells M.length (M1 ++ [Slot.live (rowI iN)]) M.length i [Value.int IntKind.i64 oN] = _ := hp
    have ev2 : rowEsz (M1 ++ [Slot.live (rowI iN)]) M.length = some 1 := by simp [rowEsz, rv2]
    have lt2 := (List.getElem?_eq_some_iff.1 rv2).1
    simp (disch := omega) [ev2, hin2, hp']
    try simp (disch := omega) [t10, t9, t0, t1, t2, t3, wrap_in]
    refine lpI (m - 1) (by omega) ⟨q + 1, by omega, keeps_set (k1.app _) (Nat.le_refl _), ?_, by simp, by simp [t9], by simp [t0], by simp [t1], by simp [t2], by simp [t3]⟩
    rw [List.getElem?_set_self lt2, hcur]
  · obtain rfl : q = n2 := by omega
    have hnn : ¬ q < no := by omega
    simp (disch := omega) [t10, t9, t0, t1, t2, t3, hnn]
    refine ⟨?_, k1⟩
    have e : valsV p cs fr = curV p (ordL p.nodes) cs fr (List.replicate q 0) q := by unfold valsV; rw [hnl]
    rw [e]
    rw [hnl]
    exact newRow_in (by rw [curV_len]; simp) (Nat.le_refl _) rv
set_option maxHeartbeats 2000000 in
theorem l08Step_s {M : Mem} {b lo hi lo2 hi2 lo3 hi3 lo4 hi4 id0 off0 sid : Nat} {us : List Value} {p : Patch} {sv fv vv : Value} {fr V : List Int} {cs : List (List Int)} (h : patchP.rd lo hi M p us) (hc0 : Cl M id0 off0 us) (hf : formB p = true)
    (hsv : M[sid]? = some (.live ⟨[sv], true, true, 209, 1⟩)) (hcs : SlV tabP lo2 hi2 M sv cs) (hok : okCs p cs) (hfv : SlV intP lo3 hi3 M fv fr) (hin : p.inp = fr.length) (hvv : SlV intP lo4 hi4 M vv V) (hvl : V.length = p.nodes.length) (hb : b ≤ sid) :
    Ctr Tryz.prog b 191 [.pointer (some ⟨id0, off0, none⟩), .pointer (some ⟨sid, 0, none⟩), fv, vv] M fun _ M' => ∃ v', M'[sid]? = some (.live ⟨[v'], true, true, 209, 1⟩) ∧ SlV tabP M.length M'.length M' v' (nextC p cs fr V) ∧ M.length ≤ M'.length ∧ ∀ (i : Nat) s, i ≠ sid → M[i]? = some s → M'[i]? = some s := by
  obtain ⟨hx, htb, hn24, hidx, -, -, -⟩ := formB_parts hf
  have hsl : sid < M.length := (List.getElem?_eq_some_iff.1 hsv).1
  obtain ⟨A1, n1, c1, A2, n2, c2, A3, n3, c3, rfl⟩ := patch_isV h
  have cn := hc0 2 _ rfl
  obtain ⟨u1, u2, u3, e, hu1, hu2, hu3⟩ := id h
  simp only [List.cons.injEq, and_true, true_and] at e
  obtain ⟨rfl, rfl, rfl⟩ := e
  obtain ⟨B2, m2, d2, e2, q1, q2, q3⟩ := id hu2
  injection e2 with e2a e2b e2c
  subst e2a; subst e2b; subst e2c
  have hnl := q3.1
  obtain ⟨As, ns, cs', rfl, g1, g2, g3⟩ := id hcs
  have hnsl := g3.1
  have hcl := hok.1
  obtain ⟨Av, nv, cv, rfl, hnv, -, hSv, -⟩ := sl_take hvv
  have nx := fun (k : Nat) hk => nextC_el (p := p) (cs := cs) (fr := fr) (V := V) (k := k) hk
  have csv : cellAt M sid 0 = some (.slice As ns cs') := by simp [cellAt, hsv]
  first | (refine ctr_fn Tryz.func191 rfl Tryz.ntmps191 Tryz.results191 rfl rfl (by simp) ?_) | (refine ctr_fnC Tryz.func191 rfl Tryz.ntmps191 Tryz.results191 rfl (by simp) ?_)
  simp
  refine awLoop_T (fun m T M1 => ∃ (k : Nat) (v : Value), k + m = n2 ∧ Keeps M M1 ∧ LLv M.length M1 v ((nextC p cs fr V).take k) ∧ look T 9 = some (iv k) ∧ look T 8 = some v ∧ look T 0 = some (.pointer (some ⟨id0, off0, none⟩)) ∧ look T 1 = some (.pointer (some ⟨sid, 0, none⟩)) ∧ look T 2 = some fv ∧ look T 3 = some (.slice Av nv cv)) n2
    ⟨0, .slice (some ⟨M.length, 0, none⟩) 0 0, by omega, keeps_app _, ⟨[], ⟨_, 0, 0, rfl, rfl, .inr ⟨M.length, true, rfl, Nat.le_refl _, by simp [cellsL_nil]⟩⟩, rfl, fun k hk => by simp at hk⟩, by simp, by simp, by simp, by simp, by simp, by simp⟩ ?_
  rintro m T M1 ⟨k, v, hm, k1, hL, t9, t8, t0, t1, t2, t3⟩
  have hl1 := k1.len
  have cn1 := cellAt_keeps k1 cn
  by_cases hlt : k < n2
  · obtain ⟨id2, off2, us2, rfl, he2, hrd, hc2⟩ := q3.at_ hlt
    have eN := rowEsz_keeps k1 he2
    have hrd1 := nodeP.keeps hrd k1
    have hc21 := Cl.keeps hc2 k1
    have hxi := hx _ (el_mem (l := p.nodes) (i := k) (by omega))
    obtain ⟨idc, offc, usc, rfl, hec, ⟨ui, rfl, hui⟩, hcc⟩ := g3.at_ (i := k) (by omega)
    have cc1 := cellAt_keeps k1 (cl_cons.1 hcc).1
    simp only [Nat.mul_one] at cc1
    have ec1 := rowEsz_keeps k1 hec
    have sv1 := cellAt_keeps k1 csv
    obtain ⟨idv, offv, rfl, hev, hcv⟩ := sl_cells hSv (by omega)
    have cv1 := cellAt_keeps k1 (hcv k (by omega))
    have ev1 := rowEsz_keeps k1 hev
    have hins : k < ns := by omega
    have hknv : k < nv := by omega
    simp (disch := omega) [t9, t8, t0, t1, t2, t3, cn1, eN, hlt, wrap_in]
    refine awDraw_D 19 [[],[],[],[],[],[2,3,4],[],[6],[7,6],[8,7,6],[],[9,8,7,6,10],[11,9,8,7,6,10],[],[],[13,14],[15,13,14],[1,5,2,3,4,12,11,9,8,7,6,10,16,15,13,14],[17,1,5,2,3,4,12,11,9,8,7,6,10,16,15,13,14],[0,18,17,1,5,2,3,4,12,11,9,8,7,6,10,16,15,13,14],[19,0,18,17,1,5,2,3,4,12,11,9,8,7,6,10,16,15,13,14]] (by kernel_rfl) (by decide +kernel) ?_
    simp (disch := omega) [t9, t8, t0, t1, t2, t3]
    have hdI := l08In_x (p := p) hrd1 hc21 (hvv.keeps k1) (hfv.keeps k1) hxi hin hvl
    have hlI := inV_len (x := el p.nodes k) (fr := fr) (vals := V)
    have hnx := nx k (by omega)
    have hsm : (inV (el p.nodes k) fr V).length ≤ 1048576 := by
      rw [hlI]
      split
      · omega
      · exact from_small hxi
    generalize inV (el p.nodes k) fr V = iN at *
    refine awCall_det' (d := true) hdI (by omega) ?_
    have svh := cellAt_app sv1 [Slot.hole]
    have cch := cellAt_app cc1 [Slot.hole]
    have ech := rowEsz_keeps (keeps_app [Slot.hole]) ec1
    have cvh := cellAt_app cv1 [Slot.hole]
    have evh := rowEsz_keeps (keeps_app [Slot.hole]) ev1
    simp (disch := omega) [holes, svh, cch, ech, hins, cvh, evh, hknv]
    have hNx := l06Next_x (M := M1 ++ [Slot.live (rowI iN)]) (vi := .slice (some ⟨M1.length, 0, none⟩) iN.length iN.length) (vs := ui) (i := iN) (s := el cs k) (p := p) (el V k) (nodeP.app hrd1 _) (Cl.app hc21 _) (rowI_slv hsm) ((hui.keeps k1).app _) hxi hlI (hok.2 k (by omega))
    rw [← hnx] at hNx
    generalize hcN : el (nextC p cs fr V) k = cN at *
    refine awCall_det' (d := true) hNx (by simp <;> omega) ?_
    refine ⟨[Slot.live (rowI cN)], by simp, ?_⟩
    simp (disch := omega) [holes, fill1S, t8]
    refine LLv.push (M1 := M1 ++ [Slot.live (rowI iN)]) (c := cN) (hL.keeps (keeps_app _)) (by omega) (by simp; omega) (by simp) (by simp) (by simp [nextC_len]; omega) fun v' M2 hL2 hs2 _ => ?_
    have k2 : Keeps M M2 := hs2.keeps (k1.app _) (Nat.le_refl _)
    try simp (disch := omega) [t9, t8, t0, t1, t2, t3, wrap_in]
    refine lpI (m - 1) (by omega) ⟨k + 1, v', by omega, k2, ?_, by simp, by simp, by simp [t0], by simp [t1], by simp [t2], by simp [t3]⟩
    rw [take_el (by rw [nextC_len]; omega), hcN]
    exact hL2
  · obtain rfl : k = n2 := by omega
    rw [List.take_of_length_le (by rw [nextC_len]; omega)] at hL
    obtain ⟨A', n', c', rfl⟩ := hL.one
    have rs1 := k1.get hsv
    have lt1 := (List.getElem?_eq_some_iff.1 rs1).1
    simp (disch := omega) [t9, t8, t0, t1, t2, t3, cn1]
    rw [put_whole (vs := [.slice A' n' c']) rs1 hb rfl (by simp), ow_some]
    try simp
    have hS := hL.slv (okCs_small (nextC_ok hx hok) hx) (by rw [nextC_len]; omega)
    refine ⟨_, List.getElem?_set_self lt1, hS.agree fun i s h1 h2 hs => by rw [List.getElem?_set_ne (by omega)]; exact hs, hl1, fun i s hi hs => by rw [List.getElem?_set_ne (Ne.symm hi)]; exact k1.get hs⟩
end Go.Proofs.YtimijeeihicohaaGreat

namespace Go.Proofs.YtimijeeihicohaaGreat
open Go.RowKit
set_option linter.unusedVariables false
set_option linter.unusedSimpArgs false
set_option maxRecDepth 100000
attribute [local simp] List.getElem?_cons_zero
attribute [local irreducible] awCond awCall awLoop awDraw ow retQ retC resQ Keeps
theorem Off.cl {X : Nat → Prop} {M M' : Mem} {id off : Nat} {us : List Value} (h : Off X M M') (hx : ¬ X id) (hc : Cl M id off us) : Cl M' id off us := fun j y hy => by
  have := hc j y hy
  unfold cellAt at this ⊢
  cases hm : M[id]? with
  | none => rw [hm] at this; cases this
  | some s => rw [h.2 id s hx hm]; rw [hm] at this; exact this
theorem hA0_apart (q i : Nat) (h : q ≠ i) : Apart (.slice (some ⟨q, 0, none⟩) 0 0) i := fun A n c a ea eb => by
  injection ea with ea
  subst ea
  injection eb with eb
  subst eb
  exact fun e => h e.symm
def BlockS (M : Mem) (sid : Nat) (l : List Int) (r : Value) (M' : Mem) : Prop := ∃ uid v c, r = .slice (some ⟨uid, 0, none⟩) 1 c ∧ cellAt M' uid 0 = some v ∧ rowEsz M' uid = some 1 ∧ VoO M.length M' v l ∧ Off (fun i => i = sid) M M'
set_option maxHeartbeats 4000000 in
theorem l08Block_s {M : Mem} {b lo hi lo1 hi1 lo2 hi2 id0 off0 sid N : Nat} {us : List Value} {p : Patch} {sv iw : Value} {ins : List (List Int)} (h : patchP.rd lo hi M p us) (hc0 : Cl M id0 off0 us) (hf : formB p = true) (ho : (ordL p.nodes).length = p.nodes.length)
    (hsv : M[sid]? = some (.live ⟨[sv], true, true, 209, 1⟩)) (hcs : SlV tabP lo1 hi1 M sv (p.nodes.map startV)) (hins : SlV tabP lo2 hi2 M iw ins) (hin : p.inp = ins.length) (hout : p.outs.length = 1) (hN : N ≤ 4000) (hb : b ≤ sid)
    (av : ∀ i, lo ≤ i → i < hi → i ≠ sid) (av1 : ∀ i, lo1 ≤ i → i < hi1 → i ≠ sid) (av2 : ∀ i, lo2 ≤ i → i < hi2 → i ≠ sid) (hM : hi1 ≤ M.length) (hid : id0 ≠ sid) :
    Ctr Tryz.prog b 147 [.pointer (some ⟨id0, off0, none⟩), .pointer (some ⟨sid, 0, none⟩), iw, iv 0, iv N] M fun r M' => BlockS M sid (rendS p ins N).1 r M' := by
  obtain ⟨hx, htb, hn24, hidx, hi0, hi4, hoi⟩ := formB_parts hf
  have hsl : sid < M.length := (List.getElem?_eq_some_iff.1 hsv).1
  obtain ⟨o, ho1⟩ : ∃ o, p.outs = [o] := by
    match hpo : p.outs, hout with
    | [o], _ => exact ⟨o, rfl⟩
  have hoo : ∃ f : Nat, o = f ∧ f < p.nodes.length := by
    rw [ho1] at hoi
    have := inB_iff.1 (List.all_eq_true.1 hoi o (by simp))
    obtain ⟨f, hf⟩ := Int.eq_ofNat_of_zero_le this.1
    exact ⟨f, hf, by omega⟩
  obtain ⟨f_, hof, hfl⟩ := hoo
  first | (refine ctr_fn Tryz.func147 rfl Tryz.ntmps147 Tryz.results147 rfl rfl (by simp) ?_) | (refine ctr_fnC Tryz.func147 rfl Tryz.ntmps147 Tryz.results147 rfl (by simp) ?_)
  simp
  refine awCall_ctr ((l07Order_s h hc0 hidx hn24).weaken (by omega)) ?_
  rintro _ M0 ⟨ou, rfl, hAo, k0⟩
  have hAo := hAo ho
  have hov := hAo.slv (by omega)
  obtain ⟨Ao, no, co, rfl, -⟩ := id hAo
  have l0 := k0.len
  simp
  -- what stands in memory from here on
  have h0 := patchP.keeps h k0
  have hc00 := Cl.keeps hc0 k0
  have hsv0 := k0.get hsv
  have hcs0 := hcs.keeps k0
  have hins0 := hins.keeps k0
  have avo : ∀ i, M.length ≤ i → i < M0.length → i ≠ sid := fun i a b => by omega
  obtain ⟨A1, n1, c1, A2, n2, c2, A3, n3, c3, rfl⟩ := patch_isV h
  have cp := hc00 3 _ rfl
  obtain ⟨u1, u2, u3, e, hu1, hu2, hu3⟩ := id h0
  simp only [List.cons.injEq, and_true, true_and] at e
  obtain ⟨rfl, rfl, rfl⟩ := e
  obtain ⟨A3', n3', c3', e3, hol, -, hSo3, -⟩ := sl_take hu3
  injection e3 with e3a e3b e3c
  subst e3a; subst e3b; subst e3c
  obtain rfl : n3 = 1 := by omega
  obtain ⟨idp, offp, rfl, hep, hcp⟩ := sl_cells hSo3 (by omega)
  have cpo := hcp 0 (by omega)
  rw [ho1, show el [o] 0 = o from rfl, hof] at cpo
  simp only [Nat.add_zero] at cpo
  obtain ⟨Ai, ni, ci, rfl, w1, w2, w3⟩ := id hins0
  have hnil := w3.1
  refine awLoop_T (fun m T M1 => ∃ e : Nat, e + m = 1 ∧ (e = 0 → M1 = M0 ++ [Slot.live ⟨[], true, true, 24, 1⟩] ∧ look T 13 = some (.slice (some ⟨M0.length, 0, none⟩) 0 0)) ∧ (e = 1 → ∃ uid v c t, Keeps M0 M1 ∧ look T 13 = some (.slice (some ⟨uid, 0, none⟩) 1 c) ∧ M1[uid]? = some (.live ⟨[v], true, t, 24, 1⟩) ∧ M0.length ≤ uid ∧ Acc intR 2 M0.length M1 v [] ∧ Apart v uid) ∧ look T 14 = some (iv e) ∧ look T 11 = some (.slice Ao no co) ∧ look T 0 = some (.pointer (some ⟨id0, off0, none⟩)) ∧ look T 1 = some (.pointer (some ⟨sid, 0, none⟩)) ∧ look T 2 = some (.slice Ai ni ci) ∧ look T 3 = some (iv 0) ∧ look T 4 = some (iv N)) 1
    ⟨0, by omega, fun _ => ⟨rfl, by simp⟩, (fun h => by cases h), by simp, by simp, by simp, by simp, by simp, by simp, by simp⟩ ?_
  rintro m T M1 ⟨e, hm, z0, z1, t14, t11, t0, t1, t2, t3, t4⟩
  have hcc : e = 0 ∨ e = 1 := by omega
  rcases hcc with rfl | rfl
  · obtain ⟨rfl, t13⟩ := z0 rfl
    have cp1 := cellAt_app cp [Slot.live ⟨[], true, true, 24, 1⟩]
    simp (disch := omega) [t14, t13, t11, t0, t1, t2, t3, t4, cp1, fill1S, wrap_in]
    have hA0 : Acc valR 24 M0.length (M0 ++ [Slot.live ⟨[], true, true, 24, 1⟩, .live ⟨[], true, true, 2, 1⟩, .live ⟨[.slice (some ⟨M0.length + 1, 0, none⟩) 0 0], true, true, 24, 1⟩]) (.slice (some ⟨M0.length, 0, none⟩) 0 0) [] := ⟨_, 0, 0, rfl, rfl, .inr ⟨M0.length, true, rfl, Nat.le_refl _, by simp [cellsL_nil]⟩⟩
    refine hA0.append2 (P := Tryz.prog) (by_ := 24) (a := .slice (some ⟨M0.length + 1, 0, none⟩) 0 0) (by omega) (by simp) (by omega) (by simp) (by kernel_rfl) (by simp [srcOf, valR, cellsAt]) rfl (by simp) (by unfold maxLen; simp) fun v' M2 a2 b2 d2 => ?_
    have r1 : (M0 ++ [Slot.live ⟨[], true, true, 24, 1⟩, .live ⟨[], true, true, 2, 1⟩, .live ⟨[.slice (some ⟨M0.length + 1, 0, none⟩) 0 0], true, true, 24, 1⟩])[M0.length + 1]? = some (.live ⟨[], true, true, 2, 1⟩) := by simp
    obtain ⟨r2, ap2⟩ := d2 _ _ (hA0_apart M0.length _ (by omega)) r1
    obtain ⟨A', n', c', rfl, hl', hA'⟩ := a2
    rcases hA' with ⟨rfl, hn0, -⟩ | ⟨uid, t', rfl, hu1', hu2'⟩
    · simp at hl'; omega
    have hn1 : n' = 1 := by simpa using hl'.symm
    subst hn1
    try simp (disch := omega) [t14, t13, t11, t0, t1, t2, t3, t4, wrap_in]
    refine lpI (m - 1) (by omega) ⟨1, by omega, (fun h => by cases h), fun _ => ⟨uid, .slice (some ⟨M0.length + 1, 0, none⟩) 0 0, c', t', ?_, by simp, by simpa [cellsL_valR] using hu2', hu1', ⟨_, 0, 0, rfl, rfl, .inr ⟨M0.length + 1, true, rfl, by omega, by simpa [cellsL_nil] using r2⟩⟩, fun A n c a ea eb => ?_⟩, by simp, by simp [t11], by simp [t0], by simp [t1], by simp [t2], by simp [t3], by simp [t4]⟩
    · exact b2.keeps (keeps_app _) (Nat.le_refl _)
    · injection ea with ea
      subst ea
      injection eb with eb
      subst eb
      have := ap2 _ _ _ _ rfl rfl
      show uid ≠ M0.length + 1
      exact fun e => this e.symm
  · obtain ⟨uid, v, cu, tu, kM, t13, ru, lu, hA, hap⟩ := z1 rfl
    have cp1 := cellAt_keeps kM cp
    have offM : Off (fun i => i = sid) M0 M1 := kM.off _
    have rs1 := kM.get hsv0
    have hcs1 := hcs0.keeps kM
    have lM1 := kM.len
    simp (disch := omega) [t14, t13, t11, t0, t1, t2, t3, t4, cp1, wrap_in]
    refine awLoop_T (fun m T M1 => ∃ (t : Nat) (sv v : Value) (vs : List Int) (Bt Ht : Nat), t + m = N ∧ Off (fun i => i = sid) M0 M1 ∧ M1[sid]? = some (.live ⟨[sv], true, true, 209, 1⟩) ∧ SlV tabP Bt Ht M1 sv (rendS p ins t).2 ∧ Ht ≤ M1.length ∧ (∀ i, Bt ≤ i → i < Ht → Apart v i ∧ i ≠ uid ∧ i ≠ sid) ∧ M1[uid]? = some (.live ⟨[v], true, tu, 24, 1⟩) ∧ Acc intR 2 M0.length M1 v (rendS p ins t).1 ∧ Apart v uid ∧ look T 15 = some (iv t) ∧ look T 13 = some (.slice (some ⟨uid, 0, none⟩) 1 cu) ∧ look T 11 = some (.slice Ao no co) ∧ look T 0 = some (.pointer (some ⟨id0, off0, none⟩)) ∧ look T 1 = some (.pointer (some ⟨sid, 0, none⟩)) ∧ look T 2 = some (.slice Ai ni ci) ∧ look T 3 = some (iv 0) ∧ look T 4 = some (iv N)) N
      ⟨0, sv, v, [], lo1, hi1, by omega, offM, rs1, hcs1, by omega, fun i h1 h2 => ⟨hA.apartB (by omega), by omega, av1 i h1 h2⟩, ru, hA, hap, by simp, by simp [t13], by simp [t11], by simp [t0], by simp [t1], by simp [t2], by simp [t3], by simp [t4]⟩ ?_
    clear t14 t13 t11 t0 t1 t2 t3 t4 hcs1 rs1 offM cp1 ru hA hap kM lM1 z0 z1 hm
    rintro m T M1 ⟨t, sv, v, -, Bt, Ht, hm, hoff, rs, hcs, lHt, hav, ru, hA, hap, t15, t13, t11, t0, t1, t2, t3, t4⟩
    have l1 := hoff.1
    have lu1 := (List.getElem?_eq_some_iff.1 ru).1
    by_cases hlt : t < N
    case neg =>
      obtain rfl : t = N := by omega
      simp (disch := omega) [t15, t13, t11, t0, t1, t2, t3, t4, wrap_in]
      exact ⟨uid, v, cu, rfl, by simp [cellAt, ru], by simp [rowEsz, ru], hA.low l0, (k0.off _).trans hoff⟩
    simp (disch := omega) [t15, t13, t11, t0, t1, t2, t3, t4, hlt, wrap_in]
    -- the frame's inputs
    refine awLoop_T (fun m' T M2 => ∃ (c : Nat) (fv : Value), c + m' = ni ∧ Same M1.length M1 M2 ∧ Acc intR 2 M1.length M2 fv ((frameV ins t).take c) ∧ look T 17 = some (iv c) ∧ look T 16 = some fv ∧ look T 15 = some (iv t) ∧ look T 13 = some (.slice (some ⟨uid, 0, none⟩) 1 cu) ∧ look T 11 = some (.slice Ao no co) ∧ look T 0 = some (.pointer (some ⟨id0, off0, none⟩)) ∧ look T 1 = some (.pointer (some ⟨sid, 0, none⟩)) ∧ look T 2 = some (.slice Ai ni ci) ∧ look T 3 = some (iv 0) ∧ look T 4 = some (iv N)) ni
      ⟨0, _, by omega, .appS _ _, ⟨_, 0, 0, rfl, rfl, .inr ⟨M1.length, true, rfl, Nat.le_refl _, by simp [cellsL_nil]⟩⟩, by simp, by simp, by simp [t15], by simp [t13], by simp [t11], by simp [t0], by simp [t1], by simp [t2], by simp [t3], by simp [t4]⟩ ?_
    clear t15 t13 t11 t0 t1 t2 t3 t4
    rintro m' T M2 ⟨c, fv, hm', hs2, hF, t17, t16, t15, t13, t11, t0, t1, t2, t3, t4⟩
    have k12 := slt hs2
    have hoff2 := hoff.trans (k12.off _)
    have hfrl : (frameV ins t).length = ni := by rw [frameV_len, hnil]
    by_cases hc : c < ni
    · obtain ⟨idi, offi, usi, rfl, hei, ⟨ui, rfl, hui⟩, hci⟩ := (w3.agree (hoff2.agree av2)).at_ hc
      have ci1 := (cl_cons.1 hci).1
      simp only [Nat.mul_one] at ci1
      simp (disch := omega) [t17, t16, t15, t13, t11, t0, t1, t2, t3, t4, hc, hei, ci1, wrap_in]
      refine awCall_det' (l03At_s t hui) (by have := hs2.1; omega) ?_
      simp [fill1I]
      refine (hF.keeps (keeps_app _)).append (P := Tryz.prog) (by_ := 8) (a := atL (el ins c) t) (by omega) (by have := hs2.1; simp; omega) (by omega) (by simp) (by kernel_rfl) (by simp [srcOf]; rfl) rfl (by simp; omega) (by simp; unfold maxLen; omega) fun v' M3 a3 b3 => ?_
      have hs3 := Same.trans' (Same.trans' hs2 (Same.appB _ _)) b3
      try simp (disch := omega) [t17, t16, t15, t13, t11, t0, t1, t2, t3, t4, wrap_in]
      refine lpI (m' - 1) (by omega) ⟨c + 1, v', by omega, hs3, ?_, by simp, by simp, by simp [t15], by simp [t13], by simp [t11], by simp [t0], by simp [t1], by simp [t2], by simp [t3], by simp [t4]⟩
      rw [take_el (by omega), frameV_el (by omega)]
      exact a3
    obtain rfl : c = ni := by omega
    rw [List.take_of_length_le (by omega)] at hF
    have hfv := hF.slv (by omega)
    have hvalX := l08Values_x (sid := sid) (sv := sv) (patchP.agree h0 (hoff2.agree av)) (hoff2.cl hid hc00) hf ho (hov.agree (hoff2.agree avo)) (by simp [cellAt, k12.get rs]) (hcs.keeps k12) (rendS_ok hx t) hfv (by rw [frameV_len]; exact hin)
    simp (disch := omega) [t17, t16, t15, t13, t11, t0, t1, t2, t3, t4]
    refine awCall_det' hvalX (by have := hs2.1; omega) ?_
    have hrs : (rendS p ins (t + 1)) = ((rendS p ins t).1 ++ [el (valsV p (rendS p ins t).2 (frameV ins t)) f_], nextC p (rendS p ins t).2 (frameV ins t) (valsV p (rendS p ins t).2 (frameV ins t))) := by
      rw [rendS, ho1, show el [o] 0 = o from rfl, hof]
      rfl
    have hrl := rendS_len (p := p) (ins := ins) t
    have hVl : (valsV p (rendS p ins t).2 (frameV ins t)).length = p.nodes.length := by unfold valsV; rw [curV_len]; simp
    generalize hV : valsV p (rendS p ins t).2 (frameV ins t) = V at *
    obtain ⟨M3, hM3⟩ : ∃ M3 : Mem, M3 = M2 ++ [Slot.live (rowI V)] := ⟨_, rfl⟩
    have k23 : Keeps M2 M3 := by rw [hM3]; exact keeps_app _
    have l3 : M3.length = M2.length + 1 := by rw [hM3]; simp
    have r3 : M3[M2.length]? = some (.live (rowI V)) := by rw [hM3]; simp
    rw [← hM3]
    clear hM3 hvalX
    have k13 := k12.trans k23
    have hoff3 := hoff.trans (k13.off _)
    have ru3 := k13.get ru
    have hA3 := hA.keeps k13
    have cp3 := hoff3.cl hid hc00 3 _ rfl
    have cpo3 : cellAt M3 idp offp = some (iv f_) ∧ rowEsz M3 idp = some 1 := by
      obtain ⟨id_, off_, d_, e_, he_, c0_, -, -⟩ := slv_at (hu3.agree (hoff3.agree av)) hout (by omega)
      injection e_ with e_
      injection e_ with e_
      injection e_ with e1_ e2_
      subst e1_; subst e2_
      rw [ho1, show el [o] 0 = o from rfl, hof] at c0_
      exact ⟨c0_, he_⟩
    obtain ⟨cpo3, epo3⟩ := cpo3
    have cpp3 : cellAt M3 id0 (off0 + 3) = some (.slice (some ⟨idp, offp, none⟩) 1 c3) := cp3
    have cV3 : cellAt M3 M2.length f_ = some (iv (el V f_)) := by
      have := cellsL_get intR (l := V) (i := f_) (j := 0) (by omega) (by omega)
      simp [cellAt, r3, rowI]
      simpa [intR] using this
    have eV3 : rowEsz M3 M2.length = some 1 := by simp [rowEsz, r3, rowI]
    have eu3 : rowEsz M3 uid = some 1 := by simp [rowEsz, ru3]
    have cu3 : cellAt M3 uid 0 = some v := by simp [cellAt, ru3]
    have lu2 := hs2.1
    refine awLoop_T (fun m'' T M4 => ∃ e : Nat, e + m'' = 1 ∧ (e = 0 → M4 = M3) ∧ (e = 1 → ∃ v', M4[uid]? = some (.live ⟨[v'], true, tu, 24, 1⟩) ∧ Acc intR 2 M0.length M4 v' ((rendS p ins t).1 ++ [el V f_]) ∧ Apart v' uid ∧ M3.length ≤ M4.length ∧ (∀ (i : Nat) s, Apart v i → i ≠ uid → M3[i]? = some s → M4[i]? = some s ∧ Apart v' i)) ∧ look T 19 = some (iv e) ∧ look T 18 = some (.slice (some ⟨M2.length, 0, none⟩) p.nodes.length p.nodes.length) ∧ look T 16 = some fv ∧ look T 15 = some (iv t) ∧ look T 13 = some (.slice (some ⟨uid, 0, none⟩) 1 cu) ∧ look T 11 = some (.slice Ao no co) ∧ look T 0 = some (.pointer (some ⟨id0, off0, none⟩)) ∧ look T 1 = some (.pointer (some ⟨sid, 0, none⟩)) ∧ look T 2 = some (.slice Ai c ci) ∧ look T 3 = some (iv 0) ∧ look T 4 = some (iv N)) 1
      ⟨0, by omega, fun _ => rfl, (fun h => by cases h), by simp, by simp, by simp [t16], by simp [t15], by simp [t13], by simp [t11], by simp [t0], by simp [t1], by simp [t2], by simp [t3], by simp [t4]⟩ ?_
    clear t17 t16 t15 t13 t11 t0 t1 t2 t3 t4
    rintro m'' T M4 ⟨e, hm'', g0, g1, t19, t18, t16, t15, t13, t11, t0, t1, t2, t3, t4⟩
    have hcc : e = 0 ∨ e = 1 := by omega
    rcases hcc with rfl | rfl
    · obtain rfl := g0 rfl
      simp (disch := omega) [t19, t18, t16, t15, t13, t11, t0, t1, t2, t3, t4, cpp3, wrap_in]
      refine awDraw_M 17 [[],[],[],[],[2,3],[4,2,3],[],[],[7],[8,7],[9,8,7],[],[10,9,8,7,11],[12,10,9,8,7,11],[6,13,12,10,9,8,7,11],[14,6,13,12,10,9,8,7,11],[15,14,6,13,12,10,9,8,7,11],[5,4,2,3,16,15,14,6,13,12,10,9,8,7,11],[0,1,2,3,4,5,6,7,8,9,10,11,12,13,14,15,16,17],[18,0,1,2,3,4,5,6,7,8,9,10,11,12,13,14,15,16,17]] [0,1] (by kernel_rfl) (by decide +kernel) (by decide +kernel) ?_
      simp (disch := omega) [t19, t18, t16, t15, t13, t11, t0, t1, t2, t3, t4, cpp3, epo3, cpo3, eV3, cV3, eu3, cu3, hfl, fill1I]
      have kx : Keeps M4 (M4 ++ [Slot.live ⟨[iv (el V f_)], true, true, 2, 1⟩]) := keeps_app _
      refine (hA3.keeps kx).append2 (P := Tryz.prog) (by_ := 8) (a := el V f_) (by omega) (by simp; omega) (by omega) (by simp) (by kernel_rfl) (by simp [srcOf]; rfl) rfl (by omega) (by unfold maxLen; omega) fun v' M6 a6 b6 d6 => ?_
      obtain ⟨ru6, hap6⟩ := d6 _ _ hap (kx.get ru3)
      have hl6 := b6.1
      simp at hl6
      obtain ⟨A', n', c', rfl, -⟩ := id a6
      have lt6 := (List.getElem?_eq_some_iff.1 ru6).1
      have pu : putCells b M6 uid 0 [.slice A' n' c'] = some (M6.set uid (.live ⟨[.slice A' n' c'], true, tu, 24, 1⟩)) := put_whole (vs := [.slice A' n' c']) ru6 (by omega) rfl (by simp)
      simp (disch := omega) [t19, t18, t16, t15, t13, t11, t0, t1, t2, t3, t4, wrap_in, pu]
      refine lpI (m'' - 1) (by omega) ⟨1, by omega, (fun h => by omega), fun _ => ⟨_, List.getElem?_set_self lt6, ?_, hap6, by simp; omega, fun i s hi hu hs => ?_⟩, by simp, by simp [t18], by simp [t16], by simp [t15], by simp [t13], by simp [t11], by simp [t0], by simp [t1], by simp [t2], by simp [t3], by simp [t4]⟩
      · obtain ⟨A2', n2', c2', e2', g2', g3'⟩ := a6
        injection e2' with e2a' e2b' e2c'
        subst e2a'; subst e2b'; subst e2c'
        refine ⟨_, _, _, rfl, g2', ?_⟩
        rcases g3' with g3' | ⟨id, t', rfl, g4', g5'⟩
        · exact .inl g3'
        · exact .inr ⟨id, t', rfl, g4', by rw [List.getElem?_set_ne (hap6 _ _ _ _ rfl rfl)]; exact g5'⟩
      · obtain ⟨f1, f2⟩ := d6 _ _ hi (kx.get hs)
        exact ⟨by rw [List.getElem?_set_ne (Ne.symm hu)]; exact f1, f2⟩
    · obtain ⟨v', ru4, hA4, hap4, l4, hk4⟩ := g1 rfl
      have lsid : sid < M0.length := by omega
      have offM4 : Off (fun i => i = sid) M0 M4 := ⟨by omega, fun i s hi hs => by
        have hlt := (List.getElem?_eq_some_iff.1 hs).1
        exact (hk4 i s (hA3.apartB hlt) (by omega) (hoff3.2 i s hi hs)).1⟩
      have cpp4 : cellAt M4 id0 (off0 + 3) = some (.slice (some ⟨idp, offp, none⟩) 1 c3) := offM4.cl hid hc00 3 _ rfl
      have rs4 := (hk4 sid _ (hA3.apartB lsid) (by omega) (k13.get rs)).1
      have rV4 := (hk4 M2.length _ (hA.apart (by omega)) (by omega) r3).1
      have hfv4 := (hfv.keeps k23).agree (lo := M1.length) (hi := M2.length) (M' := M4) fun i s h1 h2 hs => (hk4 i s (hA.apart h1) (by omega) hs).1
      have hcs4 := (hcs.keeps k13).agree (lo := Bt) (hi := Ht) (M' := M4) fun i s h1 h2 hs => (hk4 i s (hav i h1 h2).1 (hav i h1 h2).2.1 hs).1
      have hV4 := rowI_rd rV4 (by omega)
      rw [hVl] at hV4
      simp (disch := omega) [t19, t18, t16, t15, t13, t11, t0, t1, t2, t3, t4, cpp4, wrap_in]
      refine awCall_ctr (l08Step_s (M := M4) (patchP.agree h0 (offM4.agree av)) (offM4.cl hid hc00) hf rs4 hcs4 (rendS_ok hx t) hfv4 (by rw [frameV_len]; exact hin) hV4 hVl hb) ?_
      rintro _ M5 ⟨sv5, rs5, hcs5, l5, hk5⟩
      have offM5 : Off (fun i => i = sid) M0 M5 := offM4.trans ⟨l5, fun i s hi hs => hk5 i s hi hs⟩
      have hA5 : Acc intR 2 M0.length M5 v' ((rendS p ins t).1 ++ [el V f_]) := hA4.off (X := fun i => i = sid) ⟨l5, fun i s hi hs => hk5 i s hi hs⟩ (fun i hi => by omega)
      try simp (disch := omega) [t19, t18, t16, t15, t13, t11, t0, t1, t2, t3, t4, wrap_in]
      refine lpI (m - 1) (by omega) ⟨t + 1, sv5, v', [], M4.length, M5.length, by omega, offM5, rs5, by rw [hrs]; exact hcs5, Nat.le_refl _, fun i h1 h2 => ⟨hA4.apart h1, by omega, by omega⟩, hk5 _ _ (by omega) ru4, by rw [hrs]; exact hA5, hap4, by simp, by simp [t13], by simp [t11], by simp [t0], by simp [t1], by simp [t2], by simp [t3], by simp [t4]⟩
def RendS (M : Mem) (l : List Int) (r : Value) (M' : Mem) : Prop := ∃ uid v c, r = .slice (some ⟨uid, 0, none⟩) 1 c ∧ cellAt M' uid 0 = some v ∧ rowEsz M' uid = some 1 ∧ VoO M.length M' v l ∧ Keeps M M'
theorem l08Render_s {M : Mem} {lo hi lo2 hi2 id0 off0 N : Nat} {us : List Value} {p : Patch} {iw : Value} {ins : List (List Int)} (h : patchP.rd lo hi M p us) (hc0 : Cl M id0 off0 us) (hf : formB p = true) (ho : (ordL p.nodes).length = p.nodes.length)
    (hins : SlV tabP lo2 hi2 M iw ins) (hin : p.inp = ins.length) (hout : p.outs.length = 1) (hN : N ≤ 4000) (hM : hi ≤ M.length ∧ hi2 ≤ M.length ∧ id0 < M.length) :
    Ctr Tryz.prog M.length 99 [.pointer (some ⟨id0, off0, none⟩), iw, iv N] M fun r M' => RendS M (rendS p ins N).1 r M' := by
  obtain ⟨hx, htb, hn24, hidx, hi0, hi4, hoi⟩ := formB_parts hf
  first | (refine ctr_fn Tryz.func99 rfl Tryz.ntmps99 Tryz.results99 rfl rfl (by simp) ?_) | (refine ctr_fnC Tryz.func99 rfl Tryz.ntmps99 Tryz.results99 rfl (by simp) ?_)
  simp
  refine awCall_ctr (l08Start_s h hc0 hx hn24) ?_
  rintro _ M1 ⟨v, rfl, hL, k1⟩
  have l1 := k1.len
  obtain ⟨A, n, c, rfl⟩ := hL.one
  have hLs := hL.slv (fun c hc => by
    obtain ⟨k, hk, rfl⟩ := List.getElem_of_mem hc
    simp at hk ⊢
    exact startV_small (hx _ (List.getElem_mem _))) (by simp; omega)
  simp
  have kx : Keeps M1 (M1 ++ [Slot.live ⟨[.slice A n c], true, true, 209, 1⟩]) := keeps_app _
  rw [put_boxJ (vs := [.slice A n c]) (cs := [.slice none 0 0]) l1 rfl (by simp), ow_some]
  refine awCall_ctr (l08Block_s (b := M.length) (sid := M1.length) (N := N) (patchP.keeps h (k1.trans kx)) (Cl.keeps hc0 (k1.trans kx)) hf ho (sv := .slice A n c) (by simp) (hLs.keeps kx) (hins.keeps (k1.trans kx)) hin hout hN l1 (fun i a b => by omega) (fun i a b => by omega) (fun i a b => by omega) (by simp) (by omega)) ?_
  rintro r M2 ⟨uid, w, cu, rfl, f1, f2, f3, f4⟩
  try simp
  have kM : Keeps M M2 := by
    unfold Keeps
    exact fun i s hs => f4.2 i s (by have := (List.getElem?_eq_some_iff.1 hs).1; omega) ((k1.trans kx).get hs)
  exact ⟨uid, w, cu, rfl, f1, f2, Acc.low f3 (by simp; omega), kM⟩
end Go.Proofs.YtimijeeihicohaaGreat

namespace Go.Proofs.YtimijeeihicohaaGreat
open Go.RowKit
set_option linter.unusedVariables false
set_option linter.unusedSimpArgs false
set_option maxRecDepth 100000
attribute [local simp] List.getElem?_cons_zero
attribute [local irreducible] awCond awCall awLoop awDraw ow retQ retC resQ Keeps
theorem VoO.keeps {B : Nat} {M M' : Mem} {u : Value} {l : List Int} (h : VoO B M u l) (hk : Keeps M M') : VoO B M' u l := Acc.keeps h hk
theorem VoO.turn {B lo hi : Nat} {M M' : Mem} {u : Value} {l : List Int} (h : VoO B M u l) (ht : Turn lo hi M M') (hb : hi ≤ B) : VoO B M' u l := Acc.turn h ht hb
theorem VoO.slv {B : Nat} {M : Mem} {u : Value} {l : List Int} (h : VoO B M u l) (hl : l.length ≤ 4000) : SlV intP B M.length M u l := Acc.slv h (by omega)
set_option maxHeartbeats 1000000 in
theorem l22Voice_s {M : Mem} {lo hi id0 off0 : Nat} {us : List Value} {x : Inst} {A : Option Addr} {n c N : Nat} {l : List Gate} (h : instP.rd lo hi M x us) (hc0 : Cl M id0 off0 us) (hb : instB x = true) (hg : Sl gateR M A n l) (hok : okG l = true) (hN : N ≤ 4000) (hM : hi ≤ M.length ∧ id0 < M.length) :
    Ctr Tryz.prog M.length 53 [.pointer (some ⟨id0, off0, none⟩), .slice A n c, iv N] M fun r M' => VoO M.length M' r (voL x l N) ∧ Keeps M M' := by
  obtain ⟨f1, f2, f3, f4, f5⟩ := instB_pat hb
  have h' := h
  obtain ⟨ps, es, w, rfl, hp, he, hw⟩ := h'
  obtain ⟨A1, n1, c1, A2, n2, c2, A3, n3, c3, rfl⟩ := patch_isV hp
  have hcp : Cl M id0 off0 [iv x.pat.inp, .slice A1 n1 c1, .slice A2 n2 c2, .slice A3 n3 c3] := by
    rw [List.append_assoc] at hc0
    exact (cl_app.1 hc0).1
  first | (refine ctr_fn Tryz.func53 rfl Tryz.ntmps53 Tryz.results53 rfl rfl (by simp) ?_) | (refine ctr_fnC Tryz.func53 rfl Tryz.ntmps53 Tryz.results53 rfl (by simp) ?_)
  simp
  refine awDraw_K (fun _ => []) (fun k v M' => match k with
    | 0 => v = .pointer (some ⟨id0, off0, none⟩)
    | 1 => v = .pointer (some ⟨id0, off0, none⟩)
    | 2 => v = .pointer (some ⟨id0, off0, none⟩)
    | 3 => v = .pointer (some ⟨id0, off0, none⟩)
    | 4 => v = .slice A n c
    | 5 => v = iv N
    | 6 => ∃ lo hi, SlV tabP lo hi M' v (ctlL x l N) ∧ hi ≤ M'.length
    | 7 => v = iv N
    | 8 => ∃ uid w c, v = .slice (some ⟨uid, 0, none⟩) 1 c ∧ cellAt M' uid 0 = some w ∧ rowEsz M' uid = some 1 ∧ VoO M.length M' w (voL x l N)
    | 9 => ∃ uid w, v = .pointer (some ⟨uid, 0, none⟩) ∧ cellAt M' uid 0 = some w ∧ VoO M.length M' w (voL x l N)
    | 10 => VoO M.length M' v (voL x l N)
    | 11 => VoO M.length M' v (voL x l N)
    | _ => True) ?_ (by kernel_rfl) (by decide +kernel) (by decide +kernel) ?_ ?_
  · intro k v M1 M2 h hk
    rcases k with _ | _ | _ | _ | _ | _ | _ | _ | _ | _ | _ | _ | k
    · exact h
    · exact h
    · exact h
    · exact h
    · exact h
    · exact h
    · obtain ⟨lo, hi, a, b⟩ := h
      exact ⟨lo, hi, a.keeps hk, Nat.le_trans b hk.len⟩
    · exact h
    · obtain ⟨uid, w, c, a, b, e, d⟩ := h
      exact ⟨uid, w, c, a, cellAt_keeps hk b, rowEsz_keeps hk e, d.keeps hk⟩
    · obtain ⟨uid, w, a, b, d⟩ := h
      exact ⟨uid, w, a, cellAt_keeps hk b, d.keeps hk⟩
    · exact VoO.keeps h hk
    · exact VoO.keeps h hk
    · trivial
  · intro X k o T M1 K hC hX hk hp' hf ho' hK
    have hk : Keeps M M1 := hk
    have lk : M.length ≤ M1.length := hk.len
    have t0 := hf 0 (by decide +kernel)
    have t1 := hf 1 (by decide +kernel)
    have t2 := hf 2 (by decide +kernel)
    simp at t0 t1 t2
    rcases k with _ | _ | _ | _ | _ | _ | _ | _ | _ | _ | _ | _ | k
    · simp at ho'; subst ho'
      simp [t0]
      exact hK _ _ (.inl (Keeps.refl _)) rfl
    · obtain ⟨v, d, q⟩ := hp' 0 7 (by decide +kernel) rfl
      rw [q (by simp)] at d
      simp at ho'; subst ho'
      simp [d]
      exact hK _ _ (.inl (Keeps.refl _)) rfl
    · obtain ⟨v, d, q⟩ := hp' 1 8 (by decide +kernel) rfl
      rw [q (by simp)] at d
      simp at ho'; subst ho'
      simp [d]
      exact hK _ _ (.inl (Keeps.refl _)) rfl
    · simp at ho'; subst ho'
      simp [t0]
      exact hK _ _ (.inl (Keeps.refl _)) rfl
    · simp at ho'; subst ho'
      simp [t1]
      exact hK _ _ (.inl (Keeps.refl _)) rfl
    · simp at ho'; subst ho'
      simp [t2]
      exact hK _ _ (.inl (Keeps.refl _)) rfl
    · obtain ⟨v9, d9, q9⟩ := hp' 3 10 (by decide +kernel) rfl
      obtain ⟨v10, d10, q10⟩ := hp' 4 11 (by decide +kernel) rfl
      obtain ⟨v11, d11, q11⟩ := hp' 5 12 (by decide +kernel) rfl
      rw [q9 (by simp)] at d9
      rw [q10 (by simp)] at d10
      rw [q11 (by simp)] at d11
      simp at ho'; subst ho'
      simp [d9, d10, d11]
      refine awCall_ctr (l22Controls_s (instP.keeps h hk) (Cl.keeps hc0 hk) hb (hg.keeps hk) hok hN lk) ?_
      rintro _ M2 ⟨oid, i0, i1, i2, v0, v1, v2, rfl, hCt, hS⟩
      refine hK _ _ (.inl (slt hS)) ⟨M1.length, M2.length, ?_, Nat.le_refl _⟩
      refine CtO.slv (.inr ⟨_, _, _, _, _, _, _, _, _, _, rfl, rfl, hCt⟩) fun q hq => ?_
      simp [ctlL] at hq
      rcases hq with rfl | rfl | rfl <;> (rw [mkC_len]; omega)
    · simp at ho'; subst ho'
      simp [t2]
      exact hK _ _ (.inl (Keeps.refl _)) rfl
    · obtain ⟨v8, d8, q8⟩ := hp' 2 9 (by decide +kernel) rfl
      obtain ⟨v12, d12, q12⟩ := hp' 6 13 (by decide +kernel) rfl
      obtain ⟨v13, d13, q13⟩ := hp' 7 14 (by decide +kernel) rfl
      rw [q8 (by simp)] at d8
      rw [q13 (by simp)] at d13
      obtain ⟨lo9, hi9, hct, hhi⟩ := q12 (by simp)
      simp at ho'; subst ho'
      simp [d8, d12, d13]
      refine awCall_ctr ((l08Render_s (N := N) (patchP.keeps hp hk) (Cl.keeps hcp hk) f1 f2 hct (by rw [f3]; rfl) f4 hN ⟨by omega, hhi, by omega⟩).weaken lk) ?_
      rintro _ M2 ⟨uid, w, cu, rfl, g1, g2, g3, g4⟩
      exact hK _ _ (.inl g4) ⟨uid, w, cu, rfl, g1, g2, Acc.low g3 lk⟩
    · obtain ⟨v, d, q⟩ := hp' 8 15 (by decide +kernel) rfl
      obtain ⟨uid, w, cu, rfl, g1, g2, g3⟩ := q (by simp)
      simp at ho'; subst ho'
      simp [d, g2]
      exact hK _ _ (.inl (Keeps.refl _)) ⟨uid, w, rfl, g1, g3⟩
    · obtain ⟨v, d, q⟩ := hp' 9 16 (by decide +kernel) rfl
      obtain ⟨uid, w, rfl, g1, g3⟩ := q (by simp)
      simp at ho'; subst ho'
      simp [d, g1]
      exact hK _ _ (.inl (Keeps.refl _)) g3
    · obtain ⟨v, d, q⟩ := hp' 10 17 (by decide +kernel) rfl
      have q := q (by simp)
      simp at ho'; subst ho'
      simp [d]
      exact hK _ _ (.inl (Keeps.refl _)) q
    · simp at ho'
  · intro T M1 hk hp' hf
    obtain ⟨v, d, q⟩ := hp' 11 6 (by simp) rfl
    have q := q (by simp)
    simp [d]
    exact ⟨q, hk⟩
theorem RenderVoice_s {M : Mem} {b lo hi : Nat} {us : List Value} {x : Inst} {A : Option Addr} {n c : Nat} {l : List Gate} (N : Int) (h : instP.rd lo hi M x us) (hM : hi ≤ M.length) (hg : Sl gateR M A n l) (hn : n ≤ 1099511627776) (hb : b ≤ M.length) :
    Ctr Tryz.prog b 20 [.agg us.toArray, .slice A n c, iv N] M fun r M' => VoS (voV x l N) M r M' := by
  have hl := instP.len h
  have ht : us.take 8 = us := List.take_of_length_le (by omega)
  have hc : Cl (M ++ [Slot.live ⟨us, true, true, 44, 8⟩]) M.length 0 us := fun j y hy => by simp [cellAt, hy]
  first | (refine ctr_fn Tryz.func20 rfl Tryz.ntmps20 Tryz.results20 rfl rfl (by simp) ?_) | (refine ctr_fnC Tryz.func20 rfl Tryz.ntmps20 Tryz.results20 rfl (by simp) ?_)
  simp [hl, ht]
  refine awCall_det' (l22Ask_s N true (instP.app h _) hc (hg.keeps (keeps_app _)) hn) (by simp <;> omega) ?_
  by_cases hcv : codeV x l N true = 0
  · obtain ⟨e1, e2, e3, e4, e5⟩ := codeV_ok hcv
    have k3 := inB_iff.1 e3
    obtain ⟨K, rfl⟩ := Int.eq_ofNat_of_zero_le k3.1
    simp [hcv, hl, ht]
    refine awCall_ctr ((l22Voice_s (instP.app h _) hc e1 (hg.keeps (keeps_app _)) e2 (by omega) ⟨by simp; omega, by simp⟩).weaken (by simp <;> omega)) ?_
    rintro v M' ⟨hA, hk⟩
    have hv : voV x l K = (voL x l K, 0) := by unfold voV; rw [if_pos hcv]; rfl
    rw [hv]
    try simp
    have := hk.len
    exact ⟨_, rfl, Acc.low hA (by simp), ⟨by simp at this; omega, fun i s _ hs => hk.get ((keeps_app _).get hs)⟩⟩
  · simp [hcv]
    have hv : voV x l N = ([], codeV x l N true) := by unfold voV; rw [if_neg hcv]
    rw [hv]
    exact ⟨_, rfl, .nil, Same.appS _ _⟩
end Go.Proofs.YtimijeeihicohaaGreat

namespace Go.Proofs.YtimijeeihicohaaGreat
open Go.RowKit
set_option linter.unusedVariables false
set_option linter.unusedSimpArgs false
set_option maxRecDepth 100000
attribute [local simp] List.getElem?_cons_zero
attribute [local irreducible] awCond awCall awLoop awDraw ow retQ retC resQ Keeps
end Go.Proofs.YtimijeeihicohaaGreat

namespace Go.Proofs.YtimijeeihicohaaGreat
open Go.RowKit
set_option linter.unusedVariables false
set_option linter.unusedSimpArgs false
set_option maxRecDepth 100000
attribute [local simp] List.getElem?_cons_zero
attribute [local irreducible] awCond awCall awLoop awDraw ow retQ retC resQ Keeps
theorem inst_one {lo hi : Nat} {M : Mem} {x : Inst} {vs : List Value} (h : instP.rd lo hi M x vs) : vs.all oneV = true := by
  obtain ⟨ps, es, w, rfl, hp, he, hw⟩ := h
  obtain ⟨A1, n1, c1, A2, n2, c2, A3, n3, c3, rfl⟩ := patch_isV hp
  obtain ⟨A4, n4, c4, rfl⟩ := env_isV he
  obtain ⟨A5, n5, c5, rfl⟩ := hw.isSl
  simp
theorem put_boxI {b : Nat} {M : Mem} {vs cs : List Value} {t : Bool} {e : TypeId} {z : Nat} (hb : b ≤ M.length) (hl : vs.length = cs.length) (h1 : vs.all oneV = true) :
    putCells b (M ++ [.live ⟨cs, true, t, e, z⟩]) M.length 0 vs = some (M ++ [.live ⟨vs, true, t, e, z⟩]) := by
  rw [put_whole getElem?_snoc_eq hb hl h1]
  simp
theorem cells_own {M : Mem} {vs : List Value} {t o : Bool} {e : TypeId} {z n : Nat} (h : vs.length = n) : cellsAt (M ++ [.live ⟨vs, o, t, e, z⟩]) M.length 0 n = some vs := by
  rw [cellsAt_new0, cellsAt_zero, if_pos (by show 0 + n ≤ vs.length; omega)]
  show some ((vs.drop 0).take n) = some vs
  rw [List.drop_zero, List.take_of_length_le (by omega)]
/-- A box in which an instrument is laid. -/
theorem inst_box {b lo hi : Nat} {M M' : Mem} {x : Inst} {vs cs : List Value} {t : Bool} {e : TypeId} {z : Nat} {K : Mem → Prop} (h : instP.rd lo hi M x vs) (hb : b ≤ M'.length) (hc : cs.length = 8) (hK : K (M' ++ [.live ⟨vs, true, t, e, z⟩])) :
    8 = (Value.agg vs.toArray).cells.size ∧ ow (putCells b (M' ++ [.live ⟨cs, true, t, e, z⟩]) M'.length 0 (Value.agg vs.toArray).cells.toList) K := by
  have hl := instP.len h
  have e1 : (Value.agg vs.toArray).cells.toList = vs := rfl
  refine ⟨by rw [← Array.length_toList, e1, hl], ?_⟩
  rw [e1, put_boxI hb (by omega) (inst_one h), ow_some]
  exact hK
end Go.Proofs.YtimijeeihicohaaGreat

namespace Go.Proofs.YtimijeeihicohaaGreat
open Go.RowKit
set_option linter.unusedVariables false
set_option linter.unusedSimpArgs false
set_option maxRecDepth 100000
attribute [local simp] List.getElem?_cons_zero
attribute [local irreducible] awCond awCall awLoop awDraw ow retQ retC resQ Keeps
theorem ControlsOf_sl {M : Mem} {b lo hi lo' hi' : Nat} {us : List Value} {x : Inst} {v : Value} {l : List Gate} (N : Int) (h : instP.rd lo hi M x us) (hg : RdL gateR lo' hi' M v l) (hl : l.length ≤ 1048576) (hb : b ≤ M.length) :
    Ctr Tryz.prog b 9 [.agg us.toArray, v, iv N] M fun r M' => CtS x l N M r M' := by
  obtain ⟨A, n, c, rfl, hn, hS, -⟩ := hg
  exact (ControlsOf_s N h hS (by have := hS.1; omega) hb).mono fun _ _ h => h.s
theorem ControlsOf_il {M : Mem} {b lo hi lo' hi' : Nat} {us : List Value} {x : Inst} {v : Value} {l : List Gate} (N : Int) (h : instP.rd lo hi M x us) (hg : RdL gateR lo' hi' M v l) (hl : l.length ≤ 1048576) (hb : b ≤ M.length) :
    Ctr Tryz.prog b 12 [.agg us.toArray, v, iv N] M fun r M' => CtS x l N M r M' := by
  obtain ⟨A, n, c, rfl, hn, hS, -⟩ := hg
  exact (ControlsOf_i N h hS (by have := hS.1; omega) hb).mono fun _ _ h => h.s
theorem mkInst_le {x : Inst} (h : wtInst x ≤ 1048576) : mkInst x ≤ 3145728 := by
  have hwt : wtInst x = wtPatch x.pat + x.env.segs.length + x.steps.length := rfl
  have hwp : wtPatch x.pat = x.pat.tabs.length + sumW wtInt64S x.pat.tabs x.pat.tabs.length + (x.pat.nodes.length + sumW wtNode x.pat.nodes x.pat.nodes.length) + x.pat.outs.length := rfl
  unfold mkInst mkPatch
  omega
end Go.Proofs.YtimijeeihicohaaGreat

namespace Go.Proofs.YtimijeeihicohaaGreat
open Go.RowKit
set_option linter.unusedVariables false
set_option linter.unusedSimpArgs false
set_option maxRecDepth 100000
attribute [local simp] List.getElem?_cons_zero
attribute [local irreducible] awCond awCall awLoop awDraw ow retQ retC resQ Keeps
def totI (l : List Int) : Nat := l.length
theorem mark_VoO {M : Mem} {b B : Nat} {u : Value} {l : List Int} (h : VoO B M u l) (hb : b ≤ B) (hl : l.length ≤ 4000) :
    Ctr Tryz.prog b 23 [u, iv 1] M fun v M' => v = iv (1 + totI l) ∧ VoO B M' u (markIL 1 l.length) ∧ Turn B M.length M M' := mark_IntA h hb (by omega) (by omega) (by omega)
theorem held_VoO {M : Mem} {B : Nat} {u : Value} {l : List Int} (h : VoO B M u (markIL 1 l.length)) (hl : l.length ≤ 4000) : Det Tryz.prog M.length 24 [u, iv 1] M (iv (1 + totI l)) M := held_IntA (m := l.length) h (by omega) (by omega) (by omega)
theorem RenderVoice_sl {M : Mem} {b lo hi lo' hi' : Nat} {us : List Value} {x : Inst} {v : Value} {l : List Gate} (N : Int) (h : instP.rd lo hi M x us) (hg : RdL gateR lo' hi' M v l) (hl : l.length ≤ 1048576) (hb : b ≤ M.length ∧ hi ≤ M.length) :
    Ctr Tryz.prog b 20 [.agg us.toArray, v, iv N] M fun r M' => VoS (voV x l N) M r M' := by
  obtain ⟨A, n, c, rfl, hn, hS, -⟩ := hg
  exact RenderVoice_s N h hb.2 hS (by have := hS.1; omega) hb.1
theorem RenderVoice_il {M : Mem} {b lo hi lo' hi' : Nat} {us : List Value} {x : Inst} {v : Value} {l : List Gate} (N : Int) (h : instP.rd lo hi M x us) (hg : RdL gateR lo' hi' M v l) (hl : l.length ≤ 1048576) (hb : b ≤ M.length ∧ hi ≤ M.length) :
    Ctr Tryz.prog b 21 [.agg us.toArray, v, iv N] M fun r M' => VoS (voV x l N) M r M' := by
  obtain ⟨A, n, c, rfl, hn, hS, -⟩ := hg
  exact RenderVoice_i N h hb.2 hS (by have := hS.1; omega) hb.1
end Go.Proofs.YtimijeeihicohaaGreat
