/- Patches and instruments: the reference's order, its test of instruments. No conditions. -/
import Derived.Test.YtffbocbjmhkikaaI11
namespace Go.Proofs.Ytffbocbjmhkikaa
open Go.RowKit
set_option linter.unusedVariables false
set_option linter.unusedSimpArgs false
set_option maxRecDepth 100000
attribute [local simp] List.getElem?_cons_zero
attribute [local irreducible] awCond awCall awLoop awDraw ow retQ retC resQ Keeps
set_option maxHeartbeats 4000000 in
theorem l07Order_s {M : Mem} {lo hi id0 off0 : Nat} {us : List Value} {x : Patch} (h : patchP.rd lo hi M x us) (hc0 : Cl M id0 off0 us) (hx : ∀ y, y ∈ x.nodes → idxB x.nodes.length y.from_ = true) (hn24 : x.nodes.length ≤ 24) :
    Ctr Try.prog M.length 147 [.pointer (some ⟨id0, off0, none⟩)] M fun r M' => ∃ u, r = .tuple #[u, .bool (decide ((ordL x.nodes).length = x.nodes.length))] ∧ ((ordL x.nodes).length = x.nodes.length → Acc intR 2 M.length M' u (ordL x.nodes)) ∧ Keeps M M' := by
  obtain ⟨u1, u2, u3, rfl, hu1, hu2, hu3⟩ := h
  obtain ⟨A2, n2, c2, rfl, p1, p2, p3⟩ := hu2
  have hn := p3.1
  have b2 : cellAt M id0 (off0 + 2) = some (.slice A2 n2 c2) := hc0 2 _ rfl
  first | (refine ctr_fn Try.func147 rfl Try.ntmps147 Try.results147 rfl rfl (by simp) ?_) | (refine ctr_fnC Try.func147 rfl Try.ntmps147 Try.results147 rfl (by simp) ?_)
  simp
  have k0 : Keeps M (M ++ [Slot.live ⟨[], true, true, 2, 1⟩]) := keeps_app _
  have hAc0 : Acc intR 2 M.length (M ++ [Slot.live ⟨[], true, true, 2, 1⟩]) (.slice (some ⟨M.length, 0, none⟩) 0 0) [] := ⟨_, 0, 0, rfl, rfl, .inr ⟨M.length, true, rfl, Nat.le_refl _, by simp [cellsL]⟩⟩
  refine awLoop_T (fun m T M' => ∃ (tk : List Bool) (out : List Int) (v : Value), tk.count false = m ∧ ordL x.nodes = ordT x.nodes m tk out ∧ TkOut x.nodes tk out ∧ m + out.length = n2 ∧ Keeps M M' ∧ Acc intR 2 M.length M' v out ∧ look T 4 = some v ∧ look T 0 = some (.pointer (some ⟨id0, off0, none⟩))) n2
    ⟨List.replicate n2 false, [], _, by simp, by unfold ordL; rw [hn], by rw [← hn]; exact .nil _, by simp, k0, hAc0, by simp, by simp⟩ ?_
  clear k0 hAc0
  rintro c T M1 ⟨tk, out, v, hcnt, hord, hto, hcl, k1, hA1, t4, t0⟩
  obtain ⟨A, q, cc, rfl, hq, hslo, -⟩ := hA1.sl
  have b21 := cellAt_keeps k1 b2
  have l1 := k1.len
  have hoV : SlV intP 0 M1.length M1 (.slice A q cc) out := by
    refine (hA1.slv (by omega)).wide (by omega) (Nat.le_refl _)
  by_cases hlt : q < n2
  case neg =>
    have hc0' : c = 0 := by omega
    subst hc0'
    have hlt' : ¬ (q : Int) < n2 := by omega
    have hL : ordL x.nodes = out := hord
    simp (disch := omega) [t4, t0, b21, hlt']
    exact ⟨_, ⟨rfl, by rw [hL]; omega⟩, fun _ => by rw [hL]; exact hA1, k1⟩
  have hlt' : (q : Int) < n2 := by omega
  simp (disch := omega) [t4, t0, b21, hlt']
  refine awLoop_T (fun m T M' => ∃ i : Nat, i + m = n2 ∧ Keeps M1 M' ∧ look T 6 = some (iv i) ∧ look T 4 = some (.slice A q cc) ∧ look T 0 = some (.pointer (some ⟨id0, off0, none⟩)) ∧ ((look T 5 = some (iv (-1)) ∧ ∀ j, j < i → rdyT x.nodes tk j = false) ∨ ∃ i0 : Nat, look T 5 = some (iv i0) ∧ nextT x.nodes tk = some i0 ∧ i0 < n2)) n2
    ⟨0, by omega, Keeps.refl _, by simp, by simp [t4], by simp [t0], .inl ⟨by simp, fun j hj => by omega⟩⟩ ?_
  clear t4 t0 T
  rintro m T M2 ⟨i, hi, k12, t6, t4, t0, hst⟩
  have k2 := k1.trans k12
  have l2 := k12.len
  have b22 := cellAt_keeps k2 b2
  rcases hst with ⟨t5, hnr⟩ | ⟨i0, t5, hnx, hi0⟩
  · by_cases hltn : i < n2
    · have hltn' : (i : Int) < n2 := by omega
      obtain ⟨id, off, us, rfl, he, hrd, hc⟩ := (p3.keeps k2).at_ hltn
      simp (disch := omega) [t6, t5, t4, t0, b22, hltn']
      refine awCall_det' (l00Has_s (i : Int) (hoV.keeps k12)) (by omega) ?_
      have hyi : idxB n2 (el x.nodes i).from_ = true := by rw [← hn]; exact hx _ (el_mem (by omega))
      have hr := hto.rdy (i := i) (by omega) fun k hk => by
        obtain ⟨f, e1, e2⟩ := waits_idx hyi hk
        exact ⟨f, e1, by omega⟩
      by_cases hin : (i : Int) ∈ out
      · rw [decide_eq_true hin] at hr ⊢
        simp (disch := omega) [t6, wrap_in]
        refine lpI (m - 1) (by omega) ⟨i + 1, by omega, k12, by simp, by simp [t4], by simp [t0], .inl ⟨by simp [t5], fun j hj => ?_⟩⟩
        by_cases e : j = i
        · rw [e, hr]; rfl
        · exact hnr j (by omega)
      · rw [decide_eq_false hin] at hr ⊢
        simp (disch := omega) [t6, t4, t0, b22, hltn, he]
        obtain ⟨w, N, dw, lo', hi', hw⟩ := l07Waits_s hrd hc
        refine awCall_det' dw (by omega) ?_
        have kN : Keeps M2 (M2 ++ N) := keeps_app _
        try simp [t4]
        refine awCall_det' (l07All_s hw ((hoV.keeps k12).keeps kN)) (by simp; omega) ?_
        by_cases ha : ((waits (el x.nodes i)).all fun f => decide (f ∈ out)) = true
        · have hrt : rdyT x.nodes tk i = true := by rw [hr, ha]; rfl
          have hnx : nextT x.nodes tk = some i := nextT_some (by omega) hrt hnr
          rw [ha]
          simp (disch := omega) [t6, wrap_in]
          exact lpI (m - 1) (by omega) ⟨i + 1, by omega, k12.app _, by simp, by simp [t4], by simp [t0], .inr ⟨i, by simp, hnx, by omega⟩⟩
        · rw [Bool.not_eq_true] at ha
          have hrt : rdyT x.nodes tk i = false := by rw [hr, ha]; rfl
          rw [ha]
          simp (disch := omega) [t6, wrap_in]
          refine lpI (m - 1) (by omega) ⟨i + 1, by omega, k12.app _, by simp, by simp [t4], by simp [t0], .inl ⟨by simp [t5], fun j hj => ?_⟩⟩
          by_cases e : j = i
          · rw [e]; exact hrt
          · exact hnr j (by omega)
    · have hltn' : ¬ (i : Int) < n2 := by omega
      have hnx : nextT x.nodes tk = none := nextT_none fun j hj => hnr j (by omega)
      have hL : ordL x.nodes = out := by
        rw [hord]
        cases c with
        | zero => rfl
        | succ c => show (match nextT x.nodes tk with | none => out | some i => _) = out; rw [hnx]
      simp (disch := omega) [t6, t5, t4, t0, b22, hltn']
      exact ⟨_, ⟨rfl, by rw [hL]; omega⟩, fun hh => absurd hh (by rw [hL]; omega), k2⟩
  · have hfr := rdyT_free (ns := x.nodes) (tk := tk) (i := i0) (by
      have := hnx
      unfold nextT at this
      exact List.find?_some this)
    have hcs := count_set_true (tk := tk) (i := i0) (by rw [hto.len]; omega) hfr
    have e1 : ¬ (i0 : Int) < 0 := by omega
    by_cases hltn : (i : Int) < n2
    case' pos => simp (disch := omega) [t6, t5, t4, t0, b22, hltn, e1, fill1I]
    case' neg => simp (disch := omega) [t6, t5, t4, t0, b22, hltn, e1, fill1I]
    all_goals
      refine ((hA1.keeps k12).keeps (keeps_app _)).append (R := intR) (e := 2) (by_ := 8) (a := (i0 : Int)) (Nat.le_refl _) (by simp; omega) (by omega) (by simp) (by kernel_rfl) (by simp [srcOf, intR]) (by rfl) (by omega) (by unfold maxLen; omega) ?_
      intro v' M7 hA7 hS7
      try simp (disch := omega) [t0]
      refine lpI (c - 1) (by omega) ⟨tk.set i0 true, out ++ [(i0 : Int)], v', by omega, ?_, hto.next (by omega), by simp; omega, hS7.keeps (k2.app _) (Nat.le_refl _), hA7, by simp, by simp [t0]⟩
      rw [hord]
      cases c with
      | zero => omega
      | succ c => show (match nextT x.nodes tk with | none => out | some i => _) = _; rw [hnx]; rfl
theorem l07Ok_s {M : Mem} {lo hi id0 off0 : Nat} {us : List Value} {x : Patch} (h : patchP.rd lo hi M x us) (hc0 : Cl M id0 off0 us) : Det Try.prog M.length 104 [.pointer (some ⟨id0, off0, none⟩)] M (.bool (patB x)) M := by
  first | (refine det_fn Try.func104 rfl Try.ntmps104 Try.results104 rfl rfl rfl (by simp) ?_) | (refine det_fnC Try.func104 rfl Try.ntmps104 Try.results104 rfl rfl (by simp) ?_)
  simp
  refine awCall_det' (l07Formed_d h hc0) (Nat.le_refl _) ?_
  by_cases hf : formB x = true
  case neg =>
    rw [Bool.not_eq_true] at hf
    simp [hf, patB, Keeps.refl]
  simp [hf]
  obtain ⟨f1, f2, -⟩ := formB_nodes hf
  refine awCall_ctr (l07Order_s h hc0 f2 f1) ?_
  rintro r M1 ⟨u, rfl, -, k1⟩
  simp [patB, hf]
  exact k1
theorem l22Ok_s {M : Mem} {lo hi id0 off0 : Nat} {us : List Value} {x : Inst} (h : instP.rd lo hi M x us) (hc0 : Cl M id0 off0 us) : Det Try.prog M.length 59 [.pointer (some ⟨id0, off0, none⟩)] M (.bool (instB x)) M := by
  obtain ⟨ps, es, w, rfl, hp, he, hw⟩ := h
  have hp2 := hp
  have he2 := he
  obtain ⟨u1, u2, u3, rfl, hu1, hu2, hu3⟩ := hp2
  obtain ⟨A1, n1, c1, rfl⟩ := hu1.isSl
  obtain ⟨A2, n2, c2, rfl⟩ := hu2.isSl
  obtain ⟨A3, n3, c3, e3, q1, q2, q3⟩ := hu3
  subst e3
  obtain ⟨A4, n4, c4, rfl⟩ := env_isV he
  have hw2 := hw
  obtain ⟨A5, n5, c5, rfl, r1, r2, r3⟩ := hw2
  have ho := q3.1
  have hs := r3.1
  have b0 : cellAt M id0 off0 = some (iv x.pat.inp) := hc0 0 _ rfl
  have b3 : cellAt M id0 (off0 + 3) = some (.slice A3 n3 c3) := hc0 3 _ rfl
  have b7 : cellAt M id0 (off0 + 7) = some (.slice A5 n5 c5) := hc0 7 _ rfl
  have cp : Cl M id0 off0 [iv x.pat.inp, .slice A1 n1 c1, .slice A2 n2 c2, .slice A3 n3 c3] := fun j y hy => hc0 j y (by
    rw [List.append_assoc, List.getElem?_append_left (List.getElem?_eq_some_iff.1 hy).1]; exact hy)
  have ce : Cl M id0 (off0 + 4) [iv x.env.st, .slice A4 n4 c4, iv x.env.rel] := fun j y hy => by
    have := hc0 (4 + j) y (by
      rw [List.append_assoc, List.getElem?_append_right (by simp), show 4 + j - [iv x.pat.inp, Value.slice A1 n1 c1, .slice A2 n2 c2, .slice A3 n3 c3].length = j by simp, List.getElem?_append_left (List.getElem?_eq_some_iff.1 hy).1]; exact hy)
    rwa [← Nat.add_assoc] at this
  first | (refine det_fn Try.func59 rfl Try.ntmps59 Try.results59 rfl rfl rfl (by simp) ?_) | (refine det_fnC Try.func59 rfl Try.ntmps59 Try.results59 rfl rfl (by simp) ?_)
  simp
  refine awCall_det' (l07Ok_s hp cp) (by simp) ?_
  by_cases g1 : patB x.pat = true
  case neg => simp [g1, instB, Keeps.refl]
  by_cases g2 : x.pat.inp = 3
  case neg => simp (disch := omega) [g1, g2, b0, instB, Keeps.refl]
  by_cases g3 : n3 = 1
  case neg =>
    have g3' : ¬ (n3 : Int) = 1 := by omega
    simp (disch := omega) [g1, g2, g3, g3', b0, b3, ho, instB, Keeps.refl]
  subst g3
  simp (disch := omega) [g1, g2, b0, b3]
  refine awCall_det' (l14Ok_s he ce) (by simp) ?_
  by_cases g4 : envB x.env = true
  case neg => simp [g1, g2, ho, g4, instB, Keeps.refl]
  by_cases g5 : n5 = 12
  case neg =>
    have g5' : ¬ (n5 : Int) = 12 := by omega
    simp (disch := omega) [g1, g2, ho, g4, g5, g5', b7, hs, instB, Keeps.refl]
  subst g5
  simp (disch := omega) [g4, b7]
  refine awCall_det' (l04Samples_s hw) (by simp) ?_
  simp [g1, g2, ho, g4, hs, instB, Keeps.refl]
theorem inst_cl {M : Mem} {id : Nat} {vs : List Value} {t o : Bool} {e : TypeId} {z : Nat} (h : M[id]? = some (.live ⟨vs, o, t, e, z⟩)) : Cl M id 0 vs := fun j y hy => by
  simp only [cellAt, h, Nat.zero_add]; exact hy
theorem ValidInstrument_s {M : Mem} {lo hi : Nat} {us : List Value} {x : Inst} (h : instP.rd lo hi M x us) : Det Try.prog M.length 15 [.agg us.toArray] M (.bool (instB x)) M := by
  have hl := instP.len h
  first | (refine det_fn Try.func15 rfl Try.ntmps15 Try.results15 rfl rfl rfl (by simp) ?_) | (refine det_fnC Try.func15 rfl Try.ntmps15 Try.results15 rfl rfl (by simp) ?_)
  simp [hl]
  have hc : Cl (M ++ [Slot.live ⟨us, true, true, 41, 8⟩]) M.length 0 us := inst_cl (t := true) (o := true) (e := 41) (z := 8) (by simp)
  refine awCall_det' (l22Ok_s (instP.app h _) hc) (by simp) ?_
  simp [keeps_app]
end Go.Proofs.Ytffbocbjmhkikaa
