/- Parts of the proof, together: Frames one behind the other, as the reference plays them. The signal of a voice: the reference's. Instruments, patches, envelopes: whether they are the same. Instruments: whether they are the same, the rest. ControlsOf, as its law needs it. RenderVoice, as its law needs it. Gates: the gates of a voice. The sum of the signals of voices. Frac: records in memory, and the laws' helpers on them. Fracti No conditions. -/
import Derived.Test.YtimijeeihicohaaGreatZzPf18
import Derived.Test.YtimijeeihicohaaGreatZzPf10
import Derived.Test.YtimijeeihicohaaGreatZzPf17
import Derived.Test.YtimijeeihicohaaGreatZzPf15
import Derived.Test.YtimijeeihicohaaGreatZzPf8
import Derived.Test.YtimijeeihicohaaGreatZzPf9
import Derived.Laws.StructEq
namespace Go.Proofs.YtimijeeihicohaaGreat
open Go.RowKit
set_option linter.unusedVariables false
set_option linter.unusedSimpArgs false
set_option maxRecDepth 100000
attribute [local simp] List.getElem?_cons_zero
attribute [local irreducible] awCond awCall awLoop awDraw ow retQ retC resQ Keeps
theorem Off.cl {X : Nat → Prop} {M M' : Mem} {id off : Nat} {us : List Value} (h : Off X M M') (hx : ¬ X id) (hc : Cl M id off us) : Cl M' id off us := fun j y hy => by
  have := hc j y hy
  unfold cellAt at this ⊢
  cases hm : M[id]? with
  | none => rw [hm] at this; cases this
  | some s => rw [h.2 id s hx hm]; rw [hm] at this; exact this
theorem hA0_apart (q i : Nat) (h : q ≠ i) : Apart (.slice (some ⟨q, 0, none⟩) 0 0) i := fun A n c a ea eb => by
  injection ea with ea
  subst ea
  injection eb with eb
  subst eb
  exact fun e => h e.symm
def BlockS (M : Mem) (sid : Nat) (l : List Int) (r : Value) (M' : Mem) : Prop := ∃ uid v c, r = .slice (some ⟨uid, 0, none⟩) 1 c ∧ cellAt M' uid 0 = some v ∧ rowEsz M' uid = some 1 ∧ VoO M.length M' v l ∧ Off (fun i => i = sid) M M'
set_option maxHeartbeats 4000000 in
theorem l08Block_s {M : Mem} {b lo hi lo1 hi1 lo2 hi2 id0 off0 sid N : Nat} {us : List Value} {p : Patch} {sv iw : Value} {ins : List (List Int)} (h : patchP.rd lo hi M p us) (hc0 : Cl M id0 off0 us) (hf : formB p = true) (ho : (ordL p.nodes).length = p.nodes.length)
    (hsv : M[sid]? = some (.live ⟨[sv], true, true, 209, 1⟩)) (hcs : SlV tabP lo1 hi1 M sv (p.nodes.map startV)) (hins : SlV tabP lo2 hi2 M iw ins) (hin : p.inp = ins.length) (hout : p.outs.length = 1) (hN : N ≤ 4000) (hb : b ≤ sid)
    (av : ∀ i, lo ≤ i → i < hi → i ≠ sid) (av1 : ∀ i, lo1 ≤ i → i < hi1 → i ≠ sid) (av2 : ∀ i, lo2 ≤ i → i < hi2 → i ≠ sid) (hM : hi1 ≤ M.length) (hid : id0 ≠ sid) :
    Ctr Tryz.prog b 147 [.pointer (some ⟨id0, off0, none⟩), .pointer (some ⟨sid, 0, none⟩), iw, iv 0, iv N] M fun r M' => BlockS M sid (rendS p ins N).1 r M' := by
  obtain ⟨hx, htb, hn24, hidx, hi0, hi4, hoi⟩ := formB_parts hf
  have hsl : sid < M.length := (List.getElem?_eq_some_iff.1 hsv).1
  obtain ⟨o, ho1⟩ : ∃ o, p.outs = [o] := by
    match hpo : p.outs, hout with
    | [o], _ => exact ⟨o, rfl⟩
  have hoo : ∃ f : Nat, o = f ∧ f < p.nodes.length := by
    rw [ho1] at hoi
    have := inB_iff.1 (List.all_eq_true.1 hoi o (by simp))
    obtain ⟨f, hf⟩ := Int.eq_ofNat_of_zero_le this.1
    exact ⟨f, hf, by omega⟩
  obtain ⟨f_, hof, hfl⟩ := hoo
  first | (refine ctr_fn Tryz.func147 rfl Tryz.ntmps147 Tryz.results147 rfl rfl (by simp) ?_) | (refine ctr_fnC Tryz.func147 rfl Tryz.ntmps147 Tryz.results147 rfl (by simp) ?_)
  simp
  refine awCall_ctr ((l07Order_s h hc0 hidx hn24).weaken (by omega)) ?_
  rintro _ M0 ⟨ou, rfl, hAo, k0⟩
  have hAo := hAo ho
  have hov := hAo.slv (by omega)
  obtain ⟨Ao, no, co, rfl, -⟩ := id hAo
  have l0 := k0.len
  simp
  -- what stands in memory from here on
  have h0 := patchP.keeps h k0
  have hc00 := Cl.keeps hc0 k0
  have hsv0 := k0.get hsv
  have hcs0 := hcs.keeps k0
  have hins0 := hins.keeps k0
  have avo : ∀ i, M.length ≤ i → i < M0.length → i ≠ sid := fun i a b => by omega
  obtain ⟨A1, n1, c1, A2, n2, c2, A3, n3, c3, rfl⟩ := patch_isV h
  have cp := hc00 3 _ rfl
  obtain ⟨u1, u2, u3, e, hu1, hu2, hu3⟩ := id h0
  simp only [List.cons.injEq, and_true, true_and] at e
  obtain ⟨rfl, rfl, rfl⟩ := e
  obtain ⟨A3', n3', c3', e3, hol, -, hSo3, -⟩ := sl_take hu3
  injection e3 with e3a e3b e3c
  subst e3a; subst e3b; subst e3c
  obtain rfl : n3 = 1 := by omega
  obtain ⟨idp, offp, rfl, hep, hcp⟩ := sl_cells hSo3 (by omega)
  have cpo := hcp 0 (by omega)
  rw [ho1, show el [o] 0 = o from rfl, hof] at cpo
  simp only [Nat.add_zero] at cpo
  obtain ⟨Ai, ni, ci, rfl, w1, w2, w3⟩ := id hins0
  have hnil := w3.1
  refine awLoop_T (fun m T M1 => ∃ e : Nat, e + m = 1 ∧ (e = 0 → M1 = M0 ++ [Slot.live ⟨[], true, true, 24, 1⟩] ∧ look T 13 = some (.slice (some ⟨M0.length, 0, none⟩) 0 0)) ∧ (e = 1 → ∃ uid v c t, Keeps M0 M1 ∧ look T 13 = some (.slice (some ⟨uid, 0, none⟩) 1 c) ∧ M1[uid]? = some (.live ⟨[v], true, t, 24, 1⟩) ∧ M0.length ≤ uid ∧ Acc intR 2 M0.length M1 v [] ∧ Apart v uid) ∧ look T 14 = some (iv e) ∧ look T 11 = some (.slice Ao no co) ∧ look T 0 = some (.pointer (some ⟨id0, off0, none⟩)) ∧ look T 1 = some (.pointer (some ⟨sid, 0, none⟩)) ∧ look T 2 = some (.slice Ai ni ci) ∧ look T 3 = some (iv 0) ∧ look T 4 = some (iv N)) 1
    ⟨0, by omega, fun _ => ⟨rfl, by simp⟩, (fun h => by cases h), by simp, by simp, by simp, by simp, by simp, by simp, by simp⟩ ?_
  rintro m T M1 ⟨e, hm, z0, z1, t14, t11, t0, t1, t2, t3, t4⟩
  have hcc : e = 0 ∨ e = 1 := by omega
  rcases hcc with rfl | rfl
  · obtain ⟨rfl, t13⟩ := z0 rfl
    have cp1 := cellAt_app cp [Slot.live ⟨[], true, true, 24, 1⟩]
    simp (disch := omega) [t14, t13, t11, t0, t1, t2, t3, t4, cp1, fill1S, wrap_in]
    have hA0 : Acc valR 24 M0.length (M0 ++ [Slot.live ⟨[], true, true, 24, 1⟩, .live ⟨[], true, true, 2, 1⟩, .live ⟨[.slice (some ⟨M0.length + 1, 0, none⟩) 0 0], true, true, 24, 1⟩]) (.slice (some ⟨M0.length, 0, none⟩) 0 0) [] := ⟨_, 0, 0, rfl, rfl, .inr ⟨M0.length, true, rfl, Nat.le_refl _, by simp [cellsL_nil]⟩⟩
    refine hA0.append2 (P := Tryz.prog) (by_ := 24) (a := .slice (some ⟨M0.length + 1, 0, none⟩) 0 0) (by omega) (by simp) (by omega) (by simp) (by kernel_rfl) (by simp [srcOf, valR, cellsAt]) rfl (by simp) (by unfold maxLen; simp) fun v' M2 a2 b2 d2 => ?_
    have r1 : (M0 ++ [Slot.live ⟨[], true, true, 24, 1⟩, .live ⟨[], true, true, 2, 1⟩, .live ⟨[.slice (some ⟨M0.length + 1, 0, none⟩) 0 0], true, true, 24, 1⟩])[M0.length + 1]? = some (.live ⟨[], true, true, 2, 1⟩) := by simp
    obtain ⟨r2, ap2⟩ := d2 _ _ (hA0_apart M0.length _ (by omega)) r1
    obtain ⟨A', n', c', rfl, hl', hA'⟩ := a2
    rcases hA' with ⟨rfl, hn0, -⟩ | ⟨uid, t', rfl, hu1', hu2'⟩
    · simp at hl'; omega
    have hn1 : n' = 1 := by simpa using hl'.symm
    subst hn1
    try simp (disch := omega) [t14, t13, t11, t0, t1, t2, t3, t4, wrap_in]
    refine lpI (m - 1) (by omega) ⟨1, by omega, (fun h => by cases h), fun _ => ⟨uid, .slice (some ⟨M0.length + 1, 0, none⟩) 0 0, c', t', ?_, by simp, by simpa [cellsL_valR] using hu2', hu1', ⟨_, 0, 0, rfl, rfl, .inr ⟨M0.length + 1, true, rfl, by omega, by simpa [cellsL_nil] using r2⟩⟩, fun A n c a ea eb => ?_⟩, by simp, by simp [t11], by simp [t0], by simp [t1], by simp [t2], by simp [t3], by simp [t4]⟩
    · exact b2.keeps (keeps_app _) (Nat.le_refl _)
    · injection ea with ea
      subst ea
      injection eb with eb
      subst eb
      have := ap2 _ _ _ _ rfl rfl
      show uid ≠ M0.length + 1
      exact fun e => this e.symm
  · obtain ⟨uid, v, cu, tu, kM, t13, ru, lu, hA, hap⟩ := z1 rfl
    have cp1 := cellAt_keeps kM cp
    have offM : Off (fun i => i = sid) M0 M1 := kM.off _
    have rs1 := kM.get hsv0
    have hcs1 := hcs0.keeps kM
    have lM1 := kM.len
    simp (disch := omega) [t14, t13, t11, t0, t1, t2, t3, t4, cp1, wrap_in]
    refine awLoop_T (fun m T M1 => ∃ (t : Nat) (sv v : Value) (vs : List Int) (Bt Ht : Nat), t + m = N ∧ Off (fun i => i = sid) M0 M1 ∧ M1[sid]? = some (.live ⟨[sv], true, true, 209, 1⟩) ∧ SlV tabP Bt Ht M1 sv (rendS p ins t).2 ∧ Ht ≤ M1.length ∧ (∀ i, Bt ≤ i → i < Ht → Apart v i ∧ i ≠ uid ∧ i ≠ sid) ∧ M1[uid]? = some (.live ⟨[v], true, tu, 24, 1⟩) ∧ Acc intR 2 M0.length M1 v (rendS p ins t).1 ∧ Apart v uid ∧ look T 15 = some (iv t) ∧ look T 13 = some (.slice (some ⟨uid, 0, none⟩) 1 cu) ∧ look T 11 = some (.slice Ao no co) ∧ look T 0 = some (.pointer (some ⟨id0, off0, none⟩)) ∧ look T 1 = some (.pointer (some ⟨sid, 0, none⟩)) ∧ look T 2 = some (.slice Ai ni ci) ∧ look T 3 = some (iv 0) ∧ look T 4 = some (iv N)) N
      ⟨0, sv, v, [], lo1, hi1, by omega, offM, rs1, hcs1, by omega, fun i h1 h2 => ⟨hA.apartB (by omega), by omega, av1 i h1 h2⟩, ru, hA, hap, by simp, by simp [t13], by simp [t11], by simp [t0], by simp [t1], by simp [t2], by simp [t3], by simp [t4]⟩ ?_
    clear t14 t13 t11 t0 t1 t2 t3 t4 hcs1 rs1 offM cp1 ru hA hap kM lM1 z0 z1 hm
    rintro m T M1 ⟨t, sv, v, -, Bt, Ht, hm, hoff, rs, hcs, lHt, hav, ru, hA, hap, t15, t13, t11, t0, t1, t2, t3, t4⟩
    have l1 := hoff.1
    have lu1 := (List.getElem?_eq_some_iff.1 ru).1
    by_cases hlt : t < N
    case neg =>
      obtain rfl : t = N := by omega
      simp (disch := omega) [t15, t13, t11, t0, t1, t2, t3, t4, wrap_in]
      exact ⟨uid, v, cu, rfl, by simp [cellAt, ru], by simp [rowEsz, ru], hA.low l0, (k0.off _).trans hoff⟩
    simp (disch := omega) [t15, t13, t11, t0, t1, t2, t3, t4, hlt, wrap_in]
    -- the frame's inputs
    refine awLoop_T (fun m' T M2 => ∃ (c : Nat) (fv : Value), c + m' = ni ∧ Same M1.length M1 M2 ∧ Acc intR 2 M1.length M2 fv ((frameV ins t).take c) ∧ look T 17 = some (iv c) ∧ look T 16 = some fv ∧ look T 15 = some (iv t) ∧ look T 13 = some (.slice (some ⟨uid, 0, none⟩) 1 cu) ∧ look T 11 = some (.slice Ao no co) ∧ look T 0 = some (.pointer (some ⟨id0, off0, none⟩)) ∧ look T 1 = some (.pointer (some ⟨sid, 0, none⟩)) ∧ look T 2 = some (.slice Ai ni ci) ∧ look T 3 = some (iv 0) ∧ look T 4 = some (iv N)) ni
      ⟨0, _, by omega, .appS _ _, ⟨_, 0, 0, rfl, rfl, .inr ⟨M1.length, true, rfl, Nat.le_refl _, by simp [cellsL_nil]⟩⟩, by simp, by simp, by simp [t15], by simp [t13], by simp [t11], by simp [t0], by simp [t1], by simp [t2], by simp [t3], by simp [t4]⟩ ?_
    clear t15 t13 t11 t0 t1 t2 t3 t4
    rintro m' T M2 ⟨c, fv, hm', hs2, hF, t17, t16, t15, t13, t11, t0, t1, t2, t3, t4⟩
    have k12 := slt hs2
    have hoff2 := hoff.trans (k12.off _)
    have hfrl : (frameV ins t).length = ni := by rw [frameV_len, hnil]
    by_cases hc : c < ni
    · obtain ⟨idi, offi, usi, rfl, hei, ⟨ui, rfl, hui⟩, hci⟩ := (w3.agree (hoff2.agree av2)).at_ hc
      have ci1 := (cl_cons.1 hci).1
      simp only [Nat.mul_one] at ci1
      simp (disch := omega) [t17, t16, t15, t13, t11, t0, t1, t2, t3, t4, hc, hei, ci1, wrap_in]
      refine awCall_det' (l03At_s t hui) (by have := hs2.1; omega) ?_
      simp [fill1I]
      refine (hF.keeps (keeps_app _)).append (P := Tryz.prog) (by_ := 8) (a := atL (el ins c) t) (by omega) (by have := hs2.1; simp; omega) (by omega) (by simp) (by kernel_rfl) (by simp [srcOf]; rfl) rfl (by simp; omega) (by simp; unfold maxLen; omega) fun v' M3 a3 b3 => ?_
      have hs3 := Same.trans' (Same.trans' hs2 (Same.appB _ _)) b3
      try simp (disch := omega) [t17, t16, t15, t13, t11, t0, t1, t2, t3, t4, wrap_in]
      refine lpI (m' - 1) (by omega) ⟨c + 1, v', by omega, hs3, ?_, by simp, by simp, by simp [t15], by simp [t13], by simp [t11], by simp [t0], by simp [t1], by simp [t2], by simp [t3], by simp [t4]⟩
      rw [take_el (by omega), frameV_el (by omega)]
      exact a3
    obtain rfl : c = ni := by omega
    rw [List.take_of_length_le (by omega)] at hF
    have hfv := hF.slv (by omega)
    have hvalX := l08Values_x (sid := sid) (sv := sv) (patchP.agree h0 (hoff2.agree av)) (hoff2.cl hid hc00) hf ho (hov.agree (hoff2.agree avo)) (by simp [cellAt, k12.get rs]) (hcs.keeps k12) (rendS_ok hx t) hfv (by rw [frameV_len]; exact hin)
    simp (disch := omega) [t17, t16, t15, t13, t11, t0, t1, t2, t3, t4]
    refine awCall_det' hvalX (by have := hs2.1; omega) ?_
    have hrs : (rendS p ins (t + 1)) = ((rendS p ins t).1 ++ [el (valsV p (rendS p ins t).2 (frameV ins t)) f_], nextC p (rendS p ins t).2 (frameV ins t) (valsV p (rendS p ins t).2 (frameV ins t))) := by
      rw [rendS, ho1, show el [o] 0 = o from rfl, hof]
      rfl
    have hrl := rendS_len (p := p) (ins := ins) t
    have hVl : (valsV p (rendS p ins t).2 (frameV ins t)).length = p.nodes.length := by unfold valsV; rw [curV_len]; simp
    generalize hV : valsV p (rendS p ins t).2 (frameV ins t) = V at *
    obtain ⟨M3, hM3⟩ : ∃ M3 : Mem, M3 = M2 ++ [Slot.live (rowI V)] := ⟨_, rfl⟩
    have k23 : Keeps M2 M3 := by rw [hM3]; exact keeps_app _
    have l3 : M3.length = M2.length + 1 := by rw [hM3]; simp
    have r3 : M3[M2.length]? = some (.live (rowI V)) := by rw [hM3]; simp
    rw [← hM3]
    clear hM3 hvalX
    have k13 := k12.trans k23
    have hoff3 := hoff.trans (k13.off _)
    have ru3 := k13.get ru
    have hA3 := hA.keeps k13
    have cp3 := hoff3.cl hid hc00 3 _ rfl
    have cpo3 : cellAt M3 idp offp = some (iv f_) ∧ rowEsz M3 idp = some 1 := by
      obtain ⟨id_, off_, d_, e_, he_, c0_, -, -⟩ := slv_at (hu3.agree (hoff3.agree av)) hout (by omega)
      injection e_ with e_
      injection e_ with e_
      injection e_ with e1_ e2_
      subst e1_; subst e2_
      rw [ho1, show el [o] 0 = o from rfl, hof] at c0_
      exact ⟨c0_, he_⟩
    obtain ⟨cpo3, epo3⟩ := cpo3
    have cpp3 : cellAt M3 id0 (off0 + 3) = some (.slice (some ⟨idp, offp, none⟩) 1 c3) := cp3
    have cV3 : cellAt M3 M2.length f_ = some (iv (el V f_)) := by
      have := cellsL_get intR (l := V) (i := f_) (j := 0) (by omega) (by omega)
      simp [cellAt, r3, rowI]
      simpa [intR] using this
    have eV3 : rowEsz M3 M2.length = some 1 := by simp [rowEsz, r3, rowI]
    have eu3 : rowEsz M3 uid = some 1 := by simp [rowEsz, ru3]
    have cu3 : cellAt M3 uid 0 = some v := by simp [cellAt, ru3]
    have lu2 := hs2.1
    refine awLoop_T (fun m'' T M4 => ∃ e : Nat, e + m'' = 1 ∧ (e = 0 → M4 = M3) ∧ (e = 1 → ∃ v', M4[uid]? = some (.live ⟨[v'], true, tu, 24, 1⟩) ∧ Acc intR 2 M0.length M4 v' ((rendS p ins t).1 ++ [el V f_]) ∧ Apart v' uid ∧ M3.length ≤ M4.length ∧ (∀ (i : Nat) s, Apart v i → i ≠ uid → M3[i]? = some s → M4[i]? = some s ∧ Apart v' i)) ∧ look T 19 = some (iv e) ∧ look T 18 = some (.slice (some ⟨M2.length, 0, none⟩) p.nodes.length p.nodes.length) ∧ look T 16 = some fv ∧ look T 15 = some (iv t) ∧ look T 13 = some (.slice (some ⟨uid, 0, none⟩) 1 cu) ∧ look T 11 = some (.slice Ao no co) ∧ look T 0 = some (.pointer (some ⟨id0, off0, none⟩)) ∧ look T 1 = some (.pointer (some ⟨sid, 0, none⟩)) ∧ look T 2 = some (.slice Ai c ci) ∧ look T 3 = some (iv 0) ∧ look T 4 = some (iv N)) 1
      ⟨0, by omega, fun _ => rfl, (fun h => by cases h), by simp, by simp, by simp [t16], by simp [t15], by simp [t13], by simp [t11], by simp [t0], by simp [t1], by simp [t2], by simp [t3], by simp [t4]⟩ ?_
    clear t17 t16 t15 t13 t11 t0 t1 t2 t3 t4
    rintro m'' T M4 ⟨e, hm'', g0, g1, t19, t18, t16, t15, t13, t11, t0, t1, t2, t3, t4⟩
    have hcc : e = 0 ∨ e = 1 := by omega
    rcases hcc with rfl | rfl
    · obtain rfl := g0 rfl
      simp (disch := omega) [t19, t18, t16, t15, t13, t11, t0, t1, t2, t3, t4, cpp3, wrap_in]
      refine awDraw_M 17 [[],[],[],[],[2,3],[4,2,3],[],[],[7],[8,7],[9,8,7],[],[10,9,8,7,11],[12,10,9,8,7,11],[6,13,12,10,9,8,7,11],[14,6,13,12,10,9,8,7,11],[15,14,6,13,12,10,9,8,7,11],[5,4,2,3,16,15,14,6,13,12,10,9,8,7,11],[0,1,2,3,4,5,6,7,8,9,10,11,12,13,14,15,16,17],[18,0,1,2,3,4,5,6,7,8,9,10,11,12,13,14,15,16,17]] [0,1] (by kernel_rfl) (by decide +kernel) (by decide +kernel) ?_
      simp (disch := omega) [t19, t18, t16, t15, t13, t11, t0, t1, t2, t3, t4, cpp3, epo3, cpo3, eV3, cV3, eu3, cu3, hfl, fill1I]
      have kx : Keeps M4 (M4 ++ [Slot.live ⟨[iv (el V f_)], true, true, 2, 1⟩]) := keeps_app _
      refine (hA3.keeps kx).append2 (P := Tryz.prog) (by_ := 8) (a := el V f_) (by omega) (by simp; omega) (by omega) (by simp) (by kernel_rfl) (by simp [srcOf]; rfl) rfl (by omega) (by unfold maxLen; omega) fun v' M6 a6 b6 d6 => ?_
      obtain ⟨ru6, hap6⟩ := d6 _ _ hap (kx.get ru3)
      have hl6 := b6.1
      simp at hl6
      obtain ⟨A', n', c', rfl, -⟩ := id a6
      have lt6 := (List.getElem?_eq_some_iff.1 ru6).1
      have pu : putCells b M6 uid 0 [.slice A' n' c'] = some (M6.set uid (.live ⟨[.slice A' n' c'], true, tu, 24, 1⟩)) := put_whole (vs := [.slice A' n' c']) ru6 (by omega) rfl (by simp)
      simp (disch := omega) [t19, t18, t16, t15, t13, t11, t0, t1, t2, t3, t4, wrap_in, pu]
      refine lpI (m'' - 1) (by omega) ⟨1, by omega, (fun h => by omega), fun _ => ⟨_, List.getElem?_set_self lt6, ?_, hap6, by simp; omega, fun i s hi hu hs => ?_⟩, by simp, by simp [t18], by simp [t16], by simp [t15], by simp [t13], by simp [t11], by simp [t0], by simp [t1], by simp [t2], by simp [t3], by simp [t4]⟩
      · obtain ⟨A2', n2', c2', e2', g2', g3'⟩ := a6
        injection e2' with e2a' e2b' e2c'
        subst e2a'; subst e2b'; subst e2c'
        refine ⟨_, _, _, rfl, g2', ?_⟩
        rcases g3' with g3' | ⟨id, t', rfl, g4', g5'⟩
        · exact .inl g3'
        · exact .inr ⟨id, t', rfl, g4', by rw [List.getElem?_set_ne (hap6 _ _ _ _ rfl rfl)]; exact g5'⟩
      · obtain ⟨f1, f2⟩ := d6 _ _ hi (kx.get hs)
        exact ⟨by rw [List.getElem?_set_ne (Ne.symm hu)]; exact f1, f2⟩
    · obtain ⟨v', ru4, hA4, hap4, l4, hk4⟩ := g1 rfl
      have lsid : sid < M0.length := by omega
      have offM4 : Off (fun i => i = sid) M0 M4 := ⟨by omega, fun i s hi hs => by
        have hlt := (List.getElem?_eq_some_iff.1 hs).1
        exact (hk4 i s (hA3.apartB hlt) (by omega) (hoff3.2 i s hi hs)).1⟩
      have cpp4 : cellAt M4 id0 (off0 + 3) = some (.slice (some ⟨idp, offp, none⟩) 1 c3) := offM4.cl hid hc00 3 _ rfl
      have rs4 := (hk4 sid _ (hA3.apartB lsid) (by omega) (k13.get rs)).1
      have rV4 := (hk4 M2.length _ (hA.apart (by omega)) (by omega) r3).1
      have hfv4 := (hfv.keeps k23).agree (lo := M1.length) (hi := M2.length) (M' := M4) fun i s h1 h2 hs => (hk4 i s (hA.apart h1) (by omega) hs).1
      have hcs4 := (hcs.keeps k13).agree (lo := Bt) (hi := Ht) (M' := M4) fun i s h1 h2 hs => (hk4 i s (hav i h1 h2).1 (hav i h1 h2).2.1 hs).1
      have hV4 := rowI_rd rV4 (by omega)
      rw [hVl] at hV4
      simp (disch := omega) [t19, t18, t16, t15, t13, t11, t0, t1, t2, t3, t4, cpp4, wrap_in]
      refine awCall_ctr (l08Step_s (M := M4) (patchP.agree h0 (offM4.agree av)) (offM4.cl hid hc00) hf rs4 hcs4 (rendS_ok hx t) hfv4 (by rw [frameV_len]; exact hin) hV4 hVl hb) ?_
      rintro _ M5 ⟨sv5, rs5, hcs5, l5, hk5⟩
      have offM5 : Off (fun i => i = sid) M0 M5 := offM4.trans ⟨l5, fun i s hi hs => hk5 i s hi hs⟩
      have hA5 : Acc intR 2 M0.length M5 v' ((rendS p ins t).1 ++ [el V f_]) := hA4.off (X := fun i => i = sid) ⟨l5, fun i s hi hs => hk5 i s hi hs⟩ (fun i hi => by omega)
      try simp (disch := omega) [t19, t18, t16, t15, t13, t11, t0, t1, t2, t3, t4, wrap_in]
      refine lpI (m - 1) (by omega) ⟨t + 1, sv5, v', [], M4.length, M5.length, by omega, offM5, rs5, by rw [hrs]; exact hcs5, Nat.le_refl _, fun i h1 h2 => ⟨hA4.apart h1, by omega, by omega⟩, hk5 _ _ (by omega) ru4, by rw [hrs]; exact hA5, hap4, by simp, by simp [t13], by simp [t11], by simp [t0], by simp [t1], by simp [t2], by simp [t3], by simp [t4]⟩
def RendS (M : Mem) (l : List Int) (r : Value) (M' : Mem) : Prop := ∃ uid v c, r = .slice (some ⟨uid, 0, none⟩) 1 c ∧ cellAt M' uid 0 = some v ∧ rowEsz M' uid = some 1 ∧ VoO M.length M' v l ∧ Keeps M M'
theorem l08Render_s {M : Mem} {lo hi lo2 hi2 id0 off0 N : Nat} {us : List Value} {p : Patch} {iw : Value} {ins : List (List Int)} (h : patchP.rd lo hi M p us) (hc0 : Cl M id0 off0 us) (hf : formB p = true) (ho : (ordL p.nodes).length = p.nodes.length)
    (hins : SlV tabP lo2 hi2 M iw ins) (hin : p.inp = ins.length) (hout : p.outs.length = 1) (hN : N ≤ 4000) (hM : hi ≤ M.length ∧ hi2 ≤ M.length ∧ id0 < M.length) :
    Ctr Tryz.prog M.length 99 [.pointer (some ⟨id0, off0, none⟩), iw, iv N] M fun r M' => RendS M (rendS p ins N).1 r M' := by
  obtain ⟨hx, htb, hn24, hidx, hi0, hi4, hoi⟩ := formB_parts hf
  first | (refine ctr_fn Tryz.func99 rfl Tryz.ntmps99 Tryz.results99 rfl rfl (by simp) ?_) | (refine ctr_fnC Tryz.func99 rfl Tryz.ntmps99 Tryz.results99 rfl (by simp) ?_)
  simp
  refine awCall_ctr (l08Start_s h hc0 hx hn24) ?_
  rintro _ M1 ⟨v, rfl, hL, k1⟩
  have l1 := k1.len
  obtain ⟨A, n, c, rfl⟩ := hL.one
  have hLs := hL.slv (fun c hc => by
    obtain ⟨k, hk, rfl⟩ := List.getElem_of_mem hc
    simp at hk ⊢
    exact startV_small (hx _ (List.getElem_mem _))) (by simp; omega)
  simp
  have kx : Keeps M1 (M1 ++ [Slot.live ⟨[.slice A n c], true, true, 209, 1⟩]) := keeps_app _
  rw [put_boxJ (vs := [.slice A n c]) (cs := [.slice none 0 0]) l1 rfl (by simp), ow_some]
  refine awCall_ctr (l08Block_s (b := M.length) (sid := M1.length) (N := N) (patchP.keeps h (k1.trans kx)) (Cl.keeps hc0 (k1.trans kx)) hf ho (sv := .slice A n c) (by simp) (hLs.keeps kx) (hins.keeps (k1.trans kx)) hin hout hN l1 (fun i a b => by omega) (fun i a b => by omega) (fun i a b => by omega) (by simp) (by omega)) ?_
  rintro r M2 ⟨uid, w, cu, rfl, f1, f2, f3, f4⟩
  try simp
  have kM : Keeps M M2 := by
    unfold Keeps
    exact fun i s hs => f4.2 i s (by have := (List.getElem?_eq_some_iff.1 hs).1; omega) ((k1.trans kx).get hs)
  exact ⟨uid, w, cu, rfl, f1, f2, Acc.low f3 (by simp; omega), kM⟩
end Go.Proofs.YtimijeeihicohaaGreat

namespace Go.Proofs.YtimijeeihicohaaGreat
open Go.RowKit
set_option linter.unusedVariables false
set_option linter.unusedSimpArgs false
set_option maxRecDepth 100000
attribute [local simp] List.getElem?_cons_zero
attribute [local irreducible] awCond awCall awLoop awDraw ow retQ retC resQ Keeps
theorem VoO.keeps {B : Nat} {M M' : Mem} {u : Value} {l : List Int} (h : VoO B M u l) (hk : Keeps M M') : VoO B M' u l := Acc.keeps h hk
theorem VoO.turn {B lo hi : Nat} {M M' : Mem} {u : Value} {l : List Int} (h : VoO B M u l) (ht : Turn lo hi M M') (hb : hi ≤ B) : VoO B M' u l := Acc.turn h ht hb
theorem VoO.slv {B : Nat} {M : Mem} {u : Value} {l : List Int} (h : VoO B M u l) (hl : l.length ≤ 4000) : SlV intP B M.length M u l := Acc.slv h (by omega)
set_option maxHeartbeats 1000000 in
theorem l22Voice_s {M : Mem} {lo hi id0 off0 : Nat} {us : List Value} {x : Inst} {A : Option Addr} {n c N : Nat} {l : List Gate} (h : instP.rd lo hi M x us) (hc0 : Cl M id0 off0 us) (hb : instB x = true) (hg : Sl gateR M A n l) (hok : okG l = true) (hN : N ≤ 4000) (hM : hi ≤ M.length ∧ id0 < M.length) :
    Ctr Tryz.prog M.length 53 [.pointer (some ⟨id0, off0, none⟩), .slice A n c, iv N] M fun r M' => VoO M.length M' r (voL x l N) ∧ Keeps M M' := by
  obtain ⟨f1, f2, f3, f4, f5⟩ := instB_pat hb
  have h' := h
  obtain ⟨ps, es, w, rfl, hp, he, hw⟩ := h'
  obtain ⟨A1, n1, c1, A2, n2, c2, A3, n3, c3, rfl⟩ := patch_isV hp
  have hcp : Cl M id0 off0 [iv x.pat.inp, .slice A1 n1 c1, .slice A2 n2 c2, .slice A3 n3 c3] := by
    rw [List.append_assoc] at hc0
    exact (cl_app.1 hc0).1
  first | (refine ctr_fn Tryz.func53 rfl Tryz.ntmps53 Tryz.results53 rfl rfl (by simp) ?_) | (refine ctr_fnC Tryz.func53 rfl Tryz.ntmps53 Tryz.results53 rfl (by simp) ?_)
  simp
  refine awDraw_K (fun _ => []) (fun k v M' => match k with
    | 0 => v = .pointer (some ⟨id0, off0, none⟩)
    | 1 => v = .pointer (some ⟨id0, off0, none⟩)
    | 2 => v = .pointer (some ⟨id0, off0, none⟩)
    | 3 => v = .pointer (some ⟨id0, off0, none⟩)
    | 4 => v = .slice A n c
    | 5 => v = iv N
    | 6 => ∃ lo hi, SlV tabP lo hi M' v (ctlL x l N) ∧ hi ≤ M'.length
    | 7 => v = iv N
    | 8 => ∃ uid w c, v = .slice (some ⟨uid, 0, none⟩) 1 c ∧ cellAt M' uid 0 = some w ∧ rowEsz M' uid = some 1 ∧ VoO M.length M' w (voL x l N)
    | 9 => ∃ uid w, v = .pointer (some ⟨uid, 0, none⟩) ∧ cellAt M' uid 0 = some w ∧ VoO M.length M' w (voL x l N)
    | 10 => VoO M.length M' v (voL x l N)
    | 11 => VoO M.length M' v (voL x l N)
    | _ => True) ?_ (by kernel_rfl) (by decide +kernel) (by decide +kernel) ?_ ?_
  · intro k v M1 M2 h hk
    rcases k with _ | _ | _ | _ | _ | _ | _ | _ | _ | _ | _ | _ | k
    · exact h
    · exact h
    · exact h
    · exact h
    · exact h
    · exact h
    · obtain ⟨lo, hi, a, b⟩ := h
      exact ⟨lo, hi, a.keeps hk, Nat.le_trans b hk.len⟩
    · exact h
    · obtain ⟨uid, w, c, a, b, e, d⟩ := h
      exact ⟨uid, w, c, a, cellAt_keeps hk b, rowEsz_keeps hk e, d.keeps hk⟩
    · obtain ⟨uid, w, a, b, d⟩ := h
      exact ⟨uid, w, a, cellAt_keeps hk b, d.keeps hk⟩
    · exact VoO.keeps h hk
    · exact VoO.keeps h hk
    · trivial
  · intro X k o T M1 K hC hX hk hp' hf ho' hK
    have hk : Keeps M M1 := hk
    have lk : M.length ≤ M1.length := hk.len
    have t0 := hf 0 (by decide +kernel)
    have t1 := hf 1 (by decide +kernel)
    have t2 := hf 2 (by decide +kernel)
    simp at t0 t1 t2
    rcases k with _ | _ | _ | _ | _ | _ | _ | _ | _ | _ | _ | _ | k
    · simp at ho'; subst ho'
      simp [t0]
      exact hK _ _ (.inl (Keeps.refl _)) rfl
    · obtain ⟨v, d, q⟩ := hp' 0 7 (by decide +kernel) rfl
      rw [q (by simp)] at d
      simp at ho'; subst ho'
      simp [d]
      exact hK _ _ (.inl (Keeps.refl _)) rfl
    · obtain ⟨v, d, q⟩ := hp' 1 8 (by decide +kernel) rfl
      rw [q (by simp)] at d
      simp at ho'; subst ho'
      simp [d]
      exact hK _ _ (.inl (Keeps.refl _)) rfl
    · simp at ho'; subst ho'
      simp [t0]
      exact hK _ _ (.inl (Keeps.refl _)) rfl
    · simp at ho'; subst ho'
      simp [t1]
      exact hK _ _ (.inl (Keeps.refl _)) rfl
    · simp at ho'; subst ho'
      simp [t2]
      exact hK _ _ (.inl (Keeps.refl _)) rfl
    · obtain ⟨v9, d9, q9⟩ := hp' 3 10 (by decide +kernel) rfl
      obtain ⟨v10, d10, q10⟩ := hp' 4 11 (by decide +kernel) rfl
      obtain ⟨v11, d11, q11⟩ := hp' 5 12 (by decide +kernel) rfl
      rw [q9 (by simp)] at d9
      rw [q10 (by simp)] at d10
      rw [q11 (by simp)] at d11
      simp at ho'; subst ho'
      simp [d9, d10, d11]
      refine awCall_ctr (l22Controls_s (instP.keeps h hk) (Cl.keeps hc0 hk) hb (hg.keeps hk) hok hN lk) ?_
      rintro _ M2 ⟨oid, i0, i1, i2, v0, v1, v2, rfl, hCt, hS⟩
      refine hK _ _ (.inl (slt hS)) ⟨M1.length, M2.length, ?_, Nat.le_refl _⟩
      refine CtO.slv (.inr ⟨_, _, _, _, _, _, _, _, _, _, rfl, rfl, hCt⟩) fun q hq => ?_
      simp [ctlL] at hq
      rcases hq with rfl | rfl | rfl <;> (rw [mkC_len]; omega)
    · simp at ho'; subst ho'
      simp [t2]
      exact hK _ _ (.inl (Keeps.refl _)) rfl
    · obtain ⟨v8, d8, q8⟩ := hp' 2 9 (by decide +kernel) rfl
      obtain ⟨v12, d12, q12⟩ := hp' 6 13 (by decide +kernel) rfl
      obtain ⟨v13, d13, q13⟩ := hp' 7 14 (by decide +kernel) rfl
      rw [q8 (by simp)] at d8
      rw [q13 (by simp)] at d13
      obtain ⟨lo9, hi9, hct, hhi⟩ := q12 (by simp)
      simp at ho'; subst ho'
      simp [d8, d12, d13]
      refine awCall_ctr ((l08Render_s (N := N) (patchP.keeps hp hk) (Cl.keeps hcp hk) f1 f2 hct (by rw [f3]; rfl) f4 hN ⟨by omega, hhi, by omega⟩).weaken lk) ?_
      rintro _ M2 ⟨uid, w, cu, rfl, g1, g2, g3, g4⟩
      exact hK _ _ (.inl g4) ⟨uid, w, cu, rfl, g1, g2, Acc.low g3 lk⟩
    · obtain ⟨v, d, q⟩ := hp' 8 15 (by decide +kernel) rfl
      obtain ⟨uid, w, cu, rfl, g1, g2, g3⟩ := q (by simp)
      simp at ho'; subst ho'
      simp [d, g2]
      exact hK _ _ (.inl (Keeps.refl _)) ⟨uid, w, rfl, g1, g3⟩
    · obtain ⟨v, d, q⟩ := hp' 9 16 (by decide +kernel) rfl
      obtain ⟨uid, w, rfl, g1, g3⟩ := q (by simp)
      simp at ho'; subst ho'
      simp [d, g1]
      exact hK _ _ (.inl (Keeps.refl _)) g3
    · obtain ⟨v, d, q⟩ := hp' 10 17 (by decide +kernel) rfl
      have q := q (by simp)
      simp at ho'; subst ho'
      simp [d]
      exact hK _ _ (.inl (Keeps.refl _)) q
    · simp at ho'
  · intro T M1 hk hp' hf
    obtain ⟨v, d, q⟩ := hp' 11 6 (by simp) rfl
    have q := q (by simp)
    simp [d]
    exact ⟨q, hk⟩
end Go.Proofs.YtimijeeihicohaaGreat

namespace Go.Proofs.YtimijeeihicohaaGreat
open Go.RowKit
set_option linter.unusedVariables false
set_option linter.unusedSimpArgs false
set_option maxRecDepth 100000
attribute [local simp] List.getElem?_cons_zero
attribute [local irreducible] awCond awCall awLoop awDraw ow retQ retC resQ Keeps
end Go.Proofs.YtimijeeihicohaaGreat

namespace Go.Proofs.YtimijeeihicohaaGreat
open Go.RowKit
set_option linter.unusedVariables false
set_option linter.unusedSimpArgs false
set_option maxRecDepth 100000
attribute [local simp] List.getElem?_cons_zero
attribute [local irreducible] awCond awCall awLoop awDraw ow retQ retC resQ Keeps
theorem inst_one {lo hi : Nat} {M : Mem} {x : Inst} {vs : List Value} (h : instP.rd lo hi M x vs) : vs.all oneV = true := by
  obtain ⟨ps, es, w, rfl, hp, he, hw⟩ := h
  obtain ⟨A1, n1, c1, A2, n2, c2, A3, n3, c3, rfl⟩ := patch_isV hp
  obtain ⟨A4, n4, c4, rfl⟩ := env_isV he
  obtain ⟨A5, n5, c5, rfl⟩ := hw.isSl
  simp
theorem put_boxI {b : Nat} {M : Mem} {vs cs : List Value} {t : Bool} {e : TypeId} {z : Nat} (hb : b ≤ M.length) (hl : vs.length = cs.length) (h1 : vs.all oneV = true) :
    putCells b (M ++ [.live ⟨cs, true, t, e, z⟩]) M.length 0 vs = some (M ++ [.live ⟨vs, true, t, e, z⟩]) := by
  rw [put_whole getElem?_snoc_eq hb hl h1]
  simp
theorem cells_own {M : Mem} {vs : List Value} {t o : Bool} {e : TypeId} {z n : Nat} (h : vs.length = n) : cellsAt (M ++ [.live ⟨vs, o, t, e, z⟩]) M.length 0 n = some vs := by
  rw [cellsAt_new0, cellsAt_zero, if_pos (by show 0 + n ≤ vs.length; omega)]
  show some ((vs.drop 0).take n) = some vs
  rw [List.drop_zero, List.take_of_length_le (by omega)]
/-- A box in which an instrument is laid. -/
theorem inst_box {b lo hi : Nat} {M M' : Mem} {x : Inst} {vs cs : List Value} {t : Bool} {e : TypeId} {z : Nat} {K : Mem → Prop} (h : instP.rd lo hi M x vs) (hb : b ≤ M'.length) (hc : cs.length = 8) (hK : K (M' ++ [.live ⟨vs, true, t, e, z⟩])) :
    8 = (Value.agg vs.toArray).cells.size ∧ ow (putCells b (M' ++ [.live ⟨cs, true, t, e, z⟩]) M'.length 0 (Value.agg vs.toArray).cells.toList) K := by
  have hl := instP.len h
  have e1 : (Value.agg vs.toArray).cells.toList = vs := rfl
  refine ⟨by rw [← Array.length_toList, e1, hl], ?_⟩
  rw [e1, put_boxI hb (by omega) (inst_one h), ow_some]
  exact hK
end Go.Proofs.YtimijeeihicohaaGreat

namespace Go.Proofs.YtimijeeihicohaaGreat
open Go.RowKit
set_option linter.unusedVariables false
set_option linter.unusedSimpArgs false
set_option maxRecDepth 100000
attribute [local simp] List.getElem?_cons_zero
attribute [local irreducible] awCond awCall awLoop awDraw ow retQ retC resQ Keeps
theorem mkInst_le {x : Inst} (h : wtInst x ≤ 1048576) : mkInst x ≤ 3145728 := by
  have hwt : wtInst x = wtPatch x.pat + x.env.segs.length + x.steps.length := rfl
  have hwp : wtPatch x.pat = x.pat.tabs.length + sumW wtInt64S x.pat.tabs x.pat.tabs.length + (x.pat.nodes.length + sumW wtNode x.pat.nodes x.pat.nodes.length) + x.pat.outs.length := rfl
  unfold mkInst mkPatch
  omega
end Go.Proofs.YtimijeeihicohaaGreat

namespace Go.Proofs.YtimijeeihicohaaGreat
open Go.RowKit
set_option linter.unusedVariables false
set_option linter.unusedSimpArgs false
set_option maxRecDepth 100000
attribute [local simp] List.getElem?_cons_zero
attribute [local irreducible] awCond awCall awLoop awDraw ow retQ retC resQ Keeps
def totI (l : List Int) : Nat := l.length
theorem mark_VoO {M : Mem} {b B : Nat} {u : Value} {l : List Int} (h : VoO B M u l) (hb : b ≤ B) (hl : l.length ≤ 4000) :
    Ctr Tryz.prog b 23 [u, iv 1] M fun v M' => v = iv (1 + totI l) ∧ VoO B M' u (markIL 1 l.length) ∧ Turn B M.length M M' := mark_IntA h hb (by omega) (by omega) (by omega)
theorem held_VoO {M : Mem} {B : Nat} {u : Value} {l : List Int} (h : VoO B M u (markIL 1 l.length)) (hl : l.length ≤ 4000) : Det Tryz.prog M.length 24 [u, iv 1] M (iv (1 + totI l)) M := held_IntA (m := l.length) h (by omega) (by omega) (by omega)
end Go.Proofs.YtimijeeihicohaaGreat

namespace Go.Proofs.YtimijeeihicohaaGreat
open Go.RowKit
set_option linter.unusedVariables false
set_option linter.unusedSimpArgs false
set_option maxRecDepth 100000
attribute [local simp] List.getElem?_cons_zero
attribute [local irreducible] awCond awCall awLoop awDraw ow retQ retC resQ Keeps
def voiceL (l : List Gate) (v : Int) : List Gate := l.filter fun g => decide (g.o = v)
theorem l21Voice_a {M : Mem} {A : Option Addr} {n c : Nat} {l : List Gate} (v : Int) (h : Sl gateR M A n l) (hn : n ≤ 1048576) : Ctr Tryz.prog M.length 102 [.slice A n c, iv v] M fun r M' => Fresh gateR M r M' (voiceL l v) := by
  have hl := h.1
  first | (refine ctr_fn Tryz.func102 rfl Tryz.ntmps102 Tryz.results102 rfl rfl (by simp) ?_) | (refine ctr_fnC Tryz.func102 rfl Tryz.ntmps102 Tryz.results102 rfl (by simp) ?_)
  simp
  refine awLoop_T (fun m T M' => ∃ (k : Nat) (u : Value), k + m = n ∧ Keeps M M' ∧ Acc gateR 90 M.length M' u (voiceL (l.take k) v) ∧ look T 6 = some (iv k) ∧ look T 5 = some u ∧ look T 0 = some (.slice A n c) ∧ look T 1 = some (iv v)) n ⟨0, .slice (some ⟨M.length, 0, none⟩) 0 0, by omega, keeps_app _, ⟨some ⟨M.length, 0, none⟩, 0, 0, rfl, by simp [voiceL], .inr ⟨M.length, true, rfl, Nat.le_refl _, by simp [voiceL, cellsL]⟩⟩, by simp, by simp, by simp, by simp⟩ ?_
  rintro m T M' ⟨k, u, hm, hK, hA, h6, h5, h0, h1⟩
  have hKl := hK.len
  by_cases hlt : k < n
  · have h' := h.keeps hK
    obtain ⟨id, off, rfl, he, hc⟩ := h'.at_ hlt
    obtain ⟨c0, c1, c2, c3, c4⟩ := gate_cells hc
    simp (disch := omega) [h6, h5, h0, h1, hlt, wrap_in, c0]
    by_cases hv : (el l k).o = v
    · simp (disch := omega) [h6, h5, h0, h1, hlt, wrap_in, gate_load hc, hv]
      refine Acc.append (R := gateR) (e := 90) (by_ := 40) (a := el l k) (hA.keeps (keeps_app _)) (Nat.le_refl _) (by simp; omega) (by omega) (by simp) (by kernel_rfl) (by simp [srcOf, gateR, Gate.row, hv]) (by rfl) ?_ ?_ ?_
      · have : (voiceL (l.take k) v).length ≤ (l.take k).length := List.length_filter_le _ _
        rw [List.length_take] at this
        omega
      · have : (voiceL (l.take k) v).length ≤ (l.take k).length := List.length_filter_le _ _
        rw [List.length_take] at this
        unfold maxLen
        omega
      · intro v' M2 hA2 hS
        refine lpI (m - 1) (by omega) ?_
        exact ⟨k + 1, v', by omega, hS.keeps (hK.app _) (Nat.le_refl _), by rw [take_el (by omega)]; simpa [voiceL, hv] using hA2, by simp, by simp, by simp [h0], by simp [h1]⟩
    · simp (disch := omega) [h6, h5, h0, h1, wrap_in, hv]
      refine lpI (m - 1) (by omega) ?_
      exact ⟨k + 1, u, by omega, hK, by rw [take_el (by omega)]; simpa [voiceL, hv] using hA, by simp, by simp [h5], by simp [h0], by simp [h1]⟩
  · obtain rfl : k = n := by omega
    rw [List.take_of_length_le (by omega)] at hA
    have hf := hA.fresh (by have : (voiceL l v).length ≤ l.length := List.length_filter_le _ _; omega) hK
    simp [h6, h5, h0, h1]
    exact hf
theorem voiceGates_a {M : Mem} {A : Option Addr} {n c : Nat} {l : List Gate} (v : Int) (h : Sl gateR M A n l) (hn : n ≤ 1048576) : Ctr Tryz.prog M.length 104 [.slice A n c, iv v] M fun r M' => Fresh gateR M r M' (voiceL l v) := by
  have hl := h.1
  first | (refine ctr_fn Tryz.func104 rfl Tryz.ntmps104 Tryz.results104 rfl rfl (by simp) ?_) | (refine ctr_fnC Tryz.func104 rfl Tryz.ntmps104 Tryz.results104 rfl (by simp) ?_)
  simp
  refine awLoop_T (fun m T M' => ∃ (k : Nat) (u : Value), k + m = n ∧ Keeps M M' ∧ Acc gateR 90 M.length M' u (voiceL (l.take k) v) ∧ look T 11 = some (iv k) ∧ look T 10 = some (iv n) ∧ look T 9 = some (.slice A n c) ∧ look T 5 = some u ∧ look T 1 = some (iv v)) n ⟨0, .slice (some ⟨M.length, 0, none⟩) 0 0, by omega, keeps_app _, ⟨some ⟨M.length, 0, none⟩, 0, 0, rfl, by simp [voiceL], .inr ⟨M.length, true, rfl, Nat.le_refl _, by simp [voiceL, cellsL]⟩⟩, by simp, by simp, by simp, by simp, by simp⟩ ?_
  rintro m T M' ⟨k, u, hm, hK, hA, h11, h10, h9, h5, h1⟩
  have hKl := hK.len
  by_cases hlt : k < n
  · have h' := h.keeps hK
    obtain ⟨id, off, rfl, he, hc⟩ := h'.at_ hlt
    simp (disch := omega) [h11, h10, h9, h5, h1, hlt, wrap_in, gate_load hc]
    by_cases hv : (el l k).o = v
    · simp (disch := omega) [h11, h10, h9, h5, h1, wrap_in, hv]
      refine Acc.append (R := gateR) (e := 90) (by_ := 40) (a := el l k) (hA.keeps (keeps_app _)) (Nat.le_refl _) (by simp; omega) (by omega) (by simp) (by kernel_rfl) (by simp [srcOf, gateR, Gate.row, hv]) (by rfl) ?_ ?_ ?_
      · have : (voiceL (l.take k) v).length ≤ (l.take k).length := List.length_filter_le _ _
        rw [List.length_take] at this
        omega
      · have : (voiceL (l.take k) v).length ≤ (l.take k).length := List.length_filter_le _ _
        rw [List.length_take] at this
        unfold maxLen
        omega
      · intro v' M2 hA2 hS
        try simp (disch := omega) [h11, wrap_in]
        refine lpI (m - 1) (by omega) ?_
        exact ⟨k + 1, v', by omega, hS.keeps (hK.app _) (Nat.le_refl _), by rw [take_el (by omega)]; simpa [voiceL, hv] using hA2, by simp, by simp [h10], by simp [h9], by simp, by simp [h1]⟩
    · simp (disch := omega) [h11, h10, h9, h5, h1, wrap_in, hv]
      refine lpI (m - 1) (by omega) ?_
      exact ⟨k + 1, u, by omega, hK.app _, by rw [take_el (by omega)]; simpa [voiceL, hv] using hA.keeps (keeps_app _), by simp, by simp [h10], by simp [h9], by simp [h5], by simp [h1]⟩
  · obtain rfl : k = n := by omega
    rw [List.take_of_length_le (by omega)] at hA
    have hf := hA.fresh (by have : (voiceL l v).length ≤ l.length := List.length_filter_le _ _; omega) hK
    simp [h11, h10, h9, h5]
    exact hf
end Go.Proofs.YtimijeeihicohaaGreat

namespace Go.Proofs.YtimijeeihicohaaGreat
open Go.RowKit
set_option linter.unusedVariables false
set_option linter.unusedSimpArgs false
set_option maxRecDepth 100000
attribute [local simp] List.getElem?_cons_zero
attribute [local irreducible] awCond awCall awLoop awDraw ow retQ retC resQ Keeps
def addL (a b : List Int) : List Int := (List.range (max a.length b.length)).map fun i : Nat => smp (atL a i + atL b i)
theorem addL_len {a b : List Int} : (addL a b).length = max a.length b.length := by simp [addL]
theorem addL_el {a b : List Int} {i : Nat} (h : i < max a.length b.length) : el (addL a b) i = smp (atL a i + atL b i) := by
  unfold addL el
  simp only [List.getD_eq_getElem?_getD, List.getElem?_map]
  rw [List.getElem?_range h]
  rfl
def gatesL (x : Inst) (l : List Gate) (N : Nat) : Nat → List Int
  | 0 => List.replicate N 0
  | v + 1 => if voiceL l v = [] then gatesL x l N v else addL (gatesL x l N v) (voL x (voiceL l v) N)
theorem gatesL_len {x : Inst} {l : List Gate} {N : Nat} : ∀ v, (gatesL x l N v).length = N
  | 0 => by simp [gatesL]
  | v + 1 => by
    rw [gatesL]
    split
    · exact gatesL_len v
    · rw [addL_len, gatesL_len v, voL_len, Nat.max_self]
theorem okG_filter {l : List Gate} (q : Gate → Bool) (h : okG l = true) : okG (l.filter q) = true := by
  have hs := okG_sorted h
  have h' := h
  unfold okG at h' ⊢
  simp only [Bool.and_eq_true, decide_eq_true_eq] at h' ⊢
  obtain ⟨h1, h2⟩ := h'
  have hp : l.Pairwise fun a b => a.s ≤ b.s := by
    rw [List.pairwise_iff_getElem]
    intro i j hi hj hij
    rw [el_eq hi, el_eq hj]
    exact hs i j (by omega) hj
  have hf := hp.sublist (List.filter_sublist (p := q))
  rw [List.pairwise_iff_getElem] at hf
  refine ⟨fun i hi => ⟨?_, fun h0 => ?_⟩, Nat.le_trans (List.length_filter_le _ _) h2⟩
  · have hm : el (l.filter q) i ∈ l := (List.mem_filter.1 (el_mem hi)).1
    obtain ⟨j, hj, e⟩ := List.getElem_of_mem hm
    rw [← e, el_eq hj]
    exact (h1 j hj).1
  · have := hf (i - 1) i (by omega) hi (by omega)
    rw [el_eq, el_eq] at this
    exact this
theorem NewRow.acc {M M' : Mem} {v : Value} {l : List Int} (h : NewRow M v M' l.length (rowI l)) : Acc intR 2 M.length M' v l := by
  obtain ⟨q, m, t, rfl, h1, h2, -⟩ := h
  exact ⟨_, _, _, rfl, rfl, .inr ⟨q, t, rfl, h1, h2⟩⟩
theorem addTimes_x {M : Mem} {lo hi lo' hi' : Nat} {u v : Value} {a b : List Int} (ha : SlV intP lo hi M u a) (hb : SlV intP lo' hi' M v b) (hla : a.length ≤ 4000) (hlb : b.length ≤ 4000) :
    Det Tryz.prog M.length 105 [u, iv 1, v] M (.slice (some ⟨M.length, 0, none⟩) (addL a b).length (addL a b).length) (M ++ [.live (rowI (addL a b))]) := by
  refine Ctr.compact (rowI_plain _) ?_
  obtain ⟨A, n, c, rfl, hn, hn2, -, -⟩ := sl_take ha
  obtain ⟨B, m, d, rfl, hm, hm2, -, -⟩ := sl_take hb
  have hL : (addL a b).length = max n m := by rw [addL_len, hn, hm]
  first | (refine ctr_fn Tryz.func105 rfl Tryz.ntmps105 Tryz.results105 rfl rfl (by simp) ?_) | (refine ctr_fnC Tryz.func105 rfl Tryz.ntmps105 Tryz.results105 rfl (by simp) ?_)
  simp
  refine awCall_det' (size_ia (by omega)) (by omega) ?_
  try simp
  refine awCall_det' (size_ia (by omega)) (by omega) ?_
  have hmax : (if (n : Int) < m then (m : Int) else n) = ((max n m : Nat) : Int) := by
    split <;> omega
  simp only [maxV_int, gt_iff_lt, hmax, ow_some, op_max]
  try simp [hmax]
  obtain ⟨L, hLm⟩ : ∃ L, L = max n m := ⟨_, rfl⟩
  rw [← hLm] at hL
  have hmax' : max (n : Int) (m : Int) = (L : Int) := by omega
  try rw [hmax']
  rw [← hLm]
  refine awCall_det' (zeros_i L (by omega)) (by omega) ?_
  simp
  refine awLoop_T (fun q T M' => ∃ (k : Nat) (r : List Int), k + q = L ∧ Keeps M M' ∧ M'[M.length]? = some (.live ⟨cellsL intR r, true, true, 2, 1⟩) ∧ r.length = L ∧ (∀ j, j < k → el r j = el (addL a b) j) ∧ look T 17 = some (iv k) ∧ look T 16 = some (iv L) ∧ look T 7 = some (.slice (some ⟨M.length, 0, none⟩) L L) ∧ look T 0 = some (.slice A n c) ∧ look T 1 = some (iv 1) ∧ look T 2 = some (.slice B m d)) L
    ⟨0, List.replicate L 0, by omega, keeps_app _, by simp, by simp, fun j hj => by omega, by simp, by simp, by simp, by simp, by simp, by simp⟩ ?_
  rintro q T M1 ⟨k, r, hq, k1, rr, hrl, hr, t17, t16, t7, t0, t1, t2⟩
  have hl1 := k1.len
  by_cases hlt : k < L
  · have er : rowEsz M1 M.length = some 1 := by simp [rowEsz, rr]
    simp (disch := omega) [t17, t16, t7, t0, t1, t2, hlt, wrap_in]
    refine awCall_det' (at_i k (by omega) (ha.keeps k1)) (by omega) ?_
    try simp (disch := omega) [t17, t16, t7, t0, t1, t2, hlt, wrap_in]
    refine awCall_det' (at_i k (by omega) (hb.keeps k1)) (by omega) ?_
    try simp
    refine awCall_det' (Wrap_s _) (by omega) ?_
    have hy : smp (IntKind.i64.wrap (atL a k + IntKind.i64.wrap (atL b k))) = el (addL a b) k := by
      rw [addL_el (by omega), smp_wrap]
      refine smp_mod ?_
      rw [IntKind.wrap_i64]
      omega
    try rw [hy]
    have hp := put_rec (R := intR) (b := M.length) (a := el (addL a b) k) (off := k) (i := k) rr (by omega) (by omega) (by omega) rfl
    have hp' : putCells M.length M1 M.length k [Value.int IntKind.i64 (el (addL a b) k)] = _ := hp
    have lt1 := (List.getElem?_eq_some_iff.1 rr).1
    simp (disch := omega) [t17, t16, t7, t0, t1, t2, hlt, er, wrap_in, hp', hy]
    refine lpI (q - 1) (by omega) ⟨k + 1, r.set k (el (addL a b) k), by omega, keeps_set k1 (Nat.le_refl _), List.getElem?_set_self lt1, by simp [hrl], fun j hj => ?_, by simp, by simp [t16], by simp [t7], by simp [t0], by simp [t1], by simp [t2]⟩
    by_cases e : k = j
    · subst e
      rw [el_set_same _ (by omega)]
    · rw [el_set_other _ e]
      exact hr j (by omega)
  · obtain rfl : k = L := by omega
    have hre : r = addL a b := by
      apply List.ext_getElem
      · omega
      · intro j a' b'
        rw [el_eq, el_eq]
        exact hr j (by omega)
    subst hre
    simp (disch := omega) [t17, t16, t7, t0, t1, t2]
    exact ⟨newRow_in rfl (Nat.le_refl _) rr |> fun h => by rw [hL] at h ⊢; exact h, k1⟩
theorem l03Add_x {M : Mem} {lo hi lo' hi' : Nat} {u v : Value} {a b : List Int} (ha : SlV intP lo hi M u a) (hb : SlV intP lo' hi' M v b) (hla : a.length ≤ 4000) (hlb : b.length ≤ 4000) :
    Det Tryz.prog M.length 103 [u, v, iv 1] M (.slice (some ⟨M.length, 0, none⟩) (addL a b).length (addL a b).length) (M ++ [.live (rowI (addL a b))]) := by
  refine Ctr.compact (rowI_plain _) ?_
  obtain ⟨A, n, c, rfl, hn, hn2, -, -⟩ := sl_take ha
  obtain ⟨B, m, d, rfl, hm, hm2, -, -⟩ := sl_take hb
  have hL : (addL a b).length = max n m := by rw [addL_len, hn, hm]
  obtain ⟨L, hLm⟩ : ∃ L, L = max n m := ⟨_, rfl⟩
  rw [← hLm] at hL
  have hmax : max (n : Int) (m : Int) = (L : Int) := by omega
  first | (refine ctr_fn Tryz.func103 rfl Tryz.ntmps103 Tryz.results103 rfl rfl (by simp) ?_) | (refine ctr_fnC Tryz.func103 rfl Tryz.ntmps103 Tryz.results103 rfl (by simp) ?_)
  simp
  refine awCall_det' (l00Max_v _ _) (by simp) ?_
  rw [hmax]
  try simp
  refine awLoop_T (fun q T M' => ∃ (k : Nat) (r : Value), k + q = L ∧ Same M.length M M' ∧ M.length < M'.length ∧ Acc intR 2 M.length M' r ((addL a b).take k) ∧ (∃ a n c, r = .slice (some a) n c) ∧ look T 9 = some (iv k) ∧ look T 8 = some (iv L) ∧ look T 7 = some r ∧ look T 0 = some (.slice A n c) ∧ look T 1 = some (.slice B m d) ∧ look T 2 = some (iv 1)) L
    ⟨0, _, by omega, .appS _ _, by simp, ⟨_, 0, 0, rfl, rfl, .inr ⟨M.length, true, rfl, Nat.le_refl _, by simp [cellsL]⟩⟩, ⟨_, _, _, rfl⟩, by simp, by simp, by simp, by simp, by simp, by simp⟩ ?_
  rintro q T M1 ⟨k, r, hq, i1, i2, i3, ⟨ra, rn, rc, rfl⟩, t9, t8, t7, t0, t1, t2⟩
  have k1 := slt i1
  by_cases hlt : k < L
  · simp (disch := omega) [t9, t8, t7, t0, t1, t2, hlt, wrap_in]
    refine awCall_det' (l03At_s k (ha.keeps k1)) (by omega) ?_
    try simp (disch := omega) [t9, t8, t7, t0, t1, t2, hlt, wrap_in]
    refine awCall_det' (l03At_s k (hb.keeps k1)) (by omega) ?_
    try simp (disch := omega) [t9, t8, t7, t0, t1, t2, hlt, wrap_in]
    refine awCall_det' (l01Mul_s _ _) (by omega) ?_
    try simp
    refine awCall_det' (l01Add_s _ _) (by omega) ?_
    have hy : smp (smp (atL a k) + smp (smp (smp (atL b k) * smp 1))) = el (addL a b) k := by
      rw [addL_el (by omega), smp_mul2, Int.mul_one, smp_add2, smp_addr]
    rw [hy]
    simp [fill1I]
    obtain ⟨v', M', a1, a2, a3⟩ := append_det (P := Tryz.prog) (t := 24) (tx := 24) (e := 2) (by_ := 8) (b := M.length) (S := ⟨0, [], M1 ++ [Slot.live ⟨[iv (el (addL a b) k)], true, true, 2, 1⟩]⟩) (x := .slice (some ⟨M1.length, 0, none⟩) 1 1) (a := el (addL a b) k) (i3.keeps (keeps_app _)) (Nat.le_refl _) (by simp; omega) (by simp) (by kernel_rfl) (by simp [srcOf]; rfl) (by simp; omega) (by simp; unfold maxLen; omega)
    refine appendK_M (S := ⟨0, [], M1 ++ [Slot.live ⟨[iv (el (addL a b) k)], true, true, 2, 1⟩]⟩) (by rfl) (append_ctr (append_nn (a3 (fun v M => v = v' ∧ M = M') ⟨rfl, rfl⟩)) ?_)
    rintro v M2 ⟨⟨rfl, rfl⟩, hnn⟩
    have hs := Same.trans' (Same.trans' i1 (Same.appB _ _)) a2
    have hml : M.length < M2.length := by have := a2.1; simp at this; omega
    try simp (disch := omega) [t9, t8, t7, t0, t1, t2, wrap_in]
    refine lpI (q - 1) (by omega) ⟨k + 1, _, by omega, hs, hml, ?_, hnn, by simp, by simp [t8], by simp, by simp [t0], by simp [t1], by simp [t2]⟩
    rw [take_el (by omega)]
    exact a1
  · obtain rfl : k = L := by omega
    rw [List.take_of_length_le (by omega)] at i3
    simp (disch := omega) [t9, t8, t7, t0, t1, t2]
    have := i3.newRow ⟨_, _, _, rfl⟩
    exact ⟨this, k1⟩
theorem gates_i {M : Mem} {lo hi : Nat} {us : List Value} {x : Inst} {A : Option Addr} {n c N : Nat} {l : List Gate} (h : instP.rd lo hi M x us) (hb : instB x = true) (hg : Sl gateR M A n l) (hok : okG l = true) (hN : N ≤ 4000) (hM : hi ≤ M.length) :
    Ctr Tryz.prog M.length 56 [.agg us.toArray, .slice A n c, iv N] M fun r M' => VoO M.length M' r (gatesL x l N 4) ∧ Keeps M M' := by
  have hl := instP.len h
  have ht : us.take 8 = us := List.take_of_length_le (by omega)
  have hgl := hg.1
  have h60 := okG_len hok
  first | (refine ctr_fn Tryz.func56 rfl Tryz.ntmps56 Tryz.results56 rfl rfl (by simp) ?_) | (refine ctr_fnC Tryz.func56 rfl Tryz.ntmps56 Tryz.results56 rfl (by simp) ?_)
  simp [hl, ht]
  refine awCall_det' (zeros_i N hN) (by simp) ?_
  simp
  refine awLoop_T (fun q T M1 => ∃ (v : Nat) (r : Value), v + q = 4 ∧ Keeps M M1 ∧ M.length + 1 ≤ M1.length ∧ cellsAt M1 M.length 0 8 = some us ∧ VoO M.length M1 r (gatesL x l N v) ∧ look T 8 = some (iv v) ∧ look T 7 = some r ∧ look T 3 = some (.pointer (some ⟨M.length, 0, none⟩)) ∧ look T 1 = some (.slice A n c) ∧ look T 2 = some (iv N)) 4
    ⟨0, _, by omega, keeps_app _, by simp, by simp [hl, ht], ⟨_, N, N, rfl, by simp [gatesL], .inr ⟨M.length + 1, true, rfl, by omega, by simp [gatesL]⟩⟩, by simp, by simp, by simp, by simp, by simp⟩ ?_
  rintro q T M1 ⟨v, r, hq, k1, l1, bx, hA, t8, t7, t3, t1, t2⟩
  by_cases hlt : v < 4
  · have hlt' : (v : Int) < 4 := by omega
    simp (disch := omega) [t8, t7, t3, t1, t2, hlt', wrap_in]
    refine awCall_ctr ((voiceGates_a v (hg.keeps k1) (by omega)).weaken (b' := M.length) (by omega)) ?_
    rintro _ M2 ⟨A2, n2, c2, rfl, hn2, hS2, -, -, k2⟩
    have hl2 := hS2.1
    have kk := k1.trans k2
    have lk2 := k2.len
    have bx2 := cellsAt_keeps k2 bx
    by_cases h0 : n2 = 0
    · subst h0
      have e0 : voiceL l v = [] := List.eq_nil_of_length_eq_zero hl2
      try simp (disch := omega) [t8, t7, t3, t1, t2, wrap_in]
      refine lpI (q - 1) (by omega) ⟨v + 1, r, by omega, kk, by omega, bx2, by rw [gatesL, if_pos e0]; exact hA.keeps k2, by simp, by simp [t7], by simp [t3], by simp [t1], by simp [t2]⟩
    · have e0 : ¬ voiceL l v = [] := fun e => by rw [e] at hl2; simp at hl2; omega
      have hpos : 0 < n2 := by omega
      simp (disch := omega) [t8, t7, t3, t1, t2, hpos, bx2, wrap_in]
      refine awCall_det' (voice_x (N := N) (instP.keeps h kk) hb hS2 (okG_filter _ hok) hN (by have := kk.len; omega)) (by omega) ?_
      try simp
      have hAs := (hA.keeps k2).slv (by rw [gatesL_len]; omega)
      refine awCall_det' (addTimes_x (hAs.app _) (rowI_slv (by rw [voL_len]; omega)) (by rw [gatesL_len]; omega) (by rw [voL_len]; omega)) (by simp <;> omega) ?_
      try simp (disch := omega) [t8, t7, t3, t1, t2, wrap_in]
      have k3 : Keeps M2 (M2 ++ [Slot.live (rowI (voL x (voiceL l v) N)), Slot.live (rowI (addL (gatesL x l N v) (voL x (voiceL l v) N)))]) := keeps_app _
      refine lpI (q - 1) (by omega) ⟨v + 1, .slice (some ⟨M2.length + 1, 0, none⟩) (addL (gatesL x l N v) (voL x (voiceL l v) N)).length (addL (gatesL x l N v) (voL x (voiceL l v) N)).length, by omega, kk.trans k3, by simp; omega, cellsAt_keeps k3 bx2, ?_, by simp, by simp, by simp [t3], by simp [t1], by simp [t2]⟩
      rw [gatesL, if_neg e0]
      exact ⟨_, _, _, rfl, rfl, .inr ⟨M2.length + 1, false, rfl, by omega, by simp [rowI]⟩⟩
  · obtain rfl : v = 4 := by omega
    simp (disch := omega) [t8, t7, t3, t1, t2]
    exact ⟨hA, k1⟩
theorem l22Gates_s {M : Mem} {lo hi id0 off0 : Nat} {us : List Value} {x : Inst} {A : Option Addr} {n c N : Nat} {l : List Gate} (h : instP.rd lo hi M x us) (hc0 : Cl M id0 off0 us) (hb : instB x = true) (hg : Sl gateR M A n l) (hok : okG l = true) (hN : N ≤ 4000) (hM : hi ≤ M.length ∧ id0 < M.length) :
    Ctr Tryz.prog M.length 55 [.pointer (some ⟨id0, off0, none⟩), .slice A n c, iv N] M fun r M' => VoO M.length M' r (gatesL x l N 4) ∧ Keeps M M' := by
  have hgl := hg.1
  have h60 := okG_len hok
  first | (refine ctr_fn Tryz.func55 rfl Tryz.ntmps55 Tryz.results55 rfl rfl (by simp) ?_) | (refine ctr_fnC Tryz.func55 rfl Tryz.ntmps55 Tryz.results55 rfl (by simp) ?_)
  simp
  refine awCall_det' (l03Zeros_x N hN) (by omega) ?_
  try simp
  refine awLoop_T (fun q T M1 => ∃ (v : Nat) (r : Value), v + q = 4 ∧ Keeps M M1 ∧ VoO M.length M1 r (gatesL x l N v) ∧ look T 8 = some (iv v) ∧ look T 7 = some r ∧ look T 0 = some (.pointer (some ⟨id0, off0, none⟩)) ∧ look T 1 = some (.slice A n c) ∧ look T 2 = some (iv N)) 4
    ⟨0, _, by omega, keeps_app _, ⟨_, N, N, rfl, by simp [gatesL], .inr ⟨M.length, false, rfl, by omega, by simp [gatesL, rowI]⟩⟩, by simp, by simp, by simp, by simp, by simp⟩ ?_
  rintro q T M1 ⟨v, r, hq, k1, hA, t8, t7, t0, t1, t2⟩
  have l1 := k1.len
  by_cases hlt : v < 4
  · have hlt' : (v : Int) < 4 := by omega
    simp (disch := omega) [t8, t7, t0, t1, t2, hlt', wrap_in]
    refine awCall_ctr ((l21Voice_a v (hg.keeps k1) (by omega)).weaken (b' := M.length) (by omega)) ?_
    rintro _ M2 ⟨A2, n2, c2, rfl, hn2, hS2, -, -, k2⟩
    have hl2 := hS2.1
    have kk := k1.trans k2
    have lk2 := k2.len
    by_cases h0 : n2 = 0
    · subst h0
      have e0 : voiceL l v = [] := List.eq_nil_of_length_eq_zero hl2
      try simp (disch := omega) [t8, t7, t0, t1, t2, wrap_in]
      refine lpI (q - 1) (by omega) ⟨v + 1, r, by omega, kk, by rw [gatesL, if_pos e0]; exact hA.keeps k2, by simp, by simp [t7], by simp [t0], by simp [t1], by simp [t2]⟩
    · have e0 : ¬ voiceL l v = [] := fun e => by rw [e] at hl2; simp at hl2; omega
      have hpos : 0 < n2 := by omega
      simp (disch := omega) [t8, t7, t0, t1, t2, hpos, wrap_in]
      refine awCall_ctr ((l22Voice_s (N := N) (instP.keeps h kk) (Cl.keeps hc0 kk) hb hS2 (okG_filter _ hok) hN ⟨by omega, by omega⟩).weaken (by omega)) ?_
      rintro w M3 ⟨hw, k3⟩
      have lk3 := k3.len
      try simp
      have hAs := (hA.keeps (k2.trans k3)).slv (by rw [gatesL_len]; omega)
      have hws := hw.slv (by rw [voL_len]; omega)
      refine awCall_det' (l03Add_x hAs hws (by rw [gatesL_len]; omega) (by rw [voL_len]; omega)) (by omega) ?_
      try simp (disch := omega) [t8, t7, t0, t1, t2, wrap_in]
      refine lpI (q - 1) (by omega) ⟨v + 1, .slice (some ⟨M3.length, 0, none⟩) (addL (gatesL x l N v) (voL x (voiceL l v) N)).length (addL (gatesL x l N v) (voL x (voiceL l v) N)).length, by omega, (kk.trans k3).app _, ?_, by simp, by simp, by simp [t0], by simp [t1], by simp [t2]⟩
      rw [gatesL, if_neg e0]
      exact ⟨_, _, _, rfl, rfl, .inr ⟨M3.length, false, rfl, by omega, by simp [rowI]⟩⟩
  · obtain rfl : v = 4 := by omega
    simp (disch := omega) [t8, t7, t0, t1, t2]
    exact ⟨hA, k1⟩
end Go.Proofs.YtimijeeihicohaaGreat

namespace Go.Proofs.YtimijeeihicohaaGreat
open Go.RowKit
set_option linter.unusedVariables false
set_option linter.unusedSimpArgs false
set_option maxRecDepth 100000
attribute [local simp] List.getElem?_cons_zero
attribute [local irreducible] awCond awCall awLoop awDraw ow retQ retC resQ Keeps
structure Frac where
  (n d : Int)
deriving Inhabited, DecidableEq
def Frac.row (c : Frac) : List Value := [iv c.n, iv c.d]
def fracR : RecV Frac 2 := ⟨Frac.row, fun _ => rfl⟩
abbrev Frac.v (c : Frac) : Value := .agg #[iv c.n, iv c.d]
theorem frac_load {M : Mem} {id off : Nat} {g : Frac} (h : Cl M id off g.row) : cellsAt M id off 2 = some [iv g.n, iv g.d] := cellsAt_of h rfl (by omega)
theorem frac_eq {a b : Frac} : a = b ↔ a.n = b.n ∧ a.d = b.d := by
  cases a; cases b; simp
/-- Equality of records, as the language has it. -/
theorem frac_same (a b : Frac) : aggEq Tryz.prog 152 #[iv a.n, iv a.d] #[iv b.n, iv b.d] = some (decide (a = b)) := by
  refine aggEq_of (by kernel_rfl) rfl rfl fun w => ?_
  unfold Op.equal
  rw [show Op.maxDepth = 9999 + 1 from rfl]
  rw [run_equalIn_agg _ _ _ _ _ Tryz.underlying152 (by kernel_rfl)]
  simp [go_sem]
  repeat' split
  all_goals simp_all [frac_eq]
theorem frac_neq (a b : Frac) : binV Tryz.prog .neq 152 (.agg #[iv a.n, iv a.d]) (.agg #[iv b.n, iv b.d]) = some (.bool (!decide (a = b))) := by
  simp only [binV, eqV, Tryz.underlying152, frac_same, Option.map_some]
@[simp] theorem frac_fill (x0 x1 : Int) : Instr.fill (fun i => some (i * 2, 2)) (zrow [iv 0, iv 0] 1).toArray [(0, .agg #[iv x0, iv x1])] = some #[iv x0, iv x1] := fill_agg (by omega) rfl rfl
theorem toFrac_a {M : Mem} (g : Frac) : Det Tryz.prog M.length 170 [g.v] M g.v M := by
  first | (refine det_fn Tryz.func170 rfl Tryz.ntmps170 Tryz.results170 rfl rfl rfl (by simp) ?_) | (refine det_fnC Tryz.func170 rfl Tryz.ntmps170 Tryz.results170 rfl rfl (by simp) ?_)
  simp [keeps_app]
theorem eqFrac_a {M : Mem} (a b : Frac) : Det Tryz.prog M.length 185 [a.v, b.v] M (.bool (decide (a = b))) M := by
  first | (refine det_fn Tryz.func185 rfl Tryz.ntmps185 Tryz.results185 rfl rfl rfl (by simp) ?_) | (refine det_fnC Tryz.func185 rfl Tryz.ntmps185 Tryz.results185 rfl rfl (by simp) ?_)
  simp
  repeat' (first | (refine awCond_split ?_ ?_ <;> intro _) | (simp [keeps_app]))
  all_goals (simp_all [frac_eq])
end Go.Proofs.YtimijeeihicohaaGreat

namespace Go.Proofs.YtimijeeihicohaaGreat
open Go.RowKit
set_option linter.unusedVariables false
set_option linter.unusedSimpArgs false
set_option maxRecDepth 100000
attribute [local simp] List.getElem?_cons_zero
attribute [local irreducible] awCond awCall awLoop awDraw ow retQ retC resQ Keeps
abbrev uv (n : Int) : Value := .int .u64 n
theorem u64_in {x : Int} (h1 : 0 ≤ x) (h2 : x < 18446744073709551616) : IntKind.u64.wrap x = x := by
  have e : (2 : Int) ^ IntKind.u64.bits = 18446744073709551616 := by decide
  have e2 : IntKind.u64.signed = false := rfl
  simp only [IntKind.wrap, e, e2]
  simp
  omega
theorem u64_neg {x : Int} (h1 : -9223372036854775808 ≤ x) (h2 : x < 0) : IntKind.u64.wrap x = x + 18446744073709551616 := by
  have e : (2 : Int) ^ IntKind.u64.bits = 18446744073709551616 := by decide
  have e2 : IntKind.u64.signed = false := rfl
  simp only [IntKind.wrap, e, e2]
  simp
  omega
theorem u64_mag {x : Int} (h1 : -9223372036854775808 ≤ x) (h2 : x < 0) : IntKind.u64.wrap (0 - IntKind.u64.wrap x) = -x := by
  have e : (2 : Int) ^ IntKind.u64.bits = 18446744073709551616 := by decide
  have e2 : IntKind.u64.signed = false := rfl
  rw [u64_neg h1 h2]
  simp only [IntKind.wrap, e, e2]
  simp
  omega
/-- The greatest common divisor, as a number of 64 bits. -/
theorem tmod_nat (x y : Nat) : ((x : Int)).tmod y = ((x % y : Nat) : Int) := by
  rw [Int.tmod_eq_emod_of_nonneg (by omega)]
  rfl
theorem tdiv_nat (x y : Nat) : ((x : Int)).tdiv y = ((x / y : Nat) : Int) := by
  rw [Int.tdiv_eq_ediv_of_nonneg (by omega)]
  rfl
def fracB (f : Frac) : Bool := inB f.d 1 1000000 && inB f.n (-1000000000) 1000000000 && decide (f.n.natAbs.gcd f.d.natAbs = 1)
theorem fracB_iff {f : Frac} : fracB f = true ↔ (1 ≤ f.d ∧ f.d ≤ 1000000) ∧ (-1000000000 ≤ f.n ∧ f.n ≤ 1000000000) ∧ f.n.natAbs.gcd f.d.natAbs = 1 := by
  simp only [fracB, Bool.and_eq_true, decide_eq_true_eq, inB_iff, and_assoc]
def mkF (n d : Int) : Frac × Int :=
  if d = 0 then (⟨0, 0⟩, 1) else
  if 1000000000 < n.natAbs / n.natAbs.gcd d.natAbs ∨ 1000000 < d.natAbs / n.natAbs.gcd d.natAbs then (⟨0, 0⟩, 2) else
  (⟨if (decide (n < 0) != decide (d < 0)) = true then -((n.natAbs / n.natAbs.gcd d.natAbs : Nat) : Int) else ((n.natAbs / n.natAbs.gcd d.natAbs : Nat) : Int), ((d.natAbs / n.natAbs.gcd d.natAbs : Nat) : Int)⟩, 0)
def cmpF (a b : Frac) : Int := if a.n * b.d - b.n * a.d < 0 then -1 else if a.n * b.d - b.n * a.d > 0 then 1 else 0
def addF (a b : Frac) : Frac × Int := if fracB a = true ∧ fracB b = true then mkF (a.n * b.d + b.n * a.d) (a.d * b.d) else (⟨0, 0⟩, 1)
def subF (a b : Frac) : Frac × Int := if fracB a = true ∧ fracB b = true then mkF (a.n * b.d - b.n * a.d) (a.d * b.d) else (⟨0, 0⟩, 1)
def mulF (a b : Frac) : Frac × Int := if fracB a = true ∧ fracB b = true then mkF (a.n * b.n) (a.d * b.d) else (⟨0, 0⟩, 1)
theorem mul_bd2 {a b A B : Int} (h1 : -A ≤ a) (h2 : a ≤ A) (h3 : -B ≤ b) (h4 : b ≤ B) : -(A * B) ≤ a * b ∧ a * b ≤ A * B := by
  have h : (a * b).natAbs ≤ A.natAbs * B.natAbs := by
    rw [Int.natAbs_mul]
    exact Nat.mul_le_mul (by omega) (by omega)
  have e : ((A.natAbs * B.natAbs : Nat) : Int) = A * B := by
    rw [Int.natCast_mul, Int.natAbs_of_nonneg (by omega), Int.natAbs_of_nonneg (by omega)]
  omega
theorem frac_bd {a b : Frac} (ha : fracB a = true) (hb : fracB b = true) : (-1000000000000000 ≤ a.n * b.d ∧ a.n * b.d ≤ 1000000000000000) ∧ (-1000000000000000 ≤ b.n * a.d ∧ b.n * a.d ≤ 1000000000000000) ∧ (1 ≤ a.d * b.d ∧ a.d * b.d ≤ 1000000000000) ∧ (-1000000000000000000 ≤ a.n * b.n ∧ a.n * b.n ≤ 1000000000000000000) := by
  obtain ⟨a1, a2, -⟩ := fracB_iff.1 ha
  obtain ⟨b1, b2, -⟩ := fracB_iff.1 hb
  have h1 := mul_bd2 (a := a.n) (b := b.d) (A := 1000000000) (B := 1000000) (by omega) (by omega) (by omega) (by omega)
  have h2 := mul_bd2 (a := b.n) (b := a.d) (A := 1000000000) (B := 1000000) (by omega) (by omega) (by omega) (by omega)
  have h3 := mul_bd2 (a := a.d) (b := b.d) (A := 1000000) (B := 1000000) (by omega) (by omega) (by omega) (by omega)
  have h4 := mul_bd2 (a := a.n) (b := b.n) (A := 1000000000) (B := 1000000000) (by omega) (by omega) (by omega) (by omega)
  have h5 : 0 < a.d * b.d := Int.mul_pos (by omega) (by omega)
  omega
/-- What is made is a fraction. -/
theorem mkF_ok {n d : Int} (h : (mkF n d).2 = 0) : fracB (mkF n d).1 = true := by
  unfold mkF at h ⊢
  split at h
  · cases h
  · rename_i hd
    rw [if_neg hd]
    split at h
    · cases h
    · rename_i hr
      rw [if_neg hr]
      have hg : 0 < n.natAbs.gcd d.natAbs := Nat.gcd_pos_of_pos_right _ (by omega)
      have hq : 0 < d.natAbs / n.natAbs.gcd d.natAbs := Nat.div_pos (Nat.le_of_dvd (by omega) (Nat.gcd_dvd_right _ _)) hg
      have hc := Nat.gcd_div_gcd_div_gcd_of_pos_right (n := n.natAbs) (m := d.natAbs) (by omega)
      generalize n.natAbs / n.natAbs.gcd d.natAbs = a at *
      generalize d.natAbs / n.natAbs.gcd d.natAbs = b at *
      refine fracB_iff.2 ⟨by simp only; omega, ?_, ?_⟩
      · simp only
        split <;> omega
      · simp only
        split
        · rw [Int.natAbs_neg, Int.natAbs_natCast, Int.natAbs_natCast]; exact hc
        · rw [Int.natAbs_natCast, Int.natAbs_natCast]; exact hc
theorem mkF_self {f : Frac} (h : fracB f = true) : mkF f.n f.d = (f, 0) := by
  obtain ⟨h1, h2, h3⟩ := fracB_iff.1 h
  unfold mkF
  rw [if_neg (by omega), h3, Nat.div_one, Nat.div_one, if_neg (by omega)]
  obtain ⟨n, d⟩ := f
  simp only at *
  have hd : ¬ d < 0 := by omega
  by_cases hn : n < 0
  · simp [hn, hd]
    omega
  · simp [hn, hd]
    omega
end Go.Proofs.YtimijeeihicohaaGreat
