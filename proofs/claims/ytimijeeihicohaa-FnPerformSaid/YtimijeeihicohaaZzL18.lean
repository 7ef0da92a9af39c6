/- Parts of the proof, together: Frames one behind the other, as the program plays them. The reference's controls of a voice. The reference's ControlsOf. The laws' copies of nested values lie in rows of their own. Marks on lists of numbers, and on lists of them. Marks on nested values: only numbers turn. Lists of lists are copied to rows of their own. The lists that ControlsOf hands back: equal, marked, held. The signal of a voic No conditions. -/
import Derived.Test.YtimijeeihicohaaZzL17
import Derived.Test.YtimijeeihicohaaZzL15
import Derived.Test.YtimijeeihicohaaZzL9
namespace Go.Proofs.Ytimijeeihicohaa
open Go.RowKit
set_option linter.unusedVariables false
set_option linter.unusedSimpArgs false
set_option maxRecDepth 100000
attribute [local simp] List.getElem?_cons_zero
attribute [local irreducible] awCond awCall awLoop awDraw ow retQ retC resQ Keeps
section
variable {B b : Nat} {M M' : Mem} {us : List Value} {p : Patch} {PB oid vid cid : Nat} {vals : List Int} {vs : List Value} {cs : List (List Int)} {Y : Nat → Prop}
theorem Play.other {Z Y' : Nat → Prop} (h : Play Y B M us p PB oid vid cid vals vs cs) (ho : ∀ (i : Nat) s, ¬ Z i → M[i]? = some s → M'[i]? = some s) (hz : ¬ Z PB ∧ ¬ Z oid ∧ ¬ Z vid ∧ ¬ Z cid) (hy : ∀ (i : Nat) s, M[i]? = some s → ¬ Y i → ¬ Z i ∧ ¬ Y' i) (h1 : Y' vid) (h2 : Y' cid) : Play Y' B M' us p PB oid vid cid vals vs cs := by
  obtain ⟨low, ⟨c, t1, t2, tt, b1⟩, b2, ⟨e, b3⟩, ⟨t, b4⟩, b5, b6, b7⟩ := h
  refine ⟨low, ⟨c, t1, t2, tt, ho _ _ hz.1 b1⟩, ho _ _ hz.2.1 b2, ⟨e, ho _ _ hz.2.2.1 b3⟩, ⟨t, ho _ _ hz.2.2.2 b4⟩, b5, fun k hk => ?_, b7.1, b7.2.1, b7.2.2.1, b7.2.2.2.1, b7.2.2.2.2.1, h1, h2⟩
  obtain ⟨id, a, b, c⟩ := b6 k hk
  obtain ⟨z1, z2⟩ := hy id _ b c
  exact ⟨id, a, ho _ _ z1 b, z2⟩
end
theorem Acc.off {B : Nat} {M M' : Mem} {v : Value} {l : List Int} {e : TypeId} {X : Nat → Prop} (h : Acc intR e B M v l) (ho : Off X M M') (hx : ∀ i, B ≤ i → ¬ X i) : Acc intR e B M' v l := by
  obtain ⟨A, n, c, h1, h2, h3⟩ := h
  refine ⟨A, n, c, h1, h2, ?_⟩
  rcases h3 with h3 | ⟨id, t, h4, h5, h6⟩
  · exact .inl h3
  · exact .inr ⟨id, t, h4, h5, ho.2 _ _ (hx id h5) h6⟩
theorem apart_nil {i : Nat} : Apart (.slice none 0 0) i := by
  intro A n c a e ea
  injection e with e
  subst e
  cases ea
theorem Acc.apartB {B : Nat} {M : Mem} {v : Value} {l : List Int} {e : TypeId} (h : Acc intR e B M v l) {i : Nat} (hi : i < B) : Apart v i := by
  obtain ⟨A, n, c, rfl, hl, hA⟩ := h
  intro A' n' c' a e ea
  injection e with e1
  subst e1
  rcases hA with ⟨rfl, _⟩ | ⟨id, t, rfl, hid, hr⟩
  · cases ea
  · injection ea with ea
    subst ea
    show i ≠ id
    omega
theorem outputs_x {Y : Nat → Prop} {M : Mem} {B lo hi : Nat} {us : List Value} {p : Patch} {PB oid vid cid : Nat} {vals : List Int} {vs : List Value} {cs : List (List Int)} (hP : Play Y B M us p PB oid vid cid vals vs cs) (h : patchP.rd lo hi M p us) (hf : formB p = true) :
    Det Try.prog M.length 130 [.pointer (some ⟨PB, 0, none⟩)] M (.slice (some ⟨M.length, 0, none⟩) p.outs.length p.outs.length) (M ++ [.live (rowI (p.outs.map fun f => el vals f.toNat))]) := by
  obtain ⟨hn24, hidx, hnF⟩ := formB_nodes hf
  have hO : p.outs.length ≤ 4 ∧ idxB p.nodes.length p.outs = true := by
    unfold formB at hf
    simp only [Bool.and_eq_true, decide_eq_true_eq] at hf
    exact ⟨hf.1.1.2, hf.1.2⟩
  obtain ⟨A1, n1, c1, A2, n2, c2, A3, n3, c3, rfl⟩ := patch_isV h
  obtain ⟨u1, u2, u3, e, hu1, hu2, hu3⟩ := id h
  simp only [List.cons.injEq, and_true, true_and] at e
  obtain ⟨rfl, rfl, rfl⟩ := e
  obtain ⟨b1, b2, b3, -, ⟨c5, b5⟩, -, -⟩ := hP.cells
  have hval := hP.valsV c5 hn24
  have e : p.outs.length = (p.outs.map fun f => el vals f.toNat).length := by simp
  rw [e]
  refine Ctr.compact (rowI_plain _) ?_
  first | (refine ctr_fn Try.func130 rfl Try.ntmps130 Try.results130 rfl rfl (by simp) ?_) | (refine ctr_fnC Try.func130 rfl Try.ntmps130 Try.results130 rfl (by simp) ?_)
  simp
  refine awDraw_E 9 [[],[0],[1,0],[2,1,0],[3,2,1,0],[],[5],[6,5],[7,6,5],[4,3,2,1,0,8,7,6,5],[9,4,3,2,1,0,8,7,6,5]] (by kernel_rfl) (by kernel_rfl) ?_
  simp [b3, b5]
  refine awCall_det' (mapped_x hu3 hval (by omega) fun k hk => ?_) (by omega) ?_
  · have := inB_iff.1 (List.all_eq_true.1 hO.2 _ (el_mem hk))
    obtain ⟨f, hf⟩ := Int.eq_ofNat_of_zero_le this.1
    exact ⟨f, hf, by rw [hP.len.1]; omega⟩
  try simp
  exact ⟨newRow_in (t := false) (by simp) (Nat.le_refl _) (by simp [rowI]), keeps_app _⟩
theorem frameV_len {ins : List (List Int)} {t : Nat} : (frameV ins t).length = ins.length := by simp [frameV]
theorem frameV_el {ins : List (List Int)} {t k : Nat} (hk : k < ins.length) : el (frameV ins t) k = atL (el ins k) t := by simp [frameV, el, hk]
def BlockK (M : Mem) (vid cid : Nat) (l : List Int) (r : Value) (M' : Mem) : Prop := ∃ uid v lo3 hi3, r = .slice (some ⟨uid, 0, none⟩) 1 1 ∧ cellAt M' uid 0 = some v ∧ rowEsz M' uid = some 1 ∧ SlV intP lo3 hi3 M' v l ∧ Off (XP vid cid) M M'
def YV (M : Mem) (vid cid : Nat) (v : Value) : Nat → Prop := fun i => i = vid ∨ i = cid ∨ i = M.length ∨ i = M.length + 1 ∨ ¬ Apart v i
set_option maxHeartbeats 4000000 in
theorem block_i {M : Mem} {b lo hi lo2 hi2 B N : Nat} {us : List Value} {p : Patch} {PB oid vid cid : Nat} {vals : List Int} {vs : List Value} {ins : List (List Int)} {iv_ : Value}
    (hP : Play (fun i => i = vid ∨ i = cid) B M us p PB oid vid cid vals vs (p.nodes.map startV)) (h : patchP.rd lo hi M p us) (hf : formB p = true) (ho : (ordL p.nodes).length = p.nodes.length) (hins : SlV tabP lo2 hi2 M iv_ ins) (hin : p.inp = ins.length) (hout : p.outs.length = 1) (hN : N ≤ 4000)
    (av : ∀ i, lo ≤ i → i < hi → ¬ XP vid cid i) (av2 : ∀ i, lo2 ≤ i → i < hi2 → ¬ XP vid cid i) (hM : hi ≤ M.length ∧ hi2 ≤ M.length) (hb : b ≤ B) (hbM : b ≤ M.length) :
    Ctr Try.prog b 116 [.pointer (some ⟨PB, 0, none⟩), iv_, iv 0, iv N] M fun r M' => BlockK M vid cid (rendS p ins N).1 r M' := by
  obtain ⟨hn24, hidx, hnF⟩ := formB_nodes hf
  have hok : ∀ y, y ∈ p.nodes → NodeOk p y := fun y hy => nodeF_ok (hnF y hy)
  have hinp : 0 ≤ p.inp ∧ p.inp ≤ 4 := by
    unfold formB at hf
    simp only [Bool.and_eq_true] at hf
    exact inB_iff.1 hf.1.1.1.1.1
  obtain ⟨A1, n1, c1, A2, n2, c2, A3, n3, c3, rfl⟩ := patch_isV h
  obtain ⟨u1, u2, u3, e, hu1, hu2, hu3⟩ := id h
  simp only [List.cons.injEq, and_true, true_and] at e
  obtain ⟨rfl, rfl, rfl⟩ := e
  obtain ⟨B3, m3, d3, ee, q1, q2, q3⟩ := id hu3
  injection ee with ea eb ec
  subst ea; subst eb; subst ec
  have hol := q3.1
  obtain rfl : n3 = 1 := by omega
  obtain ⟨b1, b2, b3, -, -, -, b0⟩ := hP.cells
  obtain ⟨Ai, ni, ci, rfl, w1, w2, w3⟩ := id hins
  have hnil := w3.1
  rw [hin] at b0 hinp
  rw [hnil] at b0 hinp
  have lPB : PB < M.length := by obtain ⟨c, t1, t2, tt, h1⟩ := hP.box; exact (List.getElem?_eq_some_iff.1 h1).1
  have loid : oid < M.length := (List.getElem?_eq_some_iff.1 hP.ord).1
  have lvid : vid < M.length := by obtain ⟨t, h4⟩ := hP.val; exact (List.getElem?_eq_some_iff.1 h4).1
  have lcid : cid < M.length := by obtain ⟨t, h4⟩ := hP.cel; exact (List.getElem?_eq_some_iff.1 h4).1
  first | (refine ctr_fn Try.func116 rfl Try.ntmps116 Try.results116 rfl rfl (by simp) ?_) | (refine ctr_fnC Try.func116 rfl Try.ntmps116 Try.results116 rfl (by simp) ?_)
  simp [b3, b0]
  have k0 := keeps_app (M := M) [Slot.live ⟨zrow [.slice none 0 0] 1, true, true, 46, 1⟩]
  have b0' := cellAt_keeps k0 b0
  simp [b0']
  refine awCall_det' (zeros_i ni (by omega)) (by simp <;> omega) ?_
  simp
  have YA : ∀ (v : Value) (i : Nat), YV M vid cid v i ↔ (i = vid ∨ i = cid ∨ i = M.length ∨ i = M.length + 1 ∨ ¬ Apart v i) := fun v i => Iff.rfl
  refine awLoop_T (fun m T M1 => ∃ (t : Nat) (v : Value) (vals : List Int) (vq : List Value) (fr : List Int), t + m = N ∧ Off (XP vid cid) M M1 ∧ M.length + 2 ≤ M1.length ∧ M1[M.length]? = some (.live ⟨[v], true, true, 46, 1⟩) ∧ M1[M.length + 1]? = some (.live ⟨cellsL intR fr, true, true, 2, 1⟩) ∧ fr.length = ni ∧ Acc intR 2 (M.length + 2) M1 v (rendS p ins t).1 ∧ Play (YV M vid cid v) B M1 [iv p.inp, .slice A1 n1 c1, .slice A2 n2 c2, .slice A3 1 c3] p PB oid vid cid vals vq (rendS p ins t).2 ∧ look T 11 = some (iv t) ∧ look T 9 = some (.slice (some ⟨M.length, 0, none⟩) 1 1) ∧ look T 10 = some (.slice (some ⟨M.length + 1, 0, none⟩) ni ni) ∧ look T 0 = some (.pointer (some ⟨PB, 0, none⟩)) ∧ look T 1 = some (.slice Ai ni ci) ∧ look T 2 = some (iv 0) ∧ look T 3 = some (iv N)) N
    ⟨0, .slice none 0 0, vals, vs, List.replicate ni 0, by omega, (keeps_app _).off _, by simp, by simp [zrow], by simp, by simp, .nil, ?_, by simp, by simp, by simp, by simp, by simp, by simp, by simp⟩ ?_
  · refine (hP.newY (fun i hi => ?_) (.inl rfl) (.inr (.inl rfl))).keeps (keeps_app _)
    rcases hi with h | h | h | h | h
    · exact .inl (.inl h)
    · exact .inl (.inr h)
    · exact .inr (by omega)
    · exact .inr (by omega)
    · exact absurd apart_nil h
  rintro m T M1 ⟨t, v, vals, vq, fr, hm, hoff, hl1, ru, rf, hfl, hA, hQ, t11, t9, t10, t0, t1, t2, t3⟩
  by_cases hlt : t < N
  case neg =>
    obtain rfl : t = N := by omega
    simp (disch := omega) [t11, t9, t10, t0, t1, t2, t3, wrap_in]
    have hlr := rendS_len (p := p) (ins := ins) t
    exact ⟨M.length, v, _, _, rfl, by simp [cellAt, ru], by simp [rowEsz, ru], hA.slv (by omega), hoff⟩
  simp (disch := omega) [t11, t9, t10, t0, t1, t2, t3, hlt, wrap_in]
  -- the frame's inputs
  refine awLoop_T (fun m' T M2 => ∃ (c : Nat) (fr2 : List Int), c + m' = ni ∧ Off (XP vid cid) M M2 ∧ M1.length = M2.length ∧ (∀ (i : Nat) s, i ≠ M.length + 1 → M1[i]? = some s → M2[i]? = some s) ∧ M2[M.length + 1]? = some (.live ⟨cellsL intR fr2, true, true, 2, 1⟩) ∧ fr2.length = ni ∧ (∀ j, j < c → el fr2 j = el (frameV ins t) j) ∧ look T 38 = some (iv c) ∧ look T 37 = some (iv ni) ∧ look T 11 = some (iv t) ∧ look T 9 = some (.slice (some ⟨M.length, 0, none⟩) 1 1) ∧ look T 10 = some (.slice (some ⟨M.length + 1, 0, none⟩) ni ni) ∧ look T 0 = some (.pointer (some ⟨PB, 0, none⟩)) ∧ look T 1 = some (.slice Ai ni ci) ∧ look T 2 = some (iv 0) ∧ look T 3 = some (iv N)) ni
    ⟨0, fr, by omega, hoff, rfl, fun i s _ h => h, rf, hfl, fun j hj => by omega, by simp, by simp, by simp [t11], by simp [t9], by simp [t10], by simp [t0], by simp [t1], by simp [t2], by simp [t3]⟩ ?_
  clear t11 t9 t10 t0 t1 t2 t3
  rintro m' T M2 ⟨c, fr2, hm', hoff2, hl2, hk2, rf2, hfl2, hfr2, t38, t37, t11, t9, t10, t0, t1, t2, t3⟩
  by_cases hc : c < ni
  · obtain ⟨idi, offi, usi, rfl, hei, ⟨ui, rfl, hui⟩, hci⟩ := (w3.agree (hoff2.agree av2)).at_ hc
    have ci1 := (cl_cons.1 hci).1
    simp only [Nat.mul_one] at ci1
    have ef : rowEsz M2 (M.length + 1) = some 1 := by simp [rowEsz, rf2]
    simp (disch := omega) [t38, t37, t11, t9, t10, t0, t1, t2, t3, hc, hei, ci1, wrap_in]
    refine awCall_det' (at_i t (by omega) hui) (by omega) ?_
    have hp := put_rec (R := intR) (b := b) (a := atL (el ins c) t) (off := c) (i := c) rf2 (by omega) (by omega) (by omega) rfl
    have hp' : putCells b M2 (M.length + 1) c [Value.int IntKind.i64 (atL (el ins c) t)] = _ := hp
    simp (disch := omega) [t38, t37, t11, t9, t10, t0, t1, t2, t3, hc, ef, wrap_in, hp']
    have lt2 := (List.getElem?_eq_some_iff.1 rf2).1
    refine lpI (m' - 1) (by omega) ⟨c + 1, fr2.set c (atL (el ins c) t), by omega, ⟨by simp; exact hoff2.1, fun i s hi hs => by rw [List.getElem?_set_ne (by have := (List.getElem?_eq_some_iff.1 hs).1; omega)]; exact hoff2.2 i s hi hs⟩, by simp [hl2], fun i s hi hs => by rw [List.getElem?_set_ne (Ne.symm hi)]; exact hk2 i s hi hs, List.getElem?_set_self lt2, by simp [hfl2], fun j hj => ?_, by simp, by simp [t37], by simp [t11], by simp [t9], by simp [t10], by simp [t0], by simp [t1], by simp [t2], by simp [t3]⟩
    by_cases e : c = j
    · subst e
      rw [el_set_same _ (by omega), frameV_el (by omega)]
    · rw [el_set_other _ e]
      exact hfr2 j (by omega)
  obtain rfl : c = ni := by omega
  have hfe : fr2 = frameV ins t := by
    apply List.ext_getElem
    · rw [hfl2, frameV_len, hnil]
    · intro j a b'
      rw [el_eq, el_eq]
      exact hfr2 j (by omega)
  subst hfe
  have hQ2 : Play (YV M vid cid v) B M2 [iv p.inp, .slice A1 n1 c1, .slice A2 n2 c2, .slice A3 1 c3] p PB oid vid cid vals vq (rendS p ins t).2 :=
    hQ.other (Z := fun i => i = M.length + 1) (fun i s hi hs => hk2 i s hi hs) (by omega) (fun i s hs hy => ⟨fun e => hy (.inr (.inr (.inr (.inl e)))), hy⟩) (.inl rfl) (.inr (.inl rfl))
  have hA2 : Acc intR 2 (M.length + 2) M2 v (rendS p ins t).1 := hA.off (X := fun i => i = M.length + 1) ⟨by omega, fun i s hi hs => hk2 i s hi hs⟩ (fun i hi => by omega)
  have ru2 := hk2 _ _ (by omega) ru
  simp (disch := omega) [t38, t37, t11, t9, t10, t0, t1, t2, t3]
  have hfv : SlV intP (M.length + 1) (M.length + 2) M2 (.slice (some ⟨M.length + 1, 0, none⟩) c c) (frameV ins t) := by
    refine ⟨_, _, _, rfl, by omega, (fun h => by cases h), SlP.of_sl ⟨hfl2, fun _ => ⟨M.length + 1, 0, rfl, by simp [rowEsz, rf2], fun j y hy => by simpa [cellAt, rf2] using hy⟩⟩ fun a e _ => ?_⟩
    injection e with e
    subst e
    exact ⟨Nat.le_refl _, by show M.length + 1 < M.length + 2; omega⟩
  refine awCall_ctr (frame_i hQ2 (patchP.agree h (hoff2.agree av)) hf ho (rendS_ok hok t) hfv (by rw [frameV_len]; exact hin) av (fun i h1 h2 hx => by rcases hx with hx | hx <;> omega) hb (by have := hoff2.1; omega) ?_) ?_
  · intro i hi
    have := hoff2.1
    rcases hi with h | h | h | h | h
    · omega
    · omega
    · omega
    · omega
    · exact Classical.byContradiction fun hn => h (hA2.apart (by omega))
  rintro _ M3 ⟨vq3, hQ3, hoff3⟩
  have hA3 := hA2.off hoff3 (fun i hi hx => by rcases hx with hx | hx <;> omega)
  have ru3 := hoff3.2 _ _ (fun hx => by rcases hx with hx | hx <;> omega) ru2
  have rf3 := hoff3.2 _ _ (fun hx => by rcases hx with hx | hx <;> omega) rf2
  have hoffM3 := hoff2.trans hoff3
  have hl3 := hoff3.1
  obtain ⟨o, ho1⟩ : ∃ o, p.outs = [o] := by
    match hpo : p.outs, hout with
    | [o], _ => exact ⟨o, rfl⟩
  have dO := outputs_x hQ3 (patchP.agree h (hoffM3.agree av)) hf
  rw [ho1] at dO
  simp only [List.map_cons, List.map_nil, List.length_cons, List.length_nil, Nat.zero_add] at dO
  refine awCall_det' dO (by have := hoff2.1; omega) ?_
  have hrs : (rendS p ins (t + 1)) = ((rendS p ins t).1 ++ [el (valsV p (rendS p ins t).2 (frameV ins t)) o.toNat], nextC p (rendS p ins t).2 (frameV ins t) (valsV p (rendS p ins t).2 (frameV ins t))) := by
    rw [rendS, ho1]
    rfl
  have hrl := rendS_len (p := p) (ins := ins) t
  generalize valsV p (rendS p ins t).2 (frameV ins t) = V at *
  generalize nextC p (rendS p ins t).2 (frameV ins t) V = C at *
  generalize el V o.toNat = y at *
  obtain ⟨M4, hM4⟩ : ∃ M4 : Mem, M4 = M3 ++ [Slot.live (rowI [y])] := ⟨_, rfl⟩
  have k4 : Keeps M3 M4 := by rw [hM4]; exact keeps_app _
  have l4 : M4.length = M3.length + 1 := by rw [hM4]; simp
  have r4 : M4[M3.length]? = some (.live (rowI [y])) := by rw [hM4]; simp
  rw [← hM4]
  clear hM4 dO
  replace hQ3 := hQ3.keeps k4
  replace hA3 := hA3.keeps k4
  replace ru3 := k4.get ru3
  replace rf3 := k4.get rf3
  replace hoffM3 := hoffM3.trans (k4.off _)
  simp (disch := omega) [wrap_in]
  refine awLoop_T (fun m'' T M5 => ∃ e : Nat, e + m'' = 1 ∧ (e = 0 → M5 = M4) ∧ (e = 1 → ∃ v', Off (XP vid cid) M M5 ∧ M.length + 2 ≤ M5.length ∧ M5[M.length]? = some (.live ⟨[v'], true, true, 46, 1⟩) ∧ M5[M.length + 1]? = some (.live ⟨cellsL intR (frameV ins t), true, true, 2, 1⟩) ∧ Acc intR 2 (M.length + 2) M5 v' ((rendS p ins t).1 ++ [y]) ∧ Play (YV M vid cid v') B M5 [iv p.inp, .slice A1 n1 c1, .slice A2 n2 c2, .slice A3 1 c3] p PB oid vid cid V vq3 C) ∧ look T 57 = some (iv e) ∧ look T 56 = some (iv 1) ∧ look T 55 = some (.slice (some ⟨M3.length, 0, none⟩) 1 1) ∧ look T 11 = some (iv t) ∧ look T 9 = some (.slice (some ⟨M.length, 0, none⟩) 1 1) ∧ look T 10 = some (.slice (some ⟨M.length + 1, 0, none⟩) c c) ∧ look T 0 = some (.pointer (some ⟨PB, 0, none⟩)) ∧ look T 1 = some (.slice Ai c ci) ∧ look T 2 = some (iv 0) ∧ look T 3 = some (iv N)) 1
    ⟨0, by omega, fun _ => rfl, (fun h => by cases h), by simp, by simp, by simp, by simp [t11], by simp [t9], by simp [t10], by simp [t0], by simp [t1], by simp [t2], by simp [t3]⟩ ?_
  clear t11 t9 t10 t0 t1 t2 t3 t38 t37
  rintro m'' T M5 ⟨ec, hm'', g0, g1, t57, t56, t55, t11, t9, t10, t0, t1, t2, t3⟩
  have hcc : ec = 0 ∨ ec = 1 := by omega
  rcases hcc with rfl | rfl
  · obtain rfl := g0 rfl
    have e4 : rowEsz M5 M3.length = some 1 := by simp [rowEsz, r4, rowI]
    have ce4 : cellAt M5 M3.length 0 = some (iv y) := by simp [cellAt, r4, rowI, cellsL, intR]
    have eu : rowEsz M5 M.length = some 1 := by simp [rowEsz, ru3]
    have cu : cellAt M5 M.length 0 = some v := by simp [cellAt, ru3]
    simp (disch := omega) [t57, t56, t55, t11, t9, t10, t0, t1, t2, t3, e4, ce4, eu, cu, wrap_in, fill1I]
    have kx : Keeps M5 (M5 ++ [Slot.live ⟨[iv y], true, true, 2, 1⟩]) := keeps_app _
    refine (hA3.keeps kx).append2 (P := Try.prog) (by_ := 8) (a := y) (by have := hoff2.1; omega) (by simp; omega) (by omega) (by simp) (by kernel_rfl) (by simp [srcOf]; rfl) rfl (by omega) (by unfold maxLen; omega) fun v' M6 a6 b6 d6 => ?_
    have lu : M.length < M.length + 2 := by omega
    have ru6 := b6.2 _ _ (by omega) (kx.get ru3)
    have rf6 := b6.2 _ _ (by omega) (kx.get rf3)
    have hl6 := b6.1
    simp at hl6
    obtain ⟨A', n', c', rfl, -⟩ := id a6
    have eu6 : rowEsz M6 M.length = some 1 := by simp [rowEsz, ru6]
    have lt6 := (List.getElem?_eq_some_iff.1 ru6).1
    have pu : putCells b M6 M.length 0 [.slice A' n' c'] = some (M6.set M.length (.live ⟨[.slice A' n' c'], true, true, 46, 1⟩)) := put_whole (vs := [.slice A' n' c']) ru6 hbM rfl (by simp)
    simp (disch := omega) [t57, t56, t55, t11, t9, t10, t0, t1, t2, t3, eu6, wrap_in, pu]
    have off6 : Off (XP vid cid) M (M6.set M.length (.live ⟨[.slice A' n' c'], true, true, 46, 1⟩)) := by
      refine ⟨by simp; omega, fun i s hi hs => ?_⟩
      have hlt := (List.getElem?_eq_some_iff.1 hs).1
      rw [List.getElem?_set_ne (by omega)]
      exact b6.2 _ _ (by omega) (kx.get (hoffM3.2 i s hi hs))
    have P6 : Play (YV M vid cid (.slice A' n' c')) B (M6.set M.length (.live ⟨[.slice A' n' c'], true, true, 46, 1⟩)) [iv p.inp, .slice A1 n1 c1, .slice A2 n2 c2, .slice A3 1 c3] p PB oid vid cid V vq3 C := by
      have hap : ∀ i, i < M.length + 2 → Apart v i := fun i hi => hA3.apartB hi
      refine hQ3.other (Z := fun i => i = M.length ∨ ¬ Apart v i) (fun i s hi hs => ?_) ?_ (fun i s hs hy => ?_) (.inl rfl) (.inr (.inl rfl))
      · have h1 : i ≠ M.length := fun e => hi (.inl e)
        have h2 : Apart v i := Classical.byContradiction fun hn => hi (.inr hn)
        rw [List.getElem?_set_ne (Ne.symm h1)]
        exact (d6 i s h2 (kx.get hs)).1
      · refine ⟨fun e => ?_, fun e => ?_, fun e => ?_, fun e => ?_⟩ <;> (rcases e with e | e; omega; exact e (hap _ (by omega)))
      · have h2 : Apart v i := Classical.byContradiction fun hn => hy (.inr (.inr (.inr (.inr hn))))
        refine ⟨fun e => ?_, fun e => ?_⟩
        · rcases e with e | e
          · exact hy (.inr (.inr (.inl e)))
          · exact e h2
        · rcases e with e | e | e | e | e
          · exact hy (.inl e)
          · exact hy (.inr (.inl e))
          · exact hy (.inr (.inr (.inl e)))
          · exact hy (.inr (.inr (.inr (.inl e))))
          · exact e (d6 i s h2 (kx.get hs)).2
    refine lpI (m'' - 1) (by omega) ⟨1, by omega, fun h => by omega, fun _ => ⟨_, off6, by simp; omega, List.getElem?_set_self lt6, by rw [List.getElem?_set_ne (by omega)]; exact rf6, a6.set_ne (by omega), P6⟩, by simp, by simp [t56], by simp [t55], by simp [t11], by simp [t9], by simp [t10], by simp [t0], by simp [t1], by simp [t2], by simp [t3]⟩
  · obtain ⟨v', f1, f2, f3, f4, f5, f6⟩ := g1 rfl
    simp (disch := omega) [t57, t56, t55, t11, t9, t10, t0, t1, t2, t3, wrap_in]
    refine lpI (m - 1) (by omega) ⟨t + 1, v', V, vq3, frameV ins t, by omega, f1, f2, f3, f4, hfl2, by rw [hrs]; exact f5, by rw [hrs]; exact f6, by simp, by simp [t9], by simp [t10], by simp [t0], by simp [t1], by simp [t2], by simp [t3]⟩
end Go.Proofs.Ytimijeeihicohaa

namespace Go.Proofs.Ytimijeeihicohaa
open Go.RowKit
set_option linter.unusedVariables false
set_option linter.unusedSimpArgs false
set_option maxRecDepth 100000
attribute [local simp] List.getElem?_cons_zero
attribute [local irreducible] awCond awCall awLoop awDraw ow retQ retC resQ Keeps
end Go.Proofs.Ytimijeeihicohaa

namespace Go.Proofs.Ytimijeeihicohaa
open Go.RowKit
set_option linter.unusedVariables false
set_option linter.unusedSimpArgs false
set_option maxRecDepth 100000
attribute [local simp] List.getElem?_cons_zero
attribute [local irreducible] awCond awCall awLoop awDraw ow retQ retC resQ Keeps
end Go.Proofs.Ytimijeeihicohaa

namespace Go.Proofs.Ytimijeeihicohaa
open Go.RowKit
set_option linter.unusedVariables false
set_option linter.unusedSimpArgs false
set_option maxRecDepth 100000
attribute [local simp] List.getElem?_cons_zero
attribute [local irreducible] awCond awCall awLoop awDraw ow retQ retC resQ Keeps
def OwnN (N : Mem) : Prop := ∀ (i : Nat) r, N[i]? = some (.live r) → r.own = true
theorem OwnN.app {A B : Mem} (h : OwnN A) (h' : OwnN B) : OwnN (A ++ B) := fun i r hr => by
  by_cases hi : i < A.length
  · rw [List.getElem?_append_left hi] at hr
    exact h i r hr
  · rw [List.getElem?_append_right (by omega)] at hr
    exact h' _ r hr
theorem OwnN.cons {s : Slot} {B : Mem} (h : ∀ r, s = .live r → r.own = true) (h' : OwnN B) : OwnN (s :: B) := fun i r hr => by
  cases i with
  | zero => simp at hr; exact h r hr
  | succ i => exact h' i r (by simpa using hr)
theorem OwnN.live {r : Row} {B : Mem} (h : r.own = true) (h' : OwnN B) : OwnN (.live r :: B) := .cons (fun r' e => by injection e with e; rw [← e]; exact h) h'
def OwnA (b : Nat) (M : Mem) : Prop := ∀ (i : Nat) r, b ≤ i → M[i]? = some (.live r) → r.own = true
theorem OwnN.a {M N : Mem} (h : OwnN N) : OwnA M.length (M ++ N) := fun i r hi hr => by
  rw [List.getElem?_append_right hi] at hr
  exact h _ r hr
theorem OwnA.n {M N : Mem} (h : OwnA M.length (M ++ N)) : OwnN N := fun i r hr => h (M.length + i) r (by omega) (by rw [List.getElem?_append_right (by omega), Nat.add_sub_cancel_left]; exact hr)
theorem OwnA.app {b : Nat} {M N : Mem} (h : OwnA b M) (h' : OwnN N) : OwnA b (M ++ N) := fun i r hi hr => by
  by_cases hl : i < M.length
  · rw [List.getElem?_append_left hl] at hr
    exact h i r hi hr
  · rw [List.getElem?_append_right (by omega)] at hr
    exact h' _ r hr
section
variable {α : Type} {k : Nat} [Inhabited α]
end
end Go.Proofs.Ytimijeeihicohaa

namespace Go.Proofs.Ytimijeeihicohaa
open Go.RowKit
set_option linter.unusedVariables false
set_option linter.unusedSimpArgs false
set_option maxRecDepth 100000
attribute [local simp] List.getElem?_cons_zero
attribute [local irreducible] awCond awCall awLoop awDraw ow retQ retC resQ Keeps
/-- A list of lists in rows of one's own. -/
def SSo (lo hi : Nat) (M : Mem) (u : Value) (l : List (List Int)) : Prop :=
  ∃ id n cells e, u = .slice (some ⟨id, 0, none⟩) n n ∧ l.length = n ∧ n ≤ 1048576 ∧ lo ≤ id ∧ id < hi ∧ M[id]? = some (.live ⟨cells, true, true, e, 1⟩) ∧ cells.length = n ∧
    ∀ i, i < n → ∃ jd, cells[i]? = some (.slice (some ⟨jd, 0, none⟩) (el l i).length (el l i).length) ∧ id < jd ∧ jd < hi ∧ M[jd]? = some (.live ⟨cellsL intR (el l i), true, true, 2, 1⟩)
theorem SSo.agree {lo hi : Nat} {M M' : Mem} {u : Value} {l : List (List Int)} (h : SSo lo hi M u l) (hg : Agree lo hi M M') : SSo lo hi M' u l := by
  obtain ⟨id, n, cells, e, h1, h2, h3, h4, h5, h6, h7, h8⟩ := h
  refine ⟨id, n, cells, e, h1, h2, h3, h4, h5, hg _ _ h4 h5 h6, h7, fun i hi' => ?_⟩
  obtain ⟨jd, g1, g2, g3, g4⟩ := h8 i hi'
  exact ⟨jd, g1, g2, g3, hg _ _ (by omega) g3 g4⟩
theorem SSo.keeps {lo hi : Nat} {M M' : Mem} {u : Value} {l : List (List Int)} (h : SSo lo hi M u l) (hk : Keeps M M') : SSo lo hi M' u l := h.agree hk.agree
theorem SSo.slv {lo hi : Nat} {M : Mem} {u : Value} {l : List (List Int)} (h : SSo lo hi M u l) (hb : ∀ x, x ∈ l → x.length ≤ 1048576) : SlV tabP lo hi M u l := by
  obtain ⟨id, n, cells, e, h1, h2, h3, h4, h5, h6, h7, h8⟩ := h
  refine ⟨_, n, n, h1, by omega, (fun h => by cases h), h2, fun _ => ⟨id, 0, rfl, h4, h5, by simp [rowEsz, h6], fun i hi' => ?_⟩⟩
  obtain ⟨jd, g1, g2, g3, g4⟩ := h8 i hi'
  have hxb := hb _ (el_mem (l := l) (i := i) (by omega))
  refine ⟨[.slice (some ⟨jd, 0, none⟩) (el l i).length (el l i).length], ⟨_, rfl, _, _, (el l i).length, rfl, by omega, (fun h => by cases h), SlP.of_sl ⟨rfl, fun _ => ⟨jd, 0, rfl, by simp [rowEsz, g4], fun j x hx => by simp [cellAt, g4, hx]⟩⟩ fun a e _ => ?_⟩, cl_cons.2 ⟨?_, cl_nil⟩⟩
  · injection e with e
    subst e
    exact ⟨by show lo ≤ jd; omega, g3⟩
  · simp [cellAt, h6, g1]
end Go.Proofs.Ytimijeeihicohaa

namespace Go.Proofs.Ytimijeeihicohaa
open Go.RowKit
set_option linter.unusedVariables false
set_option linter.unusedSimpArgs false
set_option maxRecDepth 100000
attribute [local simp] List.getElem?_cons_zero
attribute [local irreducible] awCond awCall awLoop awDraw ow retQ retC resQ Keeps
def Mkv (v v' : Value) : Prop := v' = v ∨ ∃ z z', v = iv z ∧ v' = iv z'
theorem Mkv.trans {a b c : Value} (h : Mkv a b) (h' : Mkv b c) : Mkv a c := by
  rcases h with rfl | ⟨z, z', rfl, rfl⟩
  · exact h'
  · rcases h' with rfl | ⟨y, y', e, rfl⟩
    · exact .inr ⟨z, z', rfl, rfl⟩
    · exact .inr ⟨z, y', rfl, rfl⟩
def Mkl (xs ys : List Value) : Prop := xs.length = ys.length ∧ ∀ (i : Nat) x y, xs[i]? = some x → ys[i]? = some y → Mkv x y
theorem Mkl.refl (xs : List Value) : Mkl xs xs := ⟨rfl, fun i x y hx hy => .inl (by rw [hx] at hy; injection hy with hy; exact hy.symm)⟩
theorem Mkl.trans {a b c : List Value} (h : Mkl a b) (h' : Mkl b c) : Mkl a c := ⟨h.1.trans h'.1, fun i x z hx hz => by
  have hb : b[i]? = some (b[i]'(by have := (List.getElem?_eq_some_iff.1 hx).1; have := h.1; omega)) := List.getElem?_eq_getElem _
  exact (h.2 i _ _ hx hb).trans (h'.2 i _ _ hb hz)⟩
def Mks (s s' : Slot) : Prop := s' = s ∨ ∃ (r : Row) (cs : List Value), s = .live r ∧ s' = .live ⟨cs, r.own, r.tight, r.elem, r.esz⟩ ∧ Mkl r.cells cs
/-- Only numbers in rows with ids from lo up to hi may have turned, to numbers. -/
def Marked (lo hi : Nat) (M M' : Mem) : Prop := M.length ≤ M'.length ∧ ∀ (i : Nat) s, M[i]? = some s → ∃ s', M'[i]? = some s' ∧ Mks s s' ∧ ((i < lo ∨ hi ≤ i) → s' = s)
theorem Marked.refl (lo hi : Nat) (M : Mem) : Marked lo hi M M := ⟨Nat.le_refl _, fun i s hs => ⟨s, hs, .inl rfl, fun _ => rfl⟩⟩
theorem Marked.trans {lo hi : Nat} {M M1 M2 : Mem} (h : Marked lo hi M M1) (h' : Marked lo hi M1 M2) : Marked lo hi M M2 := ⟨Nat.le_trans h.1 h'.1, fun i s hs => by
  obtain ⟨s1, a1, a2, a3⟩ := h.2 i s hs
  obtain ⟨s2, b1, b2, b3⟩ := h'.2 i s1 a1
  refine ⟨s2, b1, ?_, fun hd => (b3 hd).trans (a3 hd)⟩
  rcases a2 with rfl | ⟨r, cs, rfl, rfl, hm⟩
  · exact b2
  · rcases b2 with rfl | ⟨r2, cs2, e, rfl, hm2⟩
    · exact .inr ⟨r, cs, rfl, rfl, hm⟩
    · injection e with e
      subst e
      exact .inr ⟨r, cs2, rfl, rfl, hm.trans hm2⟩⟩
theorem Marked.turn {lo hi : Nat} {M M' : Mem} (h : Marked lo hi M M') : Turn lo hi M M' := ⟨h.1, fun i s hs hd => by
  obtain ⟨s', a1, -, a3⟩ := h.2 i s hs
  rw [a3 hd] at a1
  exact a1⟩
theorem Marked.row {lo hi : Nat} {M M' : Mem} (h : Marked lo hi M M') {i : Nat} {r : Row} (hr : M[i]? = some (.live r)) : ∃ cs, M'[i]? = some (.live ⟨cs, r.own, r.tight, r.elem, r.esz⟩) ∧ Mkl r.cells cs := by
  obtain ⟨s', a1, a2, -⟩ := h.2 i _ hr
  rcases a2 with rfl | ⟨r', cs, e, rfl, hm⟩
  · exact ⟨r.cells, a1, .refl _⟩
  · injection e with e
    subst e
    exact ⟨cs, a1, hm⟩
theorem Marked.cl {lo hi : Nat} {M M' : Mem} (h : Marked lo hi M M') {id off : Nat} {us : List Value} (hc : Cl M id off us) : ∃ us', Cl M' id off us' ∧ Mkl us us' := by
  rcases us with _ | ⟨u, us⟩
  · exact ⟨[], cl_nil, .refl _⟩
  · have h0 := hc 0 u rfl
    unfold cellAt at h0
    cases hm : M[id]? with
    | none => rw [hm] at h0; cases h0
    | some s =>
      cases s with
      | dead => rw [hm] at h0; cases h0
      | hole => rw [hm] at h0; cases h0
      | live r =>
        obtain ⟨cs, a1, a2⟩ := h.row hm
        have at_ : ∀ (j : Nat) x, (u :: us)[j]? = some x → r.cells[off + j]? = some x := fun j x hx => by
          have := hc j x hx
          unfold cellAt at this
          rw [hm] at this
          exact this
        have hll : ∀ j, j < (u :: us).length → off + j < cs.length := fun j hj => by
          have := (List.getElem?_eq_some_iff.1 (at_ j _ (List.getElem?_eq_getElem hj))).1
          rw [← a2.1]; exact this
        have hlen : ((cs.drop off).take (u :: us).length).length = (u :: us).length := by
          have := hll us.length (by simp)
          rw [List.length_take, List.length_drop]
          simp
          omega
        have hg : ∀ j, j < (u :: us).length → ((cs.drop off).take (u :: us).length)[j]? = cs[off + j]? := fun j hj => by
          rw [List.getElem?_take, if_pos hj, List.getElem?_drop]
        refine ⟨(cs.drop off).take (u :: us).length, fun j x hx => ?_, hlen.symm, fun j x y hx hy => ?_⟩
        · have hj : j < (u :: us).length := by have := (List.getElem?_eq_some_iff.1 hx).1; omega
          rw [hg j hj] at hx
          simp [cellAt, a1, hx]
        · have hj := (List.getElem?_eq_some_iff.1 hx).1
          rw [hg j hj] at hy
          exact a2.2 _ _ _ (at_ j x hx) hy
theorem Marked.esz {lo hi : Nat} {M M' : Mem} (h : Marked lo hi M M') {id k : Nat} (he : rowEsz M id = some k) : rowEsz M' id = some k := by
  unfold rowEsz at he ⊢
  cases hm : M[id]? with
  | none => rw [hm] at he; cases he
  | some s =>
    cases s with
    | dead => rw [hm] at he; cases he
    | hole => rw [hm] at he; cases he
    | live r =>
      obtain ⟨cs, a1, a2⟩ := h.row hm
      rw [hm] at he
      rw [a1]
      exact he
theorem Marked.set {lo hi : Nat} {M : Mem} {id : Nat} {r : Row} {cs : List Value} (hr : M[id]? = some (.live r)) (h1 : lo ≤ id) (h2 : id < hi) (hc : Mkl r.cells cs) : Marked lo hi M (M.set id (.live ⟨cs, r.own, r.tight, r.elem, r.esz⟩)) := by
  refine ⟨by simp, fun i s hs => ?_⟩
  by_cases e : i = id
  · subst e
    rw [hr] at hs
    injection hs with hs
    subst hs
    exact ⟨_, List.getElem?_set_self (List.getElem?_eq_some_iff.1 hr).1, .inr ⟨r, cs, rfl, rfl, hc⟩, fun hd => by omega⟩
  · exact ⟨s, by rw [List.getElem?_set_ne (Ne.symm e)]; exact hs, .inl rfl, fun _ => rfl⟩
/-- The rows with ids from lo up to hi may be written. -/
def OwnR (lo hi : Nat) (M : Mem) : Prop := ∀ (i : Nat) r, lo ≤ i → i < hi → M[i]? = some (.live r) → r.own = true
theorem OwnN.r {M N : Mem} (h : OwnN N) : OwnR M.length (M ++ N).length (M ++ N) := fun i r h1 _ hr => h.a i r h1 hr
theorem OwnR.thin {lo hi lo' hi' : Nat} {M : Mem} (h : OwnR lo hi M) (h1 : lo ≤ lo') (h2 : hi' ≤ hi) : OwnR lo' hi' M := fun i r a b => h i r (by omega) (by omega)
theorem OwnR.agree {lo hi : Nat} {M M' : Mem} (h : OwnR lo hi M) (hg : Agree lo hi M M') (hl : hi ≤ M.length) : OwnR lo hi M' := fun i r a b hr => by
  have hs : M[i]? = some (M[i]'(by omega)) := List.getElem?_eq_getElem _
  have := hg i _ a b hs
  rw [hr] at this
  injection this with this
  rw [← this] at hs
  exact h i r a b hs
theorem OwnR.marked {lo hi lo' hi' : Nat} {M M' : Mem} (h : OwnR lo hi M) (hg : Marked lo' hi' M M') (hh : hi ≤ M.length) : OwnR lo hi M' := fun i r a b hr => by
  have hl : i < M.length := by omega
  have hs : M[i]? = some (M[i]'hl) := List.getElem?_eq_getElem _
  obtain ⟨s', a1, a2, -⟩ := hg.2 i _ hs
  rw [hr] at a1
  injection a1 with a1
  subst a1
  rcases a2 with e | ⟨r', cs, e, e2, -⟩
  · rw [← e] at hs; exact h i r a b hs
  · rw [e] at hs
    injection e2 with e2
    rw [e2]
    exact h i r' a b hs
theorem cell_rowM {M : Mem} {id off : Nat} {v : Value} (h : cellAt M id off = some v) : ∃ r, M[id]? = some (.live r) ∧ r.cells[off]? = some v := by
  unfold cellAt at h
  cases hm : M[id]? with
  | none => rw [hm] at h; cases h
  | some s =>
    cases s with
    | dead => rw [hm] at h; cases h
    | hole => rw [hm] at h; cases h
    | live r => rw [hm] at h; exact ⟨r, rfl, h⟩
theorem Marked.put {lo hi b : Nat} {M : Mem} {id off : Nat} {z0 : Int} (hc : cellAt M id off = some (iv z0)) (ho : OwnR lo hi M) (h1 : lo ≤ id) (h2 : id < hi) (hb : b ≤ lo) (z : Int) : ∃ M', putCells b M id off [iv z] = some M' ∧ Marked lo hi M M' := by
  obtain ⟨r, hr, hx⟩ := cell_rowM hc
  have how := ho id r h1 h2 hr
  obtain ⟨cs, o, t, e, k⟩ := r
  simp only at how
  subst how
  have hlt := (List.getElem?_eq_some_iff.1 hx).1
  refine ⟨_, put_at_row (b := b) (p := off) (vs := [iv z]) hr (by omega) (by simp at hlt ⊢; omega) rfl, Marked.set hr h1 h2 ⟨by simp [splice], fun i x y hi hy => ?_⟩⟩
  simp only [splice] at hy
  by_cases ei : i = off
  · subst ei
    simp at hi hx
    rw [hx] at hi
    injection hi with hi
    rw [List.getElem?_set_self (by simpa using hlt)] at hy
    injection hy with hy
    exact .inr ⟨z0, z, hi.symm, hy.symm⟩
  · rw [List.getElem?_set_ne (Ne.symm ei)] at hy
    simp at hi
    rw [hi] at hy
    injection hy with hy
    exact .inl hy.symm
theorem chooseN {α : Type} [Inhabited α] {p : Nat → α → Prop} {n : Nat} (h : ∀ i, i < n → ∃ x, p i x) : ∃ V : Nat → α, ∀ i, i < n → p i (V i) := by
  classical
  refine ⟨fun i => if hi : i < n then Classical.choose (h i hi) else default, fun i hi => ?_⟩
  simp only [hi, dif_pos]
  exact Classical.choose_spec (h i hi)
section
variable {α β : Type} {k : Nat}
/-- What a value of the kind has the shape of stays when it is marked. -/
def StP (P : RecP α k) (sh : α → β) : Prop := ∀ (lo hi lo' hi' : Nat) (M M' : Mem) x us us', P.rd lo hi M x us → Marked lo' hi' M M' → Mkl us us' → ∃ x', sh x' = sh x ∧ P.rd lo hi M' x' us'
theorem StP.imp {γ : Type} {P : RecP α k} {sh : α → β} {sh' : α → γ} (h : StP P sh) (hi : ∀ x y, sh x = sh y → sh' x = sh' y) : StP P sh' := fun lo hi' lo' hi2 M M' x us us' a b c => by
  obtain ⟨x', e, hx⟩ := h lo hi' lo' hi2 M M' x us us' a b c
  exact ⟨x', hi _ _ e, hx⟩
theorem SlP.marked [Inhabited α] {P : RecP α k} {sh : α → β} (hs : StP P sh) {lo hi lo' hi' : Nat} {M M' : Mem} {A : Option Addr} {n : Nat} {l : List α} (h : SlP P lo hi M A n l) (hm : Marked lo' hi' M M') : ∃ l', l'.map sh = l.map sh ∧ SlP P lo hi M' A n l' := by
  by_cases hn : 0 < n
  · obtain ⟨id, off, e, h1, h2, h3, h4⟩ := h.2 hn
    have each : ∀ i, i < n → ∃ x', sh x' = sh (el l i) ∧ ∃ us, P.rd lo hi M' x' us ∧ Cl M' id (off + i * k) us := fun i hi => by
      obtain ⟨us, a, b⟩ := h4 i hi
      obtain ⟨us', c, d⟩ := hm.cl b
      obtain ⟨x', f, g⟩ := hs _ _ _ _ _ _ _ _ _ a hm d
      exact ⟨x', f, us', g, c⟩
    obtain ⟨V, hV⟩ := chooseN (α := α) (p := fun i x' => sh x' = sh (el l i) ∧ ∃ us, P.rd lo hi M' x' us ∧ Cl M' id (off + i * k) us) each
    have hel : ∀ i, i < n → el ((List.range n).map V) i = V i := fun i hi => by simp [el, hi]
    refine ⟨(List.range n).map V, ?_, by simp, fun _ => ⟨id, off, e, h1, h2, hm.esz h3, fun i hi => ?_⟩⟩
    · apply List.ext_getElem
      · simp [h.1]
      · intro i a b
        simp at a b
        simp [(hV i a).1, el_eq b]
    · rw [hel i hi]
      exact (hV i hi).2
  · have hn0 : n = 0 := by omega
    subst hn0
    exact ⟨l, rfl, h.1, fun h => by omega⟩
theorem SlV.marked [Inhabited α] {P : RecP α k} {sh : α → β} (hs : StP P sh) {lo hi lo' hi' : Nat} {M M' : Mem} {u : Value} {l : List α} (h : SlV P lo hi M u l) (hm : Marked lo' hi' M M') : ∃ l', l'.map sh = l.map sh ∧ SlV P lo hi M' u l' := by
  obtain ⟨A, n, c, e, h1, h2, h3⟩ := h
  obtain ⟨l', a, b⟩ := h3.marked hs hm
  exact ⟨l', a, A, n, c, e, h1, h2, b⟩
end
theorem Marked.app {lo hi : Nat} {M M' L : Mem} (h : Marked lo hi (M ++ L) M') : Marked lo hi M M' := ⟨Nat.le_trans (by simp) h.1, fun i s hs => h.2 i s (by rw [List.getElem?_append_left (List.getElem?_eq_some_iff.1 hs).1]; exact hs)⟩
theorem OwnR.app {lo hi : Nat} {M : Mem} (h : OwnR lo hi M) (hh : hi ≤ M.length) (L : Mem) : OwnR lo hi (M ++ L) := h.agree (Agree.app L) hh
end Go.Proofs.Ytimijeeihicohaa

namespace Go.Proofs.Ytimijeeihicohaa
open Go.RowKit
set_option linter.unusedVariables false
set_option linter.unusedSimpArgs false
set_option maxRecDepth 100000
attribute [local simp] List.getElem?_cons_zero
attribute [local irreducible] awCond awCall awLoop awDraw ow retQ retC resQ Keeps
section
variable {α : Type} {k : Nat} [Inhabited α]
end
end Go.Proofs.Ytimijeeihicohaa

namespace Go.Proofs.Ytimijeeihicohaa
open Go.RowKit
set_option linter.unusedVariables false
set_option linter.unusedSimpArgs false
set_option maxRecDepth 100000
attribute [local simp] List.getElem?_cons_zero
attribute [local irreducible] awCond awCall awLoop awDraw ow retQ retC resQ Keeps
theorem Acc.turn {α : Type} {k : Nat} {R : RecV α k} {e : TypeId} {B lo hi : Nat} {M M' : Mem} {v : Value} {l : List α} (h : Acc R e B M v l) (ht : Turn lo hi M M') (hb : hi ≤ B) : Acc R e B M' v l := by
  obtain ⟨A, n, c, h1, h2, h3⟩ := h
  refine ⟨A, n, c, h1, h2, ?_⟩
  rcases h3 with h3 | ⟨id, t, h4, h5, h6⟩
  · exact .inl h3
  · exact .inr ⟨id, t, h4, h5, ht.2 id _ h6 (.inr (by omega))⟩
theorem Ctl.turn {M M' : Mem} {B oid i0 i1 i2 lo hi : Nat} {v0 v1 v2 : Value} {l0 l1 l2 : List Int} (h : Ctl M B oid i0 i1 i2 v0 v1 v2 l0 l1 l2) (ht : Turn lo hi M M') (hb : hi ≤ B) : Ctl M' B oid i0 i1 i2 v0 v1 v2 l0 l1 l2 :=
  ⟨h.low, ⟨h.orow.choose, ht.2 _ _ h.orow.choose_spec (.inr (by have := h.low; omega))⟩, h.r0.keep fun s hs => ht.2 _ _ hs (.inr (by have := h.r0.low; omega)), h.r1.keep fun s hs => ht.2 _ _ hs (.inr (by have := h.r1.low; omega)), h.r2.keep fun s hs => ht.2 _ _ hs (.inr (by have := h.r2.low; omega)), h.apart⟩
/-- No list, or three lists in rows of one's own. -/
def CtO (B : Nat) (M : Mem) (u : Value) (ls : List (List Int)) : Prop :=
  (ls = [] ∧ u = .slice none 0 0) ∨ ∃ oid i0 i1 i2 v0 v1 v2 l0 l1 l2, u = .slice (some ⟨oid, 0, none⟩) 3 3 ∧ ls = [l0, l1, l2] ∧ Ctl M B oid i0 i1 i2 v0 v1 v2 l0 l1 l2
theorem CtO.keeps {B : Nat} {M M' : Mem} {u : Value} {ls : List (List Int)} (h : CtO B M u ls) (hk : Keeps M M') : CtO B M' u ls := by
  rcases h with h | ⟨oid, i0, i1, i2, v0, v1, v2, l0, l1, l2, e, e2, h⟩
  · exact .inl h
  · exact .inr ⟨_, _, _, _, _, _, _, _, _, _, e, e2, h.keeps hk⟩
theorem CtO.turn {B lo hi : Nat} {M M' : Mem} {u : Value} {ls : List (List Int)} (h : CtO B M u ls) (ht : Turn lo hi M M') (hb : hi ≤ B) : CtO B M' u ls := by
  rcases h with h | ⟨oid, i0, i1, i2, v0, v1, v2, l0, l1, l2, e, e2, h⟩
  · exact .inl h
  · exact .inr ⟨_, _, _, _, _, _, _, _, _, _, e, e2, h.turn ht hb⟩
theorem Row1.slv {M : Mem} {B id : Nat} {v : Value} {l : List Int} (h : Row1 M B v id l) (hl : l.length ≤ 4000) : tabP.rd B M.length M l [v] := by
  obtain ⟨h1, t, c, rfl, h3⟩ := h
  have hlt := (List.getElem?_eq_some_iff.1 h3).1
  refine ⟨_, rfl, _, _, c, rfl, by omega, (fun h => by cases h), SlP.of_sl ⟨rfl, fun _ => ⟨id, 0, rfl, by simp [rowEsz, h3], fun j x hx => by simp [cellAt, h3, hx]⟩⟩ fun a e _ => ?_⟩
  injection e with e
  subst e
  exact ⟨h1, hlt⟩
theorem CtO.slv {B : Nat} {M : Mem} {u : Value} {ls : List (List Int)} (h : CtO B M u ls) (hl : ∀ l, l ∈ ls → l.length ≤ 4000) : SlV tabP B M.length M u ls := by
  rcases h with ⟨rfl, rfl⟩ | ⟨oid, i0, i1, i2, v0, v1, v2, l0, l1, l2, rfl, rfl, h⟩
  · exact .nil
  · obtain ⟨e, he⟩ := h.orow
    refine ⟨_, 3, 3, rfl, by omega, (fun h => by cases h), rfl, fun _ => ⟨oid, 0, rfl, h.low, (List.getElem?_eq_some_iff.1 he).1, by simp [rowEsz, he], fun i hi => ?_⟩⟩
    have hc : i = 0 ∨ i = 1 ∨ i = 2 := by omega
    rcases hc with rfl | rfl | rfl
    · exact ⟨[v0], h.r0.slv (hl _ (by simp)), cl_cons.2 ⟨by simp [cellAt, he], cl_nil⟩⟩
    · exact ⟨[v1], h.r1.slv (hl _ (by simp)), cl_cons.2 ⟨by simp [cellAt, he], cl_nil⟩⟩
    · exact ⟨[v2], h.r2.slv (hl _ (by simp)), cl_cons.2 ⟨by simp [cellAt, he], cl_nil⟩⟩
def ctV (x : Inst) (l : List Gate) (N : Int) : List (List Int) × Int := if codeV x l N true = 0 then ([mkC N.toNat (allP l) (ctl0 x l), mkC N.toNat (allP l) (ctl1 x l), mkC N.toNat (allP l) (ctl2 x l)], 0) else ([], codeV x l N true)
def CtS (x : Inst) (l : List Gate) (N : Int) (M : Mem) (r : Value) (M' : Mem) : Prop := ∃ u, r = .tuple #[u, iv (ctV x l N).2] ∧ CtO M.length M' u (ctV x l N).1 ∧ Same M.length M M'
theorem CtR.s {x : Inst} {l : List Gate} {N : Int} {M M' : Mem} {r : Value} (h : CtR x l N M r M') : CtS x l N M r M' := by
  obtain ⟨hs, h | h⟩ := h
  · obtain ⟨hc, oid, i0, i1, i2, v0, v1, v2, rfl, h⟩ := h
    unfold CtS ctV
    rw [if_pos hc]
    exact ⟨_, rfl, .inr ⟨_, _, _, _, _, _, _, _, _, _, rfl, rfl, h⟩, hs⟩
  · obtain ⟨hc, rfl⟩ := h
    unfold CtS ctV
    rw [if_neg hc]
    exact ⟨_, rfl, .inl ⟨rfl, rfl⟩, hs⟩
end Go.Proofs.Ytimijeeihicohaa

namespace Go.Proofs.Ytimijeeihicohaa
open Go.RowKit
set_option linter.unusedVariables false
set_option linter.unusedSimpArgs false
set_option maxRecDepth 100000
attribute [local simp] List.getElem?_cons_zero
attribute [local irreducible] awCond awCall awLoop awDraw ow retQ retC resQ Keeps
def ctlL (x : Inst) (l : List Gate) (N : Nat) : List (List Int) := [mkC N (allP l) (ctl0 x l), mkC N (allP l) (ctl1 x l), mkC N (allP l) (ctl2 x l)]
def voL (x : Inst) (l : List Gate) (N : Nat) : List Int := (rendS x.pat (ctlL x l N) N).1
theorem voL_len {x : Inst} {l : List Gate} {N : Nat} : (voL x l N).length = N := rendS_len N
theorem patB_of {p : Patch} (h : patB p = true) : formB p = true ∧ (ordL p.nodes).length = p.nodes.length := by
  unfold patB at h
  simpa using h
theorem instB_pat {x : Inst} (h : instB x = true) : formB x.pat = true ∧ (ordL x.pat.nodes).length = x.pat.nodes.length ∧ x.pat.inp = 3 ∧ x.pat.outs.length = 1 ∧ 0 < x.pat.nodes.length := by
  unfold instB at h
  simp only [Bool.and_eq_true, decide_eq_true_eq] at h
  obtain ⟨h1, h2, h3, -⟩ := h
  obtain ⟨a, b⟩ := patB_of h1
  refine ⟨a, b, h2, h3, ?_⟩
  have hi : idxB x.pat.nodes.length x.pat.outs = true := by
    unfold formB at a
    simp only [Bool.and_eq_true] at a
    exact a.1.2
  have := inB_iff.1 (List.all_eq_true.1 hi _ (el_mem (l := x.pat.outs) (i := 0) (by omega)))
  omega
theorem Play.thin {B B' : Nat} {M : Mem} {us : List Value} {p : Patch} {PB oid vid cid : Nat} {vals : List Int} {vs : List Value} {cs : List (List Int)} {Y : Nat → Prop} (h : Play Y B M us p PB oid vid cid vals vs cs) (hb : B' ≤ B) : Play Y B' M us p PB oid vid cid vals vs cs :=
  ⟨⟨Nat.le_trans hb h.low.1, Nat.le_trans hb h.low.2.1, Nat.le_trans hb h.low.2.2.1, Nat.le_trans hb h.low.2.2.2⟩, h.box, h.ord, h.val, h.cel, h.len, h.elt, h.ne⟩
def RendK (M : Mem) (l : List Int) (r : Value) (M' : Mem) : Prop := ∃ uid v lo3 hi3, r = .slice (some ⟨uid, 0, none⟩) 1 1 ∧ cellAt M' uid 0 = some v ∧ rowEsz M' uid = some 1 ∧ SlV intP lo3 hi3 M' v l ∧ Keeps M M'
theorem render_i {M : Mem} {lo hi lo2 hi2 N : Nat} {us : List Value} {p : Patch} {ins : List (List Int)} {iw : Value} (h : patchP.rd lo hi M p us) (hf : formB p = true) (ho : (ordL p.nodes).length = p.nodes.length) (h0 : 0 < p.nodes.length) (hins : SlV tabP lo2 hi2 M iw ins) (hin : p.inp = ins.length) (hout : p.outs.length = 1) (hN : N ≤ 4000) (hM : hi ≤ M.length ∧ hi2 ≤ M.length) :
    Ctr Try.prog M.length 91 [.agg us.toArray, iw, iv N] M fun r M' => RendK M (rendS p ins N).1 r M' := by
  obtain ⟨hn24, hidx, hnF⟩ := formB_nodes hf
  have hok : ∀ y, y ∈ p.nodes → NodeOk p y := fun y hy => nodeF_ok (hnF y hy)
  obtain ⟨A1, n1, c1, A2, n2, c2, A3, n3, c3, rfl⟩ := patch_isV h
  obtain ⟨Ai, ni, ci, rfl, w1, w2, w3⟩ := id hins
  first | (refine ctr_fn Try.func91 rfl Try.ntmps91 Try.results91 rfl rfl (by simp) ?_) | (refine ctr_fnC Try.func91 rfl Try.ntmps91 Try.results91 rfl (by simp) ?_)
  simp
  obtain ⟨M0, hM0⟩ : ∃ M0 : Mem, M0 = M ++ [Slot.live ⟨[iv p.inp, .slice A1 n1 c1, .slice A2 n2 c2, .slice A3 n3 c3], true, true, 48, 4⟩] := ⟨_, rfl⟩
  have k0 : Keeps M M0 := by rw [hM0]; exact keeps_app _
  have l0 : M0.length = M.length + 1 := by rw [hM0]; simp
  have b4 : cellsAt M0 M.length 0 4 = some [iv p.inp, .slice A1 n1 c1, .slice A2 n2 c2, .slice A3 n3 c3] := by rw [hM0]; simp
  rw [← hM0]
  clear hM0
  refine awDraw_K (fun j => if j = 2 ∨ j = 3 then [6] else []) (fun k v M' => match k with
    | 0 => v = .agg #[iv p.inp, .slice A1 n1 c1, .slice A2 n2 c2, .slice A3 n3 c3]
    | 1 => v = .agg #[iv p.inp, .slice A1 n1 c1, .slice A2 n2 c2, .slice A3 n3 c3]
    | 2 => ∃ sv lo hi, v = .agg #[sv] ∧ SlV tabP lo hi M' sv (p.nodes.map startV)
    | 3 => ∃ PB oid vid cid vs, v = .pointer (some ⟨PB, 0, none⟩) ∧ Play (fun i => i = vid ∨ i = cid) M0.length M' [iv p.inp, .slice A1 n1 c1, .slice A2 n2 c2, .slice A3 n3 c3] p PB oid vid cid (List.replicate p.nodes.length 0) vs (p.nodes.map startV)
    | 4 => v = .slice Ai ni ci
    | 5 => v = iv N
    | 6 => RendK M (rendS p ins N).1 v M'
    | 7 => RendK M (rendS p ins N).1 v M'
    | _ => True) ?_ (by kernel_rfl) (by decide +kernel) (by decide +kernel) ?_ ?_
  · intro k v M1 M2 h hk
    have rk : RendK M (rendS p ins N).1 v M1 → RendK M (rendS p ins N).1 v M2 := fun ⟨uid, w, lo3, hi3, a, b, c, d, e⟩ => ⟨uid, w, lo3, hi3, a, cellAt_keeps hk b, rowEsz_keeps hk c, d.keeps hk, e.trans hk⟩
    rcases k with _ | _ | _ | _ | _ | _ | _ | _ | k
    · exact h
    · exact h
    · obtain ⟨sv, lo, hi, a, b⟩ := h
      exact ⟨sv, lo, hi, a, b.keeps hk⟩
    · obtain ⟨PB, oid, vid, cid, vs, a, b⟩ := h
      exact ⟨PB, oid, vid, cid, vs, a, Play.keeps b hk⟩
    · exact h
    · exact h
    · exact rk h
    · exact rk h
    · trivial
  · intro X k o T M1 K hC hX hk hp' hf' ho' hK
    have kk1 := k0.trans hk
    have lk : M0.length ≤ M1.length := hk.len
    have t3 := hf' 3 (by decide +kernel)
    have t1 := hf' 1 (by decide +kernel)
    have t2 := hf' 2 (by decide +kernel)
    simp at t3 t1 t2
    rcases k with _ | _ | _ | _ | _ | _ | _ | _ | k
    · simp at ho'; subst ho'
      simp [t3, cellsAt_keeps hk b4]
      exact hK _ _ (.inl (Keeps.refl _)) rfl
    · simp at ho'; subst ho'
      simp [t3, cellsAt_keeps hk b4]
      exact hK _ _ (.inl (Keeps.refl _)) rfl
    · obtain ⟨v, d, q⟩ := hp' 1 8 (by decide +kernel) rfl
      rw [q (by simp)] at d
      simp at ho'; subst ho'
      simp [d]
      refine awCall_ctr ((startState_i (patchP.keeps h kk1) hok hn24).weaken (by omega)) ?_
      rintro _ M2 ⟨v, rfl, hL, k1⟩
      exact hK _ _ (.inl k1) ⟨v, _, _, rfl, hL.slv (fun c hc => by
        obtain ⟨k, hk, rfl⟩ := List.getElem_of_mem hc
        simp at hk ⊢
        exact startV_small (hok _ (List.getElem_mem _))) (by simp; omega)⟩
    · obtain ⟨v7, d7, q7⟩ := hp' 0 7 (by decide +kernel) rfl
      obtain ⟨v9, d9, q9⟩ := hp' 2 9 (by decide +kernel) rfl
      rw [q7 (by simp)] at d7
      obtain ⟨sv, lo9, hi9, rfl, hsv⟩ := q9 (fun z hz => by simp at hz; subst hz; cases hx : X 6 with | false => rfl | true => rw [hC.at_ 3 hx (by decide +kernel)] at hX; cases hX)
      simp at ho'; subst ho'
      simp [d7, d9]
      refine awCall_ctr ((playerOf_i (patchP.keeps h kk1) hsv hf ho (rendS_ok (ins := []) hok 0) h0).weaken (by omega)) ?_
      rintro _ M2 ⟨PB, oid, vid, cid, vs, rfl, hP, k2⟩
      exact hK _ _ (.inl k2) ⟨PB, oid, vid, cid, vs, rfl, hP.thin (by omega)⟩
    · simp at ho'; subst ho'
      simp [t1]
      exact hK _ _ (.inl (Keeps.refl _)) rfl
    · simp at ho'; subst ho'
      simp [t2]
      exact hK _ _ (.inl (Keeps.refl _)) rfl
    · obtain ⟨v10, d10, q10⟩ := hp' 3 10 (by decide +kernel) rfl
      obtain ⟨v11, d11, q11⟩ := hp' 4 11 (by decide +kernel) rfl
      obtain ⟨v12, d12, q12⟩ := hp' 5 12 (by decide +kernel) rfl
      obtain ⟨PB, oid, vid, cid, vs, rfl, hP⟩ := q10 (by simpa using hX)
      rw [q11 (by simp)] at d11
      rw [q12 (by simp)] at d12
      have hlow := hP.low
      simp at ho'; subst ho'
      simp [d10, d11, d12]
      refine awCall_ctr (block_i (N := N) hP (patchP.keeps h kk1) hf ho (hins.keeps kk1) hin hout hN (fun i h1 h2 hx => by rcases hx with e | e <;> omega) (fun i h1 h2 hx => by rcases hx with e | e <;> omega) ⟨by omega, by omega⟩ (by omega) (by omega)) ?_
      rintro r M3 ⟨uid, w, lo3, hi3, rfl, f1, f2, f3, f4⟩
      have kM0 : Keeps M0 M3 := by
        unfold Keeps
        exact fun i s hs => f4.2 i s (fun hx => by have := (List.getElem?_eq_some_iff.1 hs).1; rcases hx with e | e <;> omega) (hk.get hs)
      have kM := k0.trans kM0
      refine hK _ _ (.inr ⟨?_, fun j u hj hkj hju => ?_⟩) ⟨uid, w, lo3, hi3, rfl, f1, f2, f3, kM⟩
      · exact kM0
      · rcases j with _ | _ | _ | _ | _ | _ | _ | _ | j
        · exact hju
        · exact hju
        · simp at hkj
        · simp at hkj
        · exact hju
        · exact hju
        · rw [hX] at hj; cases hj
        · rw [hC.at_ 6 hj (by decide +kernel)] at hX; cases hX
        · trivial
    · obtain ⟨v, d, q⟩ := hp' 6 13 (by decide +kernel) rfl
      have q := q (by simp)
      simp at ho'; subst ho'
      simp [d]
      exact hK _ _ (.inl (Keeps.refl _)) q
    · simp at ho'
  · intro T M1 hk hp' hf'
    obtain ⟨v, d, q⟩ := hp' 7 6 (by simp) rfl
    have q := q (by simp)
    simp [d]
    exact q
set_option maxHeartbeats 1000000 in
theorem voice_x {M : Mem} {lo hi : Nat} {us : List Value} {x : Inst} {A : Option Addr} {n c N : Nat} {l : List Gate} (h : instP.rd lo hi M x us) (hb : instB x = true) (hg : Sl gateR M A n l) (hok : okG l = true) (hN : N ≤ 4000) (hM : hi ≤ M.length) :
    Det Try.prog M.length 59 [.agg us.toArray, .slice A n c, iv N] M (.slice (some ⟨M.length, 0, none⟩) (voL x l N).length (voL x l N).length) (M ++ [.live (rowI (voL x l N))]) := by
  refine Ctr.compact (rowI_plain _) ?_
  obtain ⟨f1, f2, f3, f4, f5⟩ := instB_pat hb
  have h' := h
  obtain ⟨ps, es, w, rfl, hp, he, hw⟩ := h'
  obtain ⟨A1, n1, c1, A2, n2, c2, A3, n3, c3, rfl⟩ := patch_isV hp
  obtain ⟨A4, n4, c4, rfl⟩ := env_isV he
  obtain ⟨A5, n5, c5, rfl⟩ := hw.isSl
  first | (refine ctr_fn Try.func59 rfl Try.ntmps59 Try.results59 rfl rfl (by simp) ?_) | (refine ctr_fnC Try.func59 rfl Try.ntmps59 Try.results59 rfl (by simp) ?_)
  simp
  obtain ⟨M0, hM0⟩ : ∃ M0 : Mem, M0 = M ++ [Slot.live ⟨[iv x.pat.inp, .slice A1 n1 c1, .slice A2 n2 c2, .slice A3 n3 c3, iv x.env.st, .slice A4 n4 c4, iv x.env.rel, .slice A5 n5 c5], true, true, 53, 8⟩] := ⟨_, rfl⟩
  have k0 : Keeps M M0 := by rw [hM0]; exact keeps_app _
  have l0 : M0.length = M.length + 1 := by rw [hM0]; simp
  have b4 : cellsAt M0 M.length 0 4 = some [iv x.pat.inp, .slice A1 n1 c1, .slice A2 n2 c2, .slice A3 n3 c3] := by rw [hM0]; simp
  have b8 : cellsAt M0 M.length 0 8 = some [iv x.pat.inp, .slice A1 n1 c1, .slice A2 n2 c2, .slice A3 n3 c3, iv x.env.st, .slice A4 n4 c4, iv x.env.rel, .slice A5 n5 c5] := by rw [hM0]; simp
  rw [← hM0]
  clear hM0
  refine awDraw_K (fun _ => []) (fun k v M' => match k with
    | 0 => v = .pointer (some ⟨M.length, 0, none⟩)
    | 1 => v = .agg #[iv x.pat.inp, .slice A1 n1 c1, .slice A2 n2 c2, .slice A3 n3 c3]
    | 2 => v = .agg #[iv x.pat.inp, .slice A1 n1 c1, .slice A2 n2 c2, .slice A3 n3 c3, iv x.env.st, .slice A4 n4 c4, iv x.env.rel, .slice A5 n5 c5]
    | 3 => v = .slice A n c
    | 4 => v = iv N
    | 5 => ∃ lo hi, SlV tabP lo hi M' v (ctlL x l N) ∧ hi ≤ M'.length
    | 6 => v = iv N
    | 7 => ∃ uid w lo3 hi3, v = .slice (some ⟨uid, 0, none⟩) 1 1 ∧ cellAt M' uid 0 = some w ∧ rowEsz M' uid = some 1 ∧ SlV intP lo3 hi3 M' w (voL x l N)
    | 8 => ∃ uid w lo3 hi3, v = .pointer (some ⟨uid, 0, none⟩) ∧ cellAt M' uid 0 = some w ∧ SlV intP lo3 hi3 M' w (voL x l N)
    | 9 => ∃ lo3 hi3, SlV intP lo3 hi3 M' v (voL x l N)
    | 10 => NewRow M v M' (voL x l N).length (rowI (voL x l N))
    | 11 => NewRow M v M' (voL x l N).length (rowI (voL x l N))
    | _ => True) ?_ (by kernel_rfl) (by decide +kernel) (by decide +kernel) ?_ ?_
  · intro k v M1 M2 h hk
    rcases k with _ | _ | _ | _ | _ | _ | _ | _ | _ | _ | _ | _ | k
    · exact h
    · exact h
    · exact h
    · exact h
    · exact h
    · obtain ⟨lo, hi, a, b⟩ := h
      exact ⟨lo, hi, a.keeps hk, Nat.le_trans b hk.len⟩
    · exact h
    · obtain ⟨uid, w, lo3, hi3, a, b, c, d⟩ := h
      exact ⟨uid, w, lo3, hi3, a, cellAt_keeps hk b, rowEsz_keeps hk c, d.keeps hk⟩
    · obtain ⟨uid, w, lo3, hi3, a, b, d⟩ := h
      exact ⟨uid, w, lo3, hi3, a, cellAt_keeps hk b, d.keeps hk⟩
    · obtain ⟨lo3, hi3, d⟩ := h
      exact ⟨lo3, hi3, d.keeps hk⟩
    · exact NewRow.keeps h hk
    · exact NewRow.keeps h hk
    · trivial
  · intro X k o T M1 K hC hX hk hp' hf ho' hK
    have kk1 := k0.trans hk
    have lk : M0.length ≤ M1.length := hk.len
    have f3' := hf 3 (by decide +kernel)
    have t1 := hf 1 (by decide +kernel)
    have t2 := hf 2 (by decide +kernel)
    simp at f3' t1 t2
    rcases k with _ | _ | _ | _ | _ | _ | _ | _ | _ | _ | _ | _ | k
    · simp at ho'; subst ho'
      simp [f3']
      exact hK _ _ (.inl (Keeps.refl _)) rfl
    · obtain ⟨v, d, q⟩ := hp' 0 7 (by decide +kernel) rfl
      rw [q (by simp)] at d
      simp at ho'; subst ho'
      simp [d, cellsAt_keeps hk b4]
      exact hK _ _ (.inl (Keeps.refl _)) rfl
    · simp at ho'; subst ho'
      simp [f3', cellsAt_keeps hk b8]
      exact hK _ _ (.inl (Keeps.refl _)) rfl
    · simp at ho'; subst ho'
      simp [t1]
      exact hK _ _ (.inl (Keeps.refl _)) rfl
    · simp at ho'; subst ho'
      simp [t2]
      exact hK _ _ (.inl (Keeps.refl _)) rfl
    · obtain ⟨v9, d9, q9⟩ := hp' 2 9 (by decide +kernel) rfl
      obtain ⟨v10, d10, q10⟩ := hp' 3 10 (by decide +kernel) rfl
      obtain ⟨v11, d11, q11⟩ := hp' 4 11 (by decide +kernel) rfl
      rw [q9 (by simp)] at d9
      rw [q10 (by simp)] at d10
      rw [q11 (by simp)] at d11
      simp at ho'; subst ho'
      simp [d9, d10, d11]
      refine awCall_ctr (controls_i (instP.keeps h kk1) hb (hg.keeps kk1) hok hN (by omega)) ?_
      rintro _ M2 ⟨oid, i0, i1, i2, v0, v1, v2, rfl, hCt, hS⟩
      refine hK _ _ (.inl (slt hS)) ⟨M1.length, M2.length, ?_, Nat.le_refl _⟩
      refine CtO.slv (.inr ⟨_, _, _, _, _, _, _, _, _, _, rfl, rfl, hCt⟩) fun q hq => ?_
      simp [ctlL] at hq
      rcases hq with rfl | rfl | rfl <;> (rw [mkC_len]; omega)
    · simp at ho'; subst ho'
      simp [t2]
      exact hK _ _ (.inl (Keeps.refl _)) rfl
    · obtain ⟨v8, d8, q8⟩ := hp' 1 8 (by decide +kernel) rfl
      obtain ⟨v12, d12, q12⟩ := hp' 5 12 (by decide +kernel) rfl
      obtain ⟨v13, d13, q13⟩ := hp' 6 13 (by decide +kernel) rfl
      rw [q8 (by simp)] at d8
      rw [q13 (by simp)] at d13
      obtain ⟨lo9, hi9, hct, hhi⟩ := q12 (by simp)
      simp at ho'; subst ho'
      simp [d8, d12, d13]
      refine awCall_ctr ((render_i (N := N) (patchP.keeps hp kk1) f1 f2 f5 hct (by rw [f3]; rfl) f4 hN ⟨by omega, hhi⟩).weaken (by omega)) ?_
      rintro _ M2 ⟨uid, w, lo3, hi3, rfl, g1, g2, g3, g4⟩
      exact hK _ _ (.inl g4) ⟨uid, w, lo3, hi3, rfl, g1, g2, g3⟩
    · obtain ⟨v, d, q⟩ := hp' 7 14 (by decide +kernel) rfl
      obtain ⟨uid, w, lo3, hi3, rfl, g1, g2, g3⟩ := q (by simp)
      simp at ho'; subst ho'
      simp [d, g2]
      exact hK _ _ (.inl (Keeps.refl _)) ⟨uid, w, lo3, hi3, rfl, g1, g3⟩
    · obtain ⟨v, d, q⟩ := hp' 8 15 (by decide +kernel) rfl
      obtain ⟨uid, w, lo3, hi3, rfl, g1, g3⟩ := q (by simp)
      simp at ho'; subst ho'
      simp [d, g1]
      exact hK _ _ (.inl (Keeps.refl _)) ⟨lo3, hi3, g3⟩
    · obtain ⟨v, d, q⟩ := hp' 9 16 (by decide +kernel) rfl
      obtain ⟨lo3, hi3, g3⟩ := q (by simp)
      simp at ho'; subst ho'
      simp [d]
      refine awCall_det' (clone_x g3 (by rw [voL_len]; omega)) (by omega) ?_
      exact hK _ _ (.inl (keeps_app _)) (newRow_in (t := false) rfl (by omega) (by simp [rowI]))
    · obtain ⟨v, d, q⟩ := hp' 10 17 (by decide +kernel) rfl
      have q := q (by simp)
      simp at ho'; subst ho'
      simp [d]
      exact hK _ _ (.inl (Keeps.refl _)) q
    · simp at ho'
  · intro T M1 hk hp' hf
    obtain ⟨v, d, q⟩ := hp' 11 6 (by simp) rfl
    have q := q (by simp)
    simp [d]
    exact ⟨q, k0.trans hk⟩
def voV (x : Inst) (l : List Gate) (N : Int) : List Int × Int := if codeV x l N true = 0 then (voL x l N.toNat, 0) else ([], codeV x l N true)
def VoO (B : Nat) (M : Mem) (u : Value) (l : List Int) : Prop := Acc intR 2 B M u l
def VoS (out : List Int × Int) (M : Mem) (r : Value) (M' : Mem) : Prop := ∃ u, r = .tuple #[u, iv out.2] ∧ VoO M.length M' u out.1 ∧ Same M.length M M'
theorem RenderVoice_i {M : Mem} {b lo hi : Nat} {us : List Value} {x : Inst} {A : Option Addr} {n c : Nat} {l : List Gate} (N : Int) (h : instP.rd lo hi M x us) (hM : hi ≤ M.length) (hg : Sl gateR M A n l) (hn : n ≤ 1099511627776) (hb : b ≤ M.length) :
    Ctr Try.prog b 27 [.agg us.toArray, .slice A n c, iv N] M fun r M' => VoS (voV x l N) M r M' := by
  have hl := instP.len h
  have ht : us.take 8 = us := List.take_of_length_le (by omega)
  first | (refine ctr_fn Try.func27 rfl Try.ntmps27 Try.results27 rfl rfl (by simp) ?_) | (refine ctr_fnC Try.func27 rfl Try.ntmps27 Try.results27 rfl (by simp) ?_)
  simp [hl, ht]
  refine awCall_det' (gatesCode_i N true (instP.app h _) (hg.keeps (keeps_app _)) hn) (by simp <;> omega) ?_
  by_cases hc : codeV x l N true = 0
  · obtain ⟨e1, e2, e3, e4, e5⟩ := codeV_ok hc
    have k3 := inB_iff.1 e3
    obtain ⟨K, rfl⟩ := Int.eq_ofNat_of_zero_le k3.1
    simp [hc, hl, ht]
    refine awCall_det' (voice_x (instP.app h _) e1 (hg.keeps (keeps_app _)) e2 (by omega) (by simp; omega)) (by simp <;> omega) ?_
    have hv : voV x l K = (voL x l K, 0) := by unfold voV; rw [if_pos hc]; rfl
    rw [hv]
    try simp
    have hA : VoO M.length (M ++ [Slot.live ⟨us, true, true, 53, 8⟩] ++ [.live (rowI (voL x l K))]) (.slice (some ⟨(M ++ [Slot.live ⟨us, true, true, 53, 8⟩]).length, 0, none⟩) (voL x l K).length (voL x l K).length) (voL x l K) := rowI_acc.low (by simp)
    simp at hA
    exact ⟨_, rfl, hA, Same.appS _ _⟩
  · simp [hc]
    have hv : voV x l N = ([], codeV x l N true) := by unfold voV; rw [if_neg hc]
    rw [hv]
    exact ⟨_, rfl, .nil, Same.appS _ _⟩
end Go.Proofs.Ytimijeeihicohaa

namespace Go.Proofs.Ytimijeeihicohaa
open Go.RowKit
set_option linter.unusedVariables false
set_option linter.unusedSimpArgs false
set_option maxRecDepth 100000
attribute [local simp] List.getElem?_cons_zero
attribute [local irreducible] awCond awCall awLoop awDraw ow retQ retC resQ Keeps
theorem smp_mod {x y : Int} (h : x % 4294967296 = y % 4294967296) : smp x = smp y := by unfold smp; omega
theorem smp_m (x : Int) : smp x % 4294967296 = x % 4294967296 := by unfold smp; omega
theorem smp_add2 (a b : Int) : smp (smp a + smp b) = smp (a + b) := smp_mod (by rw [Int.add_emod, smp_m, smp_m, ← Int.add_emod])
theorem smp_mul2 (a b : Int) : smp (smp a * smp b) = smp (a * b) := smp_mod (by rw [Int.mul_emod, smp_m, smp_m, ← Int.mul_emod])
theorem smp_addr (a b : Int) : smp (a + smp b) = smp (a + b) := smp_mod (by rw [Int.add_emod, smp_m, ← Int.add_emod])
end Go.Proofs.Ytimijeeihicohaa

namespace Go.Proofs.Ytimijeeihicohaa
open Go.RowKit
set_option linter.unusedVariables false
set_option linter.unusedSimpArgs false
set_option maxRecDepth 100000
attribute [local simp] List.getElem?_cons_zero
attribute [local irreducible] awCond awCall awLoop awDraw ow retQ retC resQ Keeps
end Go.Proofs.Ytimijeeihicohaa

namespace Go.Proofs.Ytimijeeihicohaa
open Go.RowKit
set_option linter.unusedVariables false
set_option linter.unusedSimpArgs false
set_option maxRecDepth 100000
attribute [local simp] List.getElem?_cons_zero
attribute [local irreducible] awCond awCall awLoop awDraw ow retQ retC resQ Keeps
end Go.Proofs.Ytimijeeihicohaa

namespace Go.Proofs.Ytimijeeihicohaa
open Go.RowKit
set_option linter.unusedVariables false
set_option linter.unusedSimpArgs false
set_option maxRecDepth 100000
attribute [local simp] List.getElem?_cons_zero
attribute [local irreducible] awCond awCall awLoop awDraw ow retQ retC resQ Keeps
end Go.Proofs.Ytimijeeihicohaa

namespace Go.Proofs.Ytimijeeihicohaa
open Go.RowKit
set_option linter.unusedVariables false
set_option linter.unusedSimpArgs false
set_option maxRecDepth 100000
attribute [local simp] List.getElem?_cons_zero
attribute [local irreducible] awCond awCall awLoop awDraw ow retQ retC resQ Keeps
theorem Off.cl {X : Nat → Prop} {M M' : Mem} {id off : Nat} {us : List Value} (h : Off X M M') (hx : ¬ X id) (hc : Cl M id off us) : Cl M' id off us := fun j y hy => by
  have := hc j y hy
  unfold cellAt at this ⊢
  cases hm : M[id]? with
  | none => rw [hm] at this; cases this
  | some s => rw [h.2 id s hx hm]; rw [hm] at this; exact this
end Go.Proofs.Ytimijeeihicohaa

namespace Go.Proofs.Ytimijeeihicohaa
open Go.RowKit
set_option linter.unusedVariables false
set_option linter.unusedSimpArgs false
set_option maxRecDepth 100000
attribute [local simp] List.getElem?_cons_zero
attribute [local irreducible] awCond awCall awLoop awDraw ow retQ retC resQ Keeps
theorem VoO.keeps {B : Nat} {M M' : Mem} {u : Value} {l : List Int} (h : VoO B M u l) (hk : Keeps M M') : VoO B M' u l := Acc.keeps h hk
theorem VoO.turn {B lo hi : Nat} {M M' : Mem} {u : Value} {l : List Int} (h : VoO B M u l) (ht : Turn lo hi M M') (hb : hi ≤ B) : VoO B M' u l := Acc.turn h ht hb
theorem VoO.slv {B : Nat} {M : Mem} {u : Value} {l : List Int} (h : VoO B M u l) (hl : l.length ≤ 4000) : SlV intP B M.length M u l := Acc.slv h (by omega)
end Go.Proofs.Ytimijeeihicohaa
