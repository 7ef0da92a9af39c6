/- Streams: events are read, byte by byte. No conditions. -/
import Derived.Test.YthopcmglcnlcfaaD1
namespace Go.Proofs.Ythopcmglcnlcfaa
open Go.RowKit
set_option linter.unusedVariables false
set_option linter.unusedSimpArgs false
set_option maxRecDepth 100000
attribute [local simp] List.getElem?_cons_zero
attribute [local irreducible] awCond awCall awLoop awDraw ow retQ retC resQ Keeps
def peekC (s : ByteArray) (p : Nat) (c : Int) : Int := if c = 0 then (if p < s.size then 0 else 11) else c
def peekV (s : ByteArray) (p : Nat) (c : Int) : Int := if c = 0 then (if p < s.size then strAt s p else 0) else 0
def dataC (s : ByteArray) (p : Nat) (c low : Int) : Int := if c = 0 then (dataD s p low).1 else c
theorem peek_i {M L : Mem} {b g p : Nat} {s : ByteArray} {st c : Int} {t : Bool} {e : TypeId} (hg : g < M.length) (hb : b ≤ g) (hs : s.size ≤ 1099511627776) (hp : c = 0 → p ≤ s.size) :
    Det Try.prog b 135 [.pointer (some ⟨g, 0, none⟩)] (M.set g (.live ⟨[.string s, iv p, iv st, iv c], true, t, e, 4⟩) ++ L) (iv (peekV s p c)) (M.set g (.live ⟨[.string s, iv p, iv st, iv (peekC s p c)], true, t, e, 4⟩) ++ L) := by
  have C := fun (off : Nat) (cs : List Value) => cellAt_setL (L := L) (off := off) (r := ⟨cs, true, t, e, 4⟩) hg
  have W := fun (a b' c' : Value) (d n : Int) => put_setL (L := L) (cs := [a, b', c', iv d]) (p := 3) (v := iv n) (t := t) (e := e) (z := 4) hg hb (by simp) rfl
  have hst := strAt_bd s p
  refine Ctr.det ?_
  first | (refine ctr_fn Try.func135 rfl Try.ntmps135 Try.results135 rfl rfl (by simp) ?_) | (refine ctr_fnC Try.func135 rfl Try.ntmps135 Try.results135 rfl (by simp) ?_)
  simp
  refine awDraw_E 15 [[],[0],[1,0],[2,1,0],[3,2,1,0],[4,3,2,1,0],[5,4,3,2,1,0],[6,5,4,3,2,1,0],[7,6,5,4,3,2,1,0],[8,7,6,5,4,3,2,1,0],[5,4,3,2,1,0],[10,5,4,3,2,1,0],[11,10,5,4,3,2,1,0],[12,11,10,5,4,3,2,1,0],[13,12,11,10,5,4,3,2,1,0],[9,8,7,6,5,4,3,2,1,0,14,13,12,11,10],[5,4,3,2,1,0,15,9,8,7,6,14,13,12,11,10]] (by kernel_rfl) (by kernel_rfl) ?_
  simp [C]
  by_cases h0 : c = 0
  · subst h0
    have hp' := hp rfl
    by_cases h1 : p < s.size
    · have h1' : ¬ (p : Int) = s.size := by omega
      have h1'' : ¬ p = s.size := by omega
      have g2 : (p : Int) < s.size := by omega
      simp [C, h1', h1'']
      refine awDraw_E 8 [[],[0],[1,0],[2,1,0],[],[4],[5,4],[6,5,4],[3,2,1,0,7,6,5,4],[8,3,2,1,0,7,6,5,4],[9,8,3,2,1,0,7,6,5,4]] (by kernel_rfl) (by kernel_rfl) ?_
      simp (disch := omega) [C, g2, h1, wrap_in, peekV, peekC]
    · have h1' : (p : Int) = s.size := by omega
      have h1'' : p = s.size := by omega
      simp [C, W, h1', h1'', peekV, peekC]
  · simp [C, h0, peekV, peekC]
theorem data_i {M L : Mem} {b g p : Nat} {s : ByteArray} {st c low : Int} {t : Bool} {e : TypeId} (hg : g < M.length) (hb : b ≤ g) (hs : s.size ≤ 1099511627776) (hp : c = 0 → p ≤ s.size) (hp2 : p ≤ 1099511627790) (hlow : 0 ≤ low) :
    Det Try.prog b 136 [.pointer (some ⟨g, 0, none⟩), iv low] (M.set g (.live ⟨[.string s, iv p, iv st, iv c], true, t, e, 4⟩) ++ L) (iv (peekV s p c)) (M.set g (.live ⟨[.string s, iv (p + 1 : Nat), iv st, iv (dataC s p c low)], true, t, e, 4⟩) ++ L) := by
  have C := fun (off : Nat) (cs : List Value) => cellAt_setL (L := L) (off := off) (r := ⟨cs, true, t, e, 4⟩) hg
  have W3 := fun (a b' c' : Value) (d n : Int) => put_setL (L := L) (cs := [a, b', c', iv d]) (p := 3) (v := iv n) (t := t) (e := e) (z := 4) hg hb (by simp) rfl
  have W1 := fun (a b' c' : Value) (d n : Int) => put_setL (L := L) (cs := [a, iv d, b', c']) (p := 1) (v := iv n) (t := t) (e := e) (z := 4) hg hb (by simp) rfl
  have hst := strAt_bd s p
  refine Ctr.det ?_
  first | (refine ctr_fn Try.func136 rfl Try.ntmps136 Try.results136 rfl rfl (by simp) ?_) | (refine ctr_fnC Try.func136 rfl Try.ntmps136 Try.results136 rfl (by simp) ?_)
  simp
  refine awCall_det' (peek_i hg hb hs hp) (Nat.le_refl _) ?_
  simp [C]
  by_cases h0 : peekC s p c = 0
  · have hc : c = 0 ∧ p < s.size := by
      unfold peekC at h0
      split at h0
      · split at h0
        · exact ⟨by assumption, by assumption⟩
        · cases h0
      · exact absurd h0 (by assumption)
    obtain ⟨rfl, h1⟩ := hc
    have hv : peekV s p 0 = strAt s p := by simp [peekV, h1]
    simp [h0, hv]
    refine awCall_det' (within_a _ _ _) (by simp; omega) ?_
    by_cases h2 : inB (strAt s p) low 127 = true
    · simp (disch := omega) [h2, hv, C, W1, wrap_in, dataC, dataD, h1]
    · simp at h2
      simp (disch := omega) [h2, hv, C, W1, W3, wrap_in, dataC, dataD, h1]
  · have hd : dataC s p c low = peekC s p c := by
      unfold dataC peekC
      by_cases hc : c = 0
      · rw [if_pos hc, if_pos hc]
        by_cases h1 : p < s.size
        · exact absurd (by simp [peekC, hc, h1]) h0
        · simp [dataD, h1]
      · rw [if_neg hc, if_neg hc]
    simp (disch := omega) [h0, C, W1, wrap_in, hd]
def EvI (g : Nat) (M : Mem) (s : ByteArray) (p : Nat) (t : Bool) (e : TypeId) (R : EvR) (r : Value) (M' : Mem) : Prop :=
  ∃ (ev : StreamEvent) (a z : Int), r = ev.v ∧ M'[g]? = some (.live ⟨[.string s, iv a, iv z, iv R.code], true, t, e, 4⟩) ∧ UpdG g M M' ∧ (R.code = 0 → ev = R.ev ∧ a = R.at_ ∧ z = R.st ∧ R.at_ ≤ s.size ∧ p < R.at_ ∧ (R.st = 0 ∨ (128 ≤ R.st ∧ R.st ≤ 159)))
theorem zr_build2 (a : Int) : Instr.fill (fun x => [(0, 1), (1, 1), (2, 1), (3, 1), (4, 1)][x]?) #[iv 0, iv 0, iv 0, iv 0, iv 0] [(1, iv a)] = some #[iv 0, iv a, iv 0, iv 0, iv 0] := by rfl
theorem getVF_bad (s : ByteArray) : ∀ f p n, (getVF s f p n).2.2 ≠ 0 → (getVF s f p n).2.1 = 0 ∧ (getVF s f p n).1 = 0
  | 0, p, n, h => by simp [getVF]
  | f + 1, p, n, h => by
    by_cases h1 : p < s.size
    · by_cases h2 : strAt s p < 128
      · rw [getVF_lo _ _ _ _ h1 h2] at h
        simp at h
      · rw [getVF_hi _ _ _ _ h1 h2] at h ⊢
        exact getVF_bad s f _ _ h
    · rw [getVF_ge _ _ _ _ (by omega)]
      simp
theorem peekC_ne {s : ByteArray} {p : Nat} {c : Int} (h : c ≠ 0) : peekC s p c = c := if_neg h
theorem peekV_ne {s : ByteArray} {p : Nat} {c : Int} (h : c ≠ 0) : peekV s p c = 0 := if_neg h
theorem dataC_ne {s : ByteArray} {p : Nat} {c low : Int} (h : c ≠ 0) : dataC s p c low = c := if_neg h
theorem dataC_0 {s : ByteArray} {p : Nat} {low : Int} : dataC s p 0 low = (dataD s p low).1 := if_pos rfl
theorem dataV_0 {s : ByteArray} {p : Nat} {low : Int} (h : (dataD s p low).1 = 0) : peekV s p 0 = (dataD s p low).2 := by
  have h1 := dataD_ok h
  unfold dataD at h ⊢
  rw [if_pos h1] at h ⊢
  split at h
  · rename_i h2
    simp [peekV, h1, h2]
  · cases h
set_option maxHeartbeats 4000000 in
theorem event_i {M : Mem} {b g p : Nat} {s : ByteArray} {st : Int} {t : Bool} {e : TypeId} (hr : M[g]? = some (.live ⟨[.string s, iv p, iv st, iv 0], true, t, e, 4⟩)) (hb : b ≤ g) (hs : s.size ≤ 1099511627776) (hp : p ≤ s.size) (hst : st = 0 ∨ (128 ≤ st ∧ st ≤ 159)) :
    Ctr Try.prog b 120 [.pointer (some ⟨g, 0, none⟩)] M fun r M' => EvI g M s p t e (evD s p st) r M' := by
  have hg := (List.getElem?_eq_some_iff.1 hr).1
  have hM : M = M.set g (.live ⟨[.string s, iv p, iv st, iv 0], true, t, e, 4⟩) := (set_self hr).symm
  have hbM : b ≤ M.length := by omega
  have C := fun (off : Nat) (cs : List Value) (L : Mem) => cellAt_setL (L := L) (off := off) (r := ⟨cs, true, t, e, 4⟩) hg
  have W1 := fun (a b' c : Value) (d n : Int) (L : Mem) => put_setL (L := L) (cs := [a, iv d, b', c]) (p := 1) (v := iv n) (t := t) (e := e) (z := 4) hg hb (by simp) rfl
  have W2 := fun (a b' c : Value) (d n : Int) (L : Mem) => put_setL (L := L) (cs := [a, b', iv d, c]) (p := 2) (v := iv n) (t := t) (e := e) (z := 4) hg hb (by simp) rfl
  have W3 := fun (a b' c : Value) (d n : Int) (L : Mem) => put_setL (L := L) (cs := [a, b', c, iv d]) (p := 3) (v := iv n) (t := t) (e := e) (z := 4) hg hb (by simp) rfl
  have fin : ∀ (c d j o k u a z : Int) (L : Mem), c ≠ 0 → EvI g M s p t e (.bad c) (.agg #[iv d, iv j, iv o, iv k, iv u]) (M.set g (.live ⟨[.string s, iv a, iv z, iv c], true, t, e, 4⟩) ++ L) :=
    fun c d j o k u a z L hc => ⟨⟨d, j, o, k, u⟩, a, z, rfl, set_getL hg, updG_set, fun h => absurd h hc⟩
  have good : ∀ (ev : StreamEvent) (q : Nat) (a z : Int) (L : Mem), a = q → q ≤ s.size → p < q → 128 ≤ z → z ≤ 159 → EvI g M s p t e ⟨0, ev, q, z⟩ (.agg #[iv ev.d, iv ev.j, iv ev.o, iv ev.k, iv ev.u]) (M.set g (.live ⟨[.string s, iv a, iv z, iv 0], true, t, e, 4⟩) ++ L) :=
    fun ev q a z L h0 h1 h2 h3 h4 => ⟨ev, a, z, rfl, set_getL hg, updG_set, fun _ => ⟨rfl, h0, rfl, h1, h2, .inr ⟨h3, h4⟩⟩⟩
  conv => arg 5; rw [hM]
  first | (refine ctr_fn Try.func120 rfl Try.ntmps120 Try.results120 rfl rfl (by simp) ?_) | (refine ctr_fnC Try.func120 rfl Try.ntmps120 Try.results120 rfl (by simp) ?_)
  simp (disch := omega) [zr_build2, C, W1, W2, W3, cellAt_setN0, cellAt_setN, putCells_setN0, putCells_setN, cellsAt_setN0, cellsAt_setN, wrap_in]
  refine awDraw_L 16 [[],[],[],[2],[3,2],[4,3,2],[],[6],[7,6],[8,7,6],[5,4,3,2,9,8,7,6],[10,5,4,3,2,9,8,7,6],[11,10,5,4,3,2,9,8,7,6],[11,10,5,4,3,2,9,8,7,6],[11,10,5,4,3,2,9,8,7,6],[2,3,4,5,6,7,8,9,10,11,12],[15,2,3,4,5,6,7,8,9,10,11,12],[0,2,3,4,5,6,7,8,9,10,11,12,13,15,16],[17,0,2,3,4,5,6,7,8,9,10,11,12,13,15,16],[18,17,0,2,3,4,5,6,7,8,9,10,11,12,13,15,16],[1,0,2,3,4,5,6,7,8,9,10,11,12,13,14,15,16,17,18,19],[20,1,0,2,3,4,5,6,7,8,9,10,11,12,13,14,15,16,17,18,19],[21,20,1,0,2,3,4,5,6,7,8,9,10,11,12,13,14,15,16,17,18,19]] [0,1,13,14] (by kernel_rfl) (by kernel_rfl) (by kernel_rfl) ?_
  simp [C]
  refine awCall_det' (GetVar_i s p hs) (by simp) ?_
  have hgv : getV s p = getVF s 4 p 0 := by unfold getV; rw [if_pos (inB_iff.2 ⟨by omega, by omega⟩)]; rfl
  rw [hgv]
  rcases hG : getVF s 4 p 0 with ⟨d, nx, c⟩
  by_cases hc : c = 0
  · subst hc
    obtain ⟨q, hq, hpq, hqs⟩ := getVF_ok s 4 p 0 hp (by rw [hG])
    rw [hG] at hq
    simp only at hq
    subst hq
    simp (disch := omega) [C, W1, W2, W3, cellAt_setN0, cellAt_setN, putCells_setN0, putCells_setN, cellsAt_setN0, cellsAt_setN, wrap_in]
    refine awCall_det' (peek_i (p := q) (st := st) (c := 0) hg hb hs (fun _ => hqs)) (Nat.le_refl _) ?_
    have hbd := strAt_bd s q
    by_cases h1 : q < s.size
    · have h1' : ¬ s.size ≤ q := by omega
      have e1 : peekC s q 0 = 0 := by simp [peekC, h1]
      have e2 : peekV s q 0 = strAt s q := by simp [peekV, h1]
      by_cases hb1 : strAt s q < 128
      · have hb1' : ¬ 128 ≤ strAt s q := by omega
        have hE : evD s p st = evT s d q st := by simp [evD, hG, hb1, h1']
        simp (disch := omega) [e1, e2, hb1', C, W1, W2, W3, cellAt_setN0, cellAt_setN, putCells_setN0, putCells_setN, cellsAt_setN0, cellsAt_setN, wrap_in]
        refine awCall_det' (within_a _ _ _) (by simp; omega) ?_
        by_cases hin : inB st 128 159 = true
        · have hin' := inB_iff.1 hin
          simp (disch := omega) [hin]
          have hmod : (st).tmod 16 = st % 16 := Int.tmod_eq_emod_of_nonneg (by omega)
          simp (disch := omega) [C, W1, W2, W3, cellAt_setN0, cellAt_setN, putCells_setN0, putCells_setN, cellsAt_setN0, cellsAt_setN, wrap_in, hmod]
          refine awCall_det' (data_i (p := q) (st := st) (c := 0) (low := 0) hg hb hs (fun _ => by omega) (by omega) (by omega)) (Nat.le_refl _) ?_
          by_cases k1 : (dataD s q 0).1 = 0
          · have kb := dataD_ok k1
            by_cases hz : 144 ≤ st
            · have hz' : ¬ st < 144 := by omega
              simp (disch := omega) [dataC_0, k1, dataV_0 k1, hz, C, W1, W2, W3, cellAt_setN0, cellAt_setN, putCells_setN0, putCells_setN, cellsAt_setN0, cellsAt_setN, wrap_in]
              refine awCall_det' (data_i (p := q + 1) (st := st) (c := 0) (low := 1) hg hb hs (fun _ => by omega) (by omega) (by omega)) (Nat.le_refl _) ?_
              by_cases k2 : (dataD s (q + 1) 1).1 = 0
              · have kb2 := dataD_ok k2
                have hE3 : evT s d q st = ⟨0, ⟨d, 1, st % 16, (dataD s q 0).2, (dataD s (q + 1) 1).2⟩, q + 1 + 1, st⟩ := by simp [evT, hin, k1, hz', k2]
                simp (disch := omega) [dataC_0, k2, dataV_0 k2, C, W1, W2, W3, cellAt_setN0, cellAt_setN, putCells_setN0, putCells_setN, cellsAt_setN0, cellsAt_setN, wrap_in]
                rw [hE, hE3]
                exact good ⟨d, 1, st % 16, (dataD s q 0).2, (dataD s (q + 1) 1).2⟩ (q + 1 + 1) _ st _ (by omega) (by omega) (by omega) (by omega) (by omega)
              · have hE3 : evT s d q st = .bad (dataD s (q + 1) 1).1 := by simp [evT, hin, k1, hz', k2]
                simp (disch := omega) [dataC_0, C, W1, W2, W3, cellAt_setN0, cellAt_setN, putCells_setN0, putCells_setN, cellsAt_setN0, cellsAt_setN, wrap_in]
                rw [hE, hE3]
                exact fin _ _ _ _ _ _ _ _ _ k2
            · have hz' : st < 144 := by omega
              have hE3 : evT s d q st = ⟨0, ⟨d, 2, st % 16, (dataD s q 0).2, 0⟩, q + 1, st⟩ := by simp [evT, hin, k1, hz']
              simp (disch := omega) [dataC_0, k1, dataV_0 k1, hz, C, W1, W2, W3, cellAt_setN0, cellAt_setN, putCells_setN0, putCells_setN, cellsAt_setN0, cellsAt_setN, wrap_in]
              rw [hE, hE3]
              exact good ⟨d, 2, st % 16, (dataD s q 0).2, 0⟩ (q + 1) _ st _ (by omega) (by omega) (by omega) (by omega) (by omega)
          · have hE3 : evT s d q st = .bad (dataD s q 0).1 := by simp [evT, hin, k1]
            by_cases hz : 144 ≤ st
            · simp (disch := omega) [dataC_0, hz, C, W1, W2, W3, cellAt_setN0, cellAt_setN, putCells_setN0, putCells_setN, cellsAt_setN0, cellsAt_setN, wrap_in]
              refine awCall_det' (data_i (p := q + 1) (st := st) (c := (dataD s q 0).1) (low := 1) hg hb hs (fun h => absurd h k1) (by omega) (by omega)) (Nat.le_refl _) ?_
              simp (disch := omega) [dataC_ne k1, peekV_ne k1, C, W1, W2, W3, cellAt_setN0, cellAt_setN, putCells_setN0, putCells_setN, cellsAt_setN0, cellsAt_setN, wrap_in]
              rw [hE, hE3]
              exact fin _ _ _ _ _ _ _ _ _ k1
            · simp (disch := omega) [dataC_0, hz, C, W1, W2, W3, cellAt_setN0, cellAt_setN, putCells_setN0, putCells_setN, cellsAt_setN0, cellsAt_setN, wrap_in]
              rw [hE, hE3]
              exact fin _ _ _ _ _ _ _ _ _ k1
        · simp at hin
          have hE2 : evD s p st = .bad 9 := by rw [hE]; simp [evT, hin]
          have h9 : (9 : Int) ≠ 0 := by omega
          simp (disch := omega) [hin]
          have hmod : (st).tmod 16 = st % 16 := Int.tmod_eq_emod_of_nonneg (by omega)
          simp (disch := omega) [C, W1, W2, W3, cellAt_setN0, cellAt_setN, putCells_setN0, putCells_setN, cellsAt_setN0, cellsAt_setN, wrap_in, hmod]
          refine awCall_det' (data_i (p := q) (st := st) (c := 9) (low := 0) hg hb hs (fun h => absurd h h9) (by omega) (by omega)) (Nat.le_refl _) ?_
          by_cases hz : 144 ≤ st
          · simp (disch := omega) [dataC_ne h9, peekV_ne h9, hz, C, W1, W2, W3, cellAt_setN0, cellAt_setN, putCells_setN0, putCells_setN, cellsAt_setN0, cellsAt_setN, wrap_in]
            refine awCall_det' (data_i (p := q + 1) (st := st) (c := 9) (low := 1) hg hb hs (fun h => absurd h h9) (by omega) (by omega)) (Nat.le_refl _) ?_
            simp (disch := omega) [dataC_ne h9, peekV_ne h9, C, W1, W2, W3, cellAt_setN0, cellAt_setN, putCells_setN0, putCells_setN, cellsAt_setN0, cellsAt_setN, wrap_in]
            rw [hE2]
            exact fin 9 _ _ _ _ _ _ _ _ h9
          · simp (disch := omega) [dataC_ne h9, peekV_ne h9, hz, C, W1, W2, W3, cellAt_setN0, cellAt_setN, putCells_setN0, putCells_setN, cellsAt_setN0, cellsAt_setN, wrap_in]
            rw [hE2]
            exact fin 9 _ _ _ _ _ _ _ _ h9
      · have hb1' : 128 ≤ strAt s q := by omega
        have hE : evD s p st = evT s d (q + 1) (strAt s q) := by simp [evD, hG, hb1, h1']
        simp (disch := omega) [e1, e2, hb1', C, W1, W2, W3, cellAt_setN0, cellAt_setN, putCells_setN0, putCells_setN, cellsAt_setN0, cellsAt_setN, wrap_in]
        refine awCall_det' (within_a _ _ _) (by simp; omega) ?_
        by_cases hin : inB (strAt s q) 128 159 = true
        · have hin' := inB_iff.1 hin
          simp (disch := omega) [hin]
          have hmod : ((strAt s q)).tmod 16 = (strAt s q) % 16 := Int.tmod_eq_emod_of_nonneg (by omega)
          simp (disch := omega) [C, W1, W2, W3, cellAt_setN0, cellAt_setN, putCells_setN0, putCells_setN, cellsAt_setN0, cellsAt_setN, wrap_in, hmod]
          refine awCall_det' (data_i (p := (q + 1)) (st := (strAt s q)) (c := 0) (low := 0) hg hb hs (fun _ => by omega) (by omega) (by omega)) (Nat.le_refl _) ?_
          by_cases k1 : (dataD s (q + 1) 0).1 = 0
          · have kb := dataD_ok k1
            by_cases hz : 144 ≤ (strAt s q)
            · have hz' : ¬ (strAt s q) < 144 := by omega
              simp (disch := omega) [dataC_0, k1, dataV_0 k1, hz, C, W1, W2, W3, cellAt_setN0, cellAt_setN, putCells_setN0, putCells_setN, cellsAt_setN0, cellsAt_setN, wrap_in]
              refine awCall_det' (data_i (p := (q + 1) + 1) (st := (strAt s q)) (c := 0) (low := 1) hg hb hs (fun _ => by omega) (by omega) (by omega)) (Nat.le_refl _) ?_
              by_cases k2 : (dataD s ((q + 1) + 1) 1).1 = 0
              · have kb2 := dataD_ok k2
                have hE3 : evT s d (q + 1) (strAt s q) = ⟨0, ⟨d, 1, (strAt s q) % 16, (dataD s (q + 1) 0).2, (dataD s ((q + 1) + 1) 1).2⟩, (q + 1) + 1 + 1, (strAt s q)⟩ := by simp [evT, hin, k1, hz', k2]
                simp (disch := omega) [dataC_0, k2, dataV_0 k2, C, W1, W2, W3, cellAt_setN0, cellAt_setN, putCells_setN0, putCells_setN, cellsAt_setN0, cellsAt_setN, wrap_in]
                rw [hE, hE3]
                exact good ⟨d, 1, (strAt s q) % 16, (dataD s (q + 1) 0).2, (dataD s ((q + 1) + 1) 1).2⟩ ((q + 1) + 1 + 1) _ (strAt s q) _ (by omega) (by omega) (by omega) (by omega) (by omega)
              · have hE3 : evT s d (q + 1) (strAt s q) = .bad (dataD s ((q + 1) + 1) 1).1 := by simp [evT, hin, k1, hz', k2]
                simp (disch := omega) [dataC_0, C, W1, W2, W3, cellAt_setN0, cellAt_setN, putCells_setN0, putCells_setN, cellsAt_setN0, cellsAt_setN, wrap_in]
                rw [hE, hE3]
                exact fin _ _ _ _ _ _ _ _ _ k2
            · have hz' : (strAt s q) < 144 := by omega
              have hE3 : evT s d (q + 1) (strAt s q) = ⟨0, ⟨d, 2, (strAt s q) % 16, (dataD s (q + 1) 0).2, 0⟩, (q + 1) + 1, (strAt s q)⟩ := by simp [evT, hin, k1, hz']
              simp (disch := omega) [dataC_0, k1, dataV_0 k1, hz, C, W1, W2, W3, cellAt_setN0, cellAt_setN, putCells_setN0, putCells_setN, cellsAt_setN0, cellsAt_setN, wrap_in]
              rw [hE, hE3]
              exact good ⟨d, 2, (strAt s q) % 16, (dataD s (q + 1) 0).2, 0⟩ ((q + 1) + 1) _ (strAt s q) _ (by omega) (by omega) (by omega) (by omega) (by omega)
          · have hE3 : evT s d (q + 1) (strAt s q) = .bad (dataD s (q + 1) 0).1 := by simp [evT, hin, k1]
            by_cases hz : 144 ≤ (strAt s q)
            · simp (disch := omega) [dataC_0, hz, C, W1, W2, W3, cellAt_setN0, cellAt_setN, putCells_setN0, putCells_setN, cellsAt_setN0, cellsAt_setN, wrap_in]
              refine awCall_det' (data_i (p := (q + 1) + 1) (st := (strAt s q)) (c := (dataD s (q + 1) 0).1) (low := 1) hg hb hs (fun h => absurd h k1) (by omega) (by omega)) (Nat.le_refl _) ?_
              simp (disch := omega) [dataC_ne k1, peekV_ne k1, C, W1, W2, W3, cellAt_setN0, cellAt_setN, putCells_setN0, putCells_setN, cellsAt_setN0, cellsAt_setN, wrap_in]
              rw [hE, hE3]
              exact fin _ _ _ _ _ _ _ _ _ k1
            · simp (disch := omega) [dataC_0, hz, C, W1, W2, W3, cellAt_setN0, cellAt_setN, putCells_setN0, putCells_setN, cellsAt_setN0, cellsAt_setN, wrap_in]
              rw [hE, hE3]
              exact fin _ _ _ _ _ _ _ _ _ k1
        · simp at hin
          have hE2 : evD s p st = .bad 9 := by rw [hE]; simp [evT, hin]
          have h9 : (9 : Int) ≠ 0 := by omega
          simp (disch := omega) [hin]
          have hmod : ((strAt s q)).tmod 16 = (strAt s q) % 16 := Int.tmod_eq_emod_of_nonneg (by omega)
          simp (disch := omega) [C, W1, W2, W3, cellAt_setN0, cellAt_setN, putCells_setN0, putCells_setN, cellsAt_setN0, cellsAt_setN, wrap_in, hmod]
          refine awCall_det' (data_i (p := (q + 1)) (st := (strAt s q)) (c := 9) (low := 0) hg hb hs (fun h => absurd h h9) (by omega) (by omega)) (Nat.le_refl _) ?_
          by_cases hz : 144 ≤ (strAt s q)
          · simp (disch := omega) [dataC_ne h9, peekV_ne h9, hz, C, W1, W2, W3, cellAt_setN0, cellAt_setN, putCells_setN0, putCells_setN, cellsAt_setN0, cellsAt_setN, wrap_in]
            refine awCall_det' (data_i (p := (q + 1) + 1) (st := (strAt s q)) (c := 9) (low := 1) hg hb hs (fun h => absurd h h9) (by omega) (by omega)) (Nat.le_refl _) ?_
            simp (disch := omega) [dataC_ne h9, peekV_ne h9, C, W1, W2, W3, cellAt_setN0, cellAt_setN, putCells_setN0, putCells_setN, cellsAt_setN0, cellsAt_setN, wrap_in]
            rw [hE2]
            exact fin 9 _ _ _ _ _ _ _ _ h9
          · simp (disch := omega) [dataC_ne h9, peekV_ne h9, hz, C, W1, W2, W3, cellAt_setN0, cellAt_setN, putCells_setN0, putCells_setN, cellsAt_setN0, cellsAt_setN, wrap_in]
            rw [hE2]
            exact fin 9 _ _ _ _ _ _ _ _ h9
    · have e1 : peekC s q 0 = 11 := by simp [peekC, h1]
      have e2 : peekV s q 0 = 0 := by simp [peekV, h1]
      have hE2 : evD s p st = .bad 11 := by simp [evD, hG]; omega
      have h9 : (11 : Int) ≠ 0 := by omega
      have hmod : (st).tmod 16 = st % 16 := Int.tmod_eq_emod_of_nonneg (by omega)
      simp (disch := omega) [e1, e2, h9, C, W1, W2, W3, cellAt_setN0, cellAt_setN, putCells_setN0, putCells_setN, cellsAt_setN0, cellsAt_setN, wrap_in, hmod]
      refine awCall_det' (data_i (p := q) (st := st) (c := 11) (low := 0) hg hb hs (fun h => absurd h h9) (by omega) (by omega)) (Nat.le_refl _) ?_
      by_cases hz : 144 ≤ st
      · simp (disch := omega) [dataC_ne h9, peekV_ne h9, hz, C, W1, W2, W3, cellAt_setN0, cellAt_setN, putCells_setN0, putCells_setN, cellsAt_setN0, cellsAt_setN, wrap_in]
        refine awCall_det' (data_i (p := q + 1) (st := st) (c := 11) (low := 1) hg hb hs (fun h => absurd h h9) (by omega) (by omega)) (Nat.le_refl _) ?_
        simp (disch := omega) [dataC_ne h9, peekV_ne h9, C, W1, W2, W3, cellAt_setN0, cellAt_setN, putCells_setN0, putCells_setN, cellsAt_setN0, cellsAt_setN, wrap_in]
        rw [hE2]
        exact fin 11 _ _ _ _ _ _ _ _ h9
      · simp (disch := omega) [dataC_ne h9, peekV_ne h9, hz, C, W1, W2, W3, cellAt_setN0, cellAt_setN, putCells_setN0, putCells_setN, cellsAt_setN0, cellsAt_setN, wrap_in]
        rw [hE2]
        exact fin 11 _ _ _ _ _ _ _ _ h9
  · have hbad := getVF_bad s 4 p 0 (by rw [hG]; exact hc)
    rw [hG] at hbad
    simp only at hbad
    obtain ⟨rfl, rfl⟩ := hbad
    have hE2 : evD s p st = .bad c := by simp [evD, hG, hc]
    simp (disch := omega) [C, W1, W2, W3, cellAt_setN0, cellAt_setN, putCells_setN0, putCells_setN, cellsAt_setN0, cellsAt_setN, wrap_in]
    refine awCall_det' (peek_i (p := 0) (st := st) (c := c) hg hb hs (fun h => absurd h hc)) (Nat.le_refl _) ?_
    have hmod : (st).tmod 16 = st % 16 := Int.tmod_eq_emod_of_nonneg (by omega)
    simp (disch := omega) [peekC_ne hc, peekV_ne hc, hc, C, W1, W2, W3, cellAt_setN0, cellAt_setN, putCells_setN0, putCells_setN, cellsAt_setN0, cellsAt_setN, wrap_in, hmod]
    refine awCall_det' (data_i (p := 0) (st := st) (c := c) (low := 0) hg hb hs (fun h => absurd h hc) (by omega) (by omega)) (Nat.le_refl _) ?_
    by_cases hz : 144 ≤ st
    · simp (disch := omega) [dataC_ne hc, peekV_ne hc, hz, C, W1, W2, W3, cellAt_setN0, cellAt_setN, putCells_setN0, putCells_setN, cellsAt_setN0, cellsAt_setN, wrap_in]
      refine awCall_det' (data_i (p := 0 + 1) (st := st) (c := c) (low := 1) hg hb hs (fun h => absurd h hc) (by omega) (by omega)) (Nat.le_refl _) ?_
      simp (disch := omega) [dataC_ne hc, peekV_ne hc, C, W1, W2, W3, cellAt_setN0, cellAt_setN, putCells_setN0, putCells_setN, cellsAt_setN0, cellsAt_setN, wrap_in]
      rw [hE2]
      exact fin c _ _ _ _ _ _ _ _ hc
    · simp (disch := omega) [dataC_ne hc, peekV_ne hc, hz, C, W1, W2, W3, cellAt_setN0, cellAt_setN, putCells_setN0, putCells_setN, cellsAt_setN0, cellsAt_setN, wrap_in]
      rw [hE2]
      exact fin c _ _ _ _ _ _ _ _ hc
end Go.Proofs.Ythopcmglcnlcfaa
