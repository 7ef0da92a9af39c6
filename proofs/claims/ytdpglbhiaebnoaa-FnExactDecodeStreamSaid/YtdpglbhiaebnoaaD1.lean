/- Streams: events are read. No conditions. -/
import Derived.Test.YtdpglbhiaebnoaaE3
namespace Go.Proofs.Ytdpglbhiaebnoaa
open Go.RowKit
set_option linter.unusedVariables false
set_option linter.unusedSimpArgs false
set_option maxRecDepth 100000
attribute [local simp] List.getElem?_cons_zero
attribute [local irreducible] awCond awCall awLoop awDraw ow retQ retC resQ Keeps
/-- One data byte at p, at least low. -/
def dataD (s : ByteArray) (p : Nat) (low : Int) : Int × Int := if p < s.size then (if inB (strAt s p) low 127 = true then (0, strAt s p) else (9, 0)) else (11, 0)
structure EvR where
  code : Int
  ev : StreamEvent
  at_ : Nat
  st : Int
def EvR.bad (c : Int) : EvR := ⟨c, default, 0, 0⟩
/-- What follows the status. -/
def evT (s : ByteArray) (d : Int) (p : Nat) (st : Int) : EvR :=
  if inB st 128 159 = false then .bad 9 else
  if (dataD s p 0).1 ≠ 0 then .bad (dataD s p 0).1 else
  if st < 144 then ⟨0, ⟨d, 2, st % 16, (dataD s p 0).2, 0⟩, p + 1, st⟩ else
  if (dataD s (p + 1) 1).1 ≠ 0 then .bad (dataD s (p + 1) 1).1 else ⟨0, ⟨d, 1, st % 16, (dataD s p 0).2, (dataD s (p + 1) 1).2⟩, p + 1 + 1, st⟩
def evD (s : ByteArray) (p : Nat) (st : Int) : EvR :=
  if (getVF s 4 p 0).2.2 ≠ 0 then .bad (getVF s 4 p 0).2.2 else
  if s.size ≤ (getVF s 4 p 0).2.1.toNat then .bad 11 else
  if strAt s (getVF s 4 p 0).2.1.toNat < 128 then evT s (getVF s 4 p 0).1 (getVF s 4 p 0).2.1.toNat st else evT s (getVF s 4 p 0).1 ((getVF s 4 p 0).2.1.toNat + 1) (strAt s (getVF s 4 p 0).2.1.toNat)
theorem getVF_ok (s : ByteArray) : ∀ f p n, p ≤ s.size → (getVF s f p n).2.2 = 0 → ∃ q : Nat, (getVF s f p n).2.1 = q ∧ p < q ∧ q ≤ s.size
  | 0, p, n, hp, h => by simp [getVF] at h
  | f + 1, p, n, hp, h => by
    by_cases h1 : p < s.size
    · by_cases h2 : strAt s p < 128
      · rw [getVF_lo _ _ _ _ h1 h2]
        exact ⟨p + 1, rfl, by omega, by omega⟩
      · rw [getVF_hi _ _ _ _ h1 h2] at h ⊢
        obtain ⟨q, e, h3, h4⟩ := getVF_ok s f (p + 1) _ (by omega) h
        exact ⟨q, e, by omega, h4⟩
    · rw [getVF_ge _ _ _ _ (by omega)] at h
      simp at h
/-- A row of one's own in the middle of memory. -/
theorem cellAt_setL {M L : Mem} {id off : Nat} {r : Row} (h : id < M.length) : cellAt (M.set id (.live r) ++ L) id off = r.cells[off]? := by
  simp [cellAt, List.getElem?_append_left, h]
theorem cellAt_set0 {M : Mem} {id off : Nat} {r : Row} (h : id < M.length) : cellAt (M.set id (.live r)) id off = r.cells[off]? := by
  simp [cellAt, h]
theorem put_setL {b : Nat} {M L : Mem} {id p : Nat} {v : Value} {cs : List Value} {t : Bool} {e : TypeId} {z : Nat} (hid : id < M.length) (hb : b ≤ id) (hp : p < cs.length) (h1 : oneV v = true) :
    putCells b (M.set id (.live ⟨cs, true, t, e, z⟩) ++ L) id p [v] = some (M.set id (.live ⟨cs.set p v, true, t, e, z⟩) ++ L) := by
  unfold putCells
  rw [List.getElem?_append_left (by simpa using hid), List.getElem?_set_self hid]
  simp only
  rw [if_pos (by simp [hb, h1]; omega), List.set_append_left _ _ (by simpa using hid), List.set_set]
  simp [splice]
theorem cellAt_setN {M L : Mem} {g k off : Nat} {X : Slot} : cellAt (M.set g X ++ L) (M.length + k) off = cellAt L k off := by
  have := cellAt_new (M := M.set g X) (L := L) (k := k) (off := off)
  simpa using this
theorem cellAt_setN0 {M L : Mem} {g off : Nat} {X : Slot} : cellAt (M.set g X ++ L) M.length off = cellAt L 0 off := cellAt_setN (k := 0)
theorem cellsAt_setN {M L : Mem} {g k off n : Nat} {X : Slot} : cellsAt (M.set g X ++ L) (M.length + k) off n = cellsAt L k off n := by
  have := cellsAt_new (M := M.set g X) (L := L) (k := k) (off := off) (n := n)
  simpa using this
theorem cellsAt_setN0 {M L : Mem} {g off n : Nat} {X : Slot} : cellsAt (M.set g X ++ L) M.length off n = cellsAt L 0 off n := cellsAt_setN (k := 0)
theorem putCells_setN {b : Nat} {M L : Mem} {g k off : Nat} {vs : List Value} {X : Slot} (hb : b ≤ M.length) : putCells b (M.set g X ++ L) (M.length + k) off vs = (putL L k off vs).map (M.set g X ++ ·) := by
  have := putCells_new (M := M.set g X) (L := L) (k := k) (off := off) (vs := vs) (b := b) (by simpa using hb)
  simpa using this
theorem putCells_setN0 {b : Nat} {M L : Mem} {g off : Nat} {vs : List Value} {X : Slot} (hb : b ≤ M.length) : putCells b (M.set g X ++ L) M.length off vs = (putL L 0 off vs).map (M.set g X ++ ·) := putCells_setN (k := 0) hb
def UpdG (g : Nat) (M M' : Mem) : Prop := M.length ≤ M'.length ∧ ∀ (i : Nat) s, i ≠ g → M[i]? = some s → M'[i]? = some s
theorem updG_set {M L : Mem} {g : Nat} {X : Slot} : UpdG g M (M.set g X ++ L) := ⟨by simp, fun i s hi hs => by
  rw [List.getElem?_append_left (by simpa using (List.getElem?_eq_some_iff.1 hs).1), List.getElem?_set_ne (Ne.symm hi)]; exact hs⟩
theorem set_getL {M L : Mem} {g : Nat} {X : Slot} (hg : g < M.length) : (M.set g X ++ L)[g]? = some X := by
  rw [List.getElem?_append_left (by simpa using hg), List.getElem?_set_self hg]
theorem data_s {M L : Mem} {b g p : Nat} {s : ByteArray} {st : Int} {t : Bool} {e : TypeId} (hg : g < M.length) (hb : b ≤ g) (hs : s.size ≤ 1099511627776) (hp : p ≤ s.size) :
    Det Try.prog b 61 [.pointer (some ⟨g, 0, none⟩)] (M.set g (.live ⟨[.string s, iv p, iv st], true, t, e, 3⟩) ++ L) (.tuple #[iv (dataD s p 0).2, iv (dataD s p 0).1]) (M.set g (.live ⟨[.string s, iv (if (dataD s p 0).1 = 0 then p + 1 else p : Nat), iv st], true, t, e, 3⟩) ++ L) := by
  have C := fun (off : Nat) (cs : List Value) => cellAt_setL (L := L) (off := off) (r := ⟨cs, true, t, e, 3⟩) hg
  have W := fun (a c : Value) (d n : Int) => put_setL (L := L) (cs := [a, iv d, c]) (p := 1) (v := iv n) (t := t) (e := e) (z := 3) hg hb (by simp) rfl
  have hst := strAt_bd s p
  refine Ctr.det ?_
  first | (refine ctr_fn Try.func61 rfl Try.ntmps61 Try.results61 rfl rfl (by simp) ?_) | (refine ctr_fnC Try.func61 rfl Try.ntmps61 Try.results61 rfl (by simp) ?_)
  simp
  refine awDraw_E 9 [[],[0],[1,0],[2,1,0],[],[4],[5,4],[6,5,4],[7,6,5,4],[3,2,1,0,8,7,6,5,4]] (by kernel_rfl) (by kernel_rfl) ?_
  simp [C]
  by_cases h1 : p < s.size
  · have h1' : ¬ s.size ≤ p := by omega
    try simp [h1']
    refine awDraw_E 8 [[],[0],[1,0],[2,1,0],[],[4],[5,4],[6,5,4],[3,2,1,0,7,6,5,4],[8,3,2,1,0,7,6,5,4],[9,8,3,2,1,0,7,6,5,4]] (by kernel_rfl) (by kernel_rfl) ?_
    have g2 : (p : Int) < s.size := by omega
    simp [C, g2, h1]
    by_cases h2 : strAt s p < 128
    · have hd : dataD s p 0 = (0, strAt s p) := by simp [dataD, h1, inB_iff]; omega
      have h2' : ¬ 128 ≤ strAt s p := by omega
      simp (disch := omega) [h2', C, W, hd, wrap_in]
    · have hd : dataD s p 0 = (9, 0) := by simp [dataD, h1, inB_iff]; omega
      have h2' : 128 ≤ strAt s p := by omega
      simp (disch := omega) [h2', hd, wrap_in]
  · have hd : dataD s p 0 = (11, 0) := by simp [dataD, h1]
    have h1' : s.size ≤ p := by omega
    simp [h1', hd]
theorem zr_build (d a b c : Int) : Instr.fill (fun x => [(0, 1), (1, 1), (2, 1), (3, 1), (4, 1)][x]?) #[iv 0, iv 0, iv 0, iv 0, iv 0] [(0, iv d), (1, iv a), (2, iv b), (3, iv c)] = some #[iv d, iv a, iv b, iv c, iv 0] := by rfl
/-- What an event's reading leaves. -/
def EvK (g : Nat) (M : Mem) (s : ByteArray) (p : Nat) (t : Bool) (e : TypeId) (R : EvR) (r : Value) (M' : Mem) : Prop :=
  ∃ (ev : StreamEvent) (row' : Row), r = .tuple #[ev.v, iv R.code] ∧ M'[g]? = some (.live row') ∧ UpdG g M M' ∧ (R.code = 0 → ev = R.ev ∧ row' = ⟨[.string s, iv R.at_, iv R.st], true, t, e, 3⟩ ∧ R.at_ ≤ s.size ∧ p < R.at_ ∧ (R.st = 0 ∨ (128 ≤ R.st ∧ R.st ≤ 159)))
theorem dataD_ok {s : ByteArray} {p : Nat} {low : Int} (h : (dataD s p low).1 = 0) : p < s.size := by
  unfold dataD at h
  split at h
  · assumption
  · simp at h
theorem dataD_two (s : ByteArray) (p : Nat) : ((dataD s p 0).1 ≠ 0 ∧ (dataD s p 1).1 = (dataD s p 0).1) ∨ ((dataD s p 0).1 = 0 ∧ (dataD s p 0).2 = 0 ∧ (dataD s p 1).1 = 9) ∨ ((dataD s p 0).1 = 0 ∧ ¬ (dataD s p 0).2 = 0 ∧ (dataD s p 1).1 = 0 ∧ (dataD s p 1).2 = (dataD s p 0).2) := by
  have := strAt_bd s p
  by_cases h1 : p < s.size
  · by_cases h2 : strAt s p ≤ 127
    · by_cases h3 : strAt s p = 0
      · simp [dataD, h1, inB, h3]
      · have h4 : 1 ≤ strAt s p := by omega
        have h5 : 0 ≤ strAt s p := by omega
        simp [dataD, h1, inB, h2, h4, h5, h3]
    · simp [dataD, h1, inB, h2]
  · simp [dataD, h1]
set_option maxHeartbeats 2000000 in
theorem event_s {M : Mem} {b g p : Nat} {s : ByteArray} {st : Int} {t : Bool} {e : TypeId} (hr : M[g]? = some (.live ⟨[.string s, iv p, iv st], true, t, e, 3⟩)) (hb : b ≤ g) (hs : s.size ≤ 1099511627776) (hp : p ≤ s.size) (hst : st = 0 ∨ (128 ≤ st ∧ st ≤ 159)) :
    Ctr Try.prog b 51 [.pointer (some ⟨g, 0, none⟩)] M fun r M' => EvK g M s p t e (evD s p st) r M' := by
  have hg := (List.getElem?_eq_some_iff.1 hr).1
  have hM : M = M.set g (.live ⟨[.string s, iv p, iv st], true, t, e, 3⟩) := (set_self hr).symm
  have hbM : b ≤ M.length := by omega
  have C := fun (off : Nat) (cs : List Value) (L : Mem) => cellAt_setL (L := L) (off := off) (r := ⟨cs, true, t, e, 3⟩) hg
  have W1 := fun (a c : Value) (d n : Int) (L : Mem) => put_setL (L := L) (cs := [a, iv d, c]) (p := 1) (v := iv n) (t := t) (e := e) (z := 3) hg hb (by simp) rfl
  have W2 := fun (a c : Value) (d n : Int) (L : Mem) => put_setL (L := L) (cs := [a, c, iv d]) (p := 2) (v := iv n) (t := t) (e := e) (z := 3) hg hb (by simp) rfl
  have fin : ∀ (c : Int) (X : Row) (L : Mem), c ≠ 0 → EvK g M s p t e (.bad c) (.tuple #[.agg #[iv 0, iv 0, iv 0, iv 0, iv 0], iv c]) (M.set g (.live X) ++ L) :=
    fun c X L hc => ⟨⟨0, 0, 0, 0, 0⟩, X, rfl, set_getL hg, updG_set, fun h => absurd h hc⟩
  have good : ∀ (ev : StreamEvent) (q : Nat) (z : Int) (L : Mem), q ≤ s.size → p < q → 128 ≤ z → z ≤ 159 → EvK g M s p t e ⟨0, ev, q, z⟩ (.tuple #[.agg #[iv ev.d, iv ev.j, iv ev.o, iv ev.k, iv ev.u], iv 0]) (M.set g (.live ⟨[.string s, iv q, iv z], true, t, e, 3⟩) ++ L) :=
    fun ev q z L h1 h2 h3 h4 => ⟨ev, _, rfl, set_getL hg, updG_set, fun _ => ⟨rfl, rfl, h1, h2, .inr ⟨h3, h4⟩⟩⟩
  conv => arg 5; rw [hM]
  first | (refine ctr_fn Try.func51 rfl Try.ntmps51 Try.results51 rfl rfl (by simp) ?_) | (refine ctr_fnC Try.func51 rfl Try.ntmps51 Try.results51 rfl (by simp) ?_)
  simp
  refine awDraw_E 15 [[],[0],[1,0],[2,1,0],[],[4],[5,4],[6,5,4],[3,2,1,0,7,6,5,4],[8,3,2,1,0,7,6,5,4],[9,8,3,2,1,0,7,6,5,4],[9,8,3,2,1,0,7,6,5,4],[9,8,3,2,1,0,7,6,5,4],[10,9,8,3,2,1,0,7,6,5,4],[11,9,8,3,2,1,0,7,6,5,4,13,10],[12,9,8,3,2,1,0,7,6,5,4,14,11,13,10]] (by kernel_rfl) (by kernel_rfl) ?_
  simp [C]
  refine awCall_det' (l20Get_a s p hp hs) (by simp) ?_
  rcases hG : getVF s 4 p 0 with ⟨d, nx, c⟩
  by_cases hc : c = 0
  · subst hc
    obtain ⟨q, hq, hpq, hqs⟩ := getVF_ok s 4 p 0 hp (by rw [hG])
    rw [hG] at hq
    simp only at hq
    subst hq
    simp (disch := omega) [C, W1, W2, cellAt_setN0, cellAt_setN, putCells_setN0, putCells_setN]
    refine awDraw_E 9 [[],[0],[1,0],[2,1,0],[],[4],[5,4],[6,5,4],[7,6,5,4],[3,2,1,0,8,7,6,5,4]] (by kernel_rfl) (by kernel_rfl) ?_
    simp (disch := omega) [C]
    by_cases h1 : q < s.size
    · have g2 : (q : Int) < s.size := by omega
      have h1' : ¬ s.size ≤ q := by omega
      have hbd := strAt_bd s q
      simp (disch := omega) [h1', C]
      refine awDraw_E 8 [[],[0],[1,0],[2,1,0],[],[4],[5,4],[6,5,4],[3,2,1,0,7,6,5,4],[8,3,2,1,0,7,6,5,4],[9,8,3,2,1,0,7,6,5,4]] (by kernel_rfl) (by kernel_rfl) ?_
      simp (disch := omega) [C, g2, wrap_in]
      by_cases hb1 : strAt s q < 128
      · have hb1' : ¬ 128 ≤ strAt s q := by omega
        have hE : evD s p st = evT s d q st := by simp [evD, hG, hb1, h1']
        rcases hst with hst | hst
        · subst hst
          have hE2 : evT s d q 0 = .bad 9 := by simp [evT, inB]
          simp (disch := omega) [hb1', C, cellsAt_setN0, putCells_setN0]
          rw [hE, hE2]
          exact fin 9 _ _ (by omega)
        · have hst0 : ¬ st = 0 := by omega
          have hin : inB st 128 159 = true := inB_iff.2 hst
          simp (disch := omega) [hb1', C, hst0]
          rw [hE]
          refine awCall_det' (data_s (p := q) (st := st) hg hb hs (by omega)) (Nat.le_refl _) ?_
          by_cases k1 : (dataD s q 0).1 = 0
          · have kb := dataD_ok k1
            have hmod : (st).tmod 16 = st % 16 := Int.tmod_eq_emod_of_nonneg (by omega)
            simp (disch := omega) [k1, C, cellAt_setN0, cellAt_setN, putCells_setN0, putCells_setN, cellsAt_setN0, cellsAt_setN, zr_build, hmod]
            by_cases hz : 144 ≤ st
            · have hz' : ¬ st < 144 := by omega
              simp (disch := omega) [hz, C]
              refine awCall_det' (data_s (p := q + 1) (st := st) hg hb hs (by omega)) (Nat.le_refl _) ?_
              rcases dataD_two s (q + 1) with ⟨k2, k3⟩ | ⟨k2, k3, k4⟩ | ⟨k2, k3, k4, k5⟩
              · have hE3 : evT s d q st = .bad (dataD s (q + 1) 0).1 := by simp [evT, hin, k1, hz', k3, k2]
                simp (disch := omega) [k2, C, cellAt_setN0, cellAt_setN, putCells_setN0, putCells_setN, cellsAt_setN0, cellsAt_setN]
                rw [hE3]
                exact fin _ _ _ k2
              · have hE3 : evT s d q st = .bad 9 := by simp [evT, hin, k1, hz', k4]
                simp (disch := omega) [k2, k3, C, cellAt_setN0, cellAt_setN, putCells_setN0, putCells_setN, cellsAt_setN0, cellsAt_setN]
                rw [hE3]
                exact fin _ _ _ (by omega)
              · have kb2 := dataD_ok k2
                have hE3 : evT s d q st = ⟨0, ⟨d, 1, st % 16, (dataD s q 0).2, (dataD s (q + 1) 0).2⟩, q + 1 + 1, st⟩ := by simp [evT, hin, k1, hz', k4, k5]
                simp (disch := omega) [k2, k3, C, cellAt_setN0, cellAt_setN, putCells_setN0, putCells_setN, cellsAt_setN0, cellsAt_setN]
                rw [hE3]
                exact good ⟨d, 1, st % 16, (dataD s q 0).2, (dataD s (q + 1) 0).2⟩ (q + 1 + 1) st _ (by omega) (by omega) (by omega) (by omega)
            · have hz' : st < 144 := by omega
              have hE3 : evT s d q st = ⟨0, ⟨d, 2, st % 16, (dataD s q 0).2, 0⟩, q + 1, st⟩ := by simp [evT, hin, k1, hz']
              simp (disch := omega) [hz, C, cellAt_setN0, cellAt_setN, putCells_setN0, putCells_setN, cellsAt_setN0, cellsAt_setN]
              rw [hE3]
              exact good ⟨d, 2, st % 16, (dataD s q 0).2, 0⟩ (q + 1) st _ (by omega) (by omega) (by omega) (by omega)
          · have hE3 : evT s d q st = .bad (dataD s q 0).1 := by simp [evT, hin, k1]
            simp (disch := omega) [k1, C, cellAt_setN0, cellAt_setN, putCells_setN0, putCells_setN, cellsAt_setN0, cellsAt_setN]
            rw [hE3]
            exact fin _ _ _ k1
      · have hb1' : 128 ≤ strAt s q := by omega
        by_cases hb2 : 160 ≤ strAt s q
        · have hE2 : evD s p st = .bad 9 := by
            have : inB (strAt s q) 128 159 = false := by simp [inB]; omega
            simp [evD, hG, hb1, h1', evT, this]
          simp (disch := omega) [hb1', hb2, C, cellsAt_setN0, putCells_setN0]
          rw [hE2]
          exact fin 9 _ _ (by omega)
        · have hE : evD s p st = evT s d (q + 1) (strAt s q) := by simp [evD, hG, hb1, h1']
          have hin : inB (strAt s q) 128 159 = true := inB_iff.2 (by omega)
          have hst0 : ¬ strAt s q = 0 := by omega
          simp (disch := omega) [hb1', hb2, C, W1, W2, hst0, wrap_in]
          rw [hE]
          refine awCall_det' (data_s (p := (q + 1)) (st := (strAt s q)) hg hb hs (by omega)) (Nat.le_refl _) ?_
          by_cases k1 : (dataD s (q + 1) 0).1 = 0
          · have kb := dataD_ok k1
            have hmod : ((strAt s q)).tmod 16 = (strAt s q) % 16 := Int.tmod_eq_emod_of_nonneg (by omega)
            simp (disch := omega) [k1, C, cellAt_setN0, cellAt_setN, putCells_setN0, putCells_setN, cellsAt_setN0, cellsAt_setN, zr_build, hmod]
            by_cases hz : 144 ≤ (strAt s q)
            · have hz' : ¬ (strAt s q) < 144 := by omega
              simp (disch := omega) [hz, C]
              refine awCall_det' (data_s (p := (q + 1) + 1) (st := (strAt s q)) hg hb hs (by omega)) (Nat.le_refl _) ?_
              rcases dataD_two s ((q + 1) + 1) with ⟨k2, k3⟩ | ⟨k2, k3, k4⟩ | ⟨k2, k3, k4, k5⟩
              · have hE3 : evT s d (q + 1) (strAt s q) = .bad (dataD s ((q + 1) + 1) 0).1 := by simp [evT, hin, k1, hz', k3, k2]
                simp (disch := omega) [k2, C, cellAt_setN0, cellAt_setN, putCells_setN0, putCells_setN, cellsAt_setN0, cellsAt_setN]
                rw [hE3]
                exact fin _ _ _ k2
              · have hE3 : evT s d (q + 1) (strAt s q) = .bad 9 := by simp [evT, hin, k1, hz', k4]
                simp (disch := omega) [k2, k3, C, cellAt_setN0, cellAt_setN, putCells_setN0, putCells_setN, cellsAt_setN0, cellsAt_setN]
                rw [hE3]
                exact fin _ _ _ (by omega)
              · have kb2 := dataD_ok k2
                have hE3 : evT s d (q + 1) (strAt s q) = ⟨0, ⟨d, 1, (strAt s q) % 16, (dataD s (q + 1) 0).2, (dataD s ((q + 1) + 1) 0).2⟩, (q + 1) + 1 + 1, (strAt s q)⟩ := by simp [evT, hin, k1, hz', k4, k5]
                simp (disch := omega) [k2, k3, C, cellAt_setN0, cellAt_setN, putCells_setN0, putCells_setN, cellsAt_setN0, cellsAt_setN]
                rw [hE3]
                exact good ⟨d, 1, (strAt s q) % 16, (dataD s (q + 1) 0).2, (dataD s ((q + 1) + 1) 0).2⟩ ((q + 1) + 1 + 1) (strAt s q) _ (by omega) (by omega) (by omega) (by omega)
            · have hz' : (strAt s q) < 144 := by omega
              have hE3 : evT s d (q + 1) (strAt s q) = ⟨0, ⟨d, 2, (strAt s q) % 16, (dataD s (q + 1) 0).2, 0⟩, (q + 1) + 1, (strAt s q)⟩ := by simp [evT, hin, k1, hz']
              simp (disch := omega) [hz, C, cellAt_setN0, cellAt_setN, putCells_setN0, putCells_setN, cellsAt_setN0, cellsAt_setN]
              rw [hE3]
              exact good ⟨d, 2, (strAt s q) % 16, (dataD s (q + 1) 0).2, 0⟩ ((q + 1) + 1) (strAt s q) _ (by omega) (by omega) (by omega) (by omega)
          · have hE3 : evT s d (q + 1) (strAt s q) = .bad (dataD s (q + 1) 0).1 := by simp [evT, hin, k1]
            simp (disch := omega) [k1, C, cellAt_setN0, cellAt_setN, putCells_setN0, putCells_setN, cellsAt_setN0, cellsAt_setN]
            rw [hE3]
            exact fin _ _ _ k1
    · have hE : evD s p st = .bad 11 := by simp [evD, hG]; omega
      have h1' : s.size ≤ q := by omega
      simp (disch := omega) [h1', C, cellsAt_setN0, putCells_setN0]
      rw [hE]
      exact fin 11 _ _ (by omega)
  · have hE : evD s p st = .bad c := by simp [evD, hG, hc]
    simp (disch := omega) [hc, C, cellsAt_setN0, putCells_setN0]
    rw [hE]
    exact fin c _ _ hc
end Go.Proofs.Ytdpglbhiaebnoaa
