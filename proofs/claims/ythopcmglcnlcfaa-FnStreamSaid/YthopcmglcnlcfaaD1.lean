/- Streams: events are read. No conditions. -/
import Derived.Test.YthopcmglcnlcfaaE3
namespace Go.Proofs.Ythopcmglcnlcfaa
open Go.RowKit
set_option linter.unusedVariables false
set_option linter.unusedSimpArgs false
set_option maxRecDepth 100000
attribute [local simp] List.getElem?_cons_zero
attribute [local irreducible] awCond awCall awLoop awDraw ow retQ retC resQ Keeps
/-- One data byte at p, at least low. -/
def dataD (s : ByteArray) (p : Nat) (low : Int) : Int × Int := if p < s.size then (if inB (strAt s p) low 127 = true then (0, strAt s p) else (9, 0)) else (11, 0)
structure EvR where
  code : Int
  ev : StreamEvent
  at_ : Nat
  st : Int
def EvR.bad (c : Int) : EvR := ⟨c, default, 0, 0⟩
/-- What follows the status. -/
def evT (s : ByteArray) (d : Int) (p : Nat) (st : Int) : EvR :=
  if inB st 128 159 = false then .bad 9 else
  if (dataD s p 0).1 ≠ 0 then .bad (dataD s p 0).1 else
  if st < 144 then ⟨0, ⟨d, 2, st % 16, (dataD s p 0).2, 0⟩, p + 1, st⟩ else
  if (dataD s (p + 1) 1).1 ≠ 0 then .bad (dataD s (p + 1) 1).1 else ⟨0, ⟨d, 1, st % 16, (dataD s p 0).2, (dataD s (p + 1) 1).2⟩, p + 1 + 1, st⟩
def evD (s : ByteArray) (p : Nat) (st : Int) : EvR :=
  if (getVF s 4 p 0).2.2 ≠ 0 then .bad (getVF s 4 p 0).2.2 else
  if s.size ≤ (getVF s 4 p 0).2.1.toNat then .bad 11 else
  if strAt s (getVF s 4 p 0).2.1.toNat < 128 then evT s (getVF s 4 p 0).1 (getVF s 4 p 0).2.1.toNat st else evT s (getVF s 4 p 0).1 ((getVF s 4 p 0).2.1.toNat + 1) (strAt s (getVF s 4 p 0).2.1.toNat)
theorem getVF_ok (s : ByteArray) : ∀ f p n, p ≤ s.size → (getVF s f p n).2.2 = 0 → ∃ q : Nat, (getVF s f p n).2.1 = q ∧ p < q ∧ q ≤ s.size
  | 0, p, n, hp, h => by simp [getVF] at h
  | f + 1, p, n, hp, h => by
    by_cases h1 : p < s.size
    · by_cases h2 : strAt s p < 128
      · rw [getVF_lo _ _ _ _ h1 h2]
        exact ⟨p + 1, rfl, by omega, by omega⟩
      · rw [getVF_hi _ _ _ _ h1 h2] at h ⊢
        obtain ⟨q, e, h3, h4⟩ := getVF_ok s f (p + 1) _ (by omega) h
        exact ⟨q, e, by omega, h4⟩
    · rw [getVF_ge _ _ _ _ (by omega)] at h
      simp at h
/-- A row of one's own in the middle of memory. -/
theorem cellAt_setL {M L : Mem} {id off : Nat} {r : Row} (h : id < M.length) : cellAt (M.set id (.live r) ++ L) id off = r.cells[off]? := by
  simp [cellAt, List.getElem?_append_left, h]
theorem cellAt_set0 {M : Mem} {id off : Nat} {r : Row} (h : id < M.length) : cellAt (M.set id (.live r)) id off = r.cells[off]? := by
  simp [cellAt, h]
theorem put_setL {b : Nat} {M L : Mem} {id p : Nat} {v : Value} {cs : List Value} {t : Bool} {e : TypeId} {z : Nat} (hid : id < M.length) (hb : b ≤ id) (hp : p < cs.length) (h1 : oneV v = true) :
    putCells b (M.set id (.live ⟨cs, true, t, e, z⟩) ++ L) id p [v] = some (M.set id (.live ⟨cs.set p v, true, t, e, z⟩) ++ L) := by
  unfold putCells
  rw [List.getElem?_append_left (by simpa using hid), List.getElem?_set_self hid]
  simp only
  rw [if_pos (by simp [hb, h1]; omega), List.set_append_left _ _ (by simpa using hid), List.set_set]
  simp [splice]
theorem cellAt_setN {M L : Mem} {g k off : Nat} {X : Slot} : cellAt (M.set g X ++ L) (M.length + k) off = cellAt L k off := by
  have := cellAt_new (M := M.set g X) (L := L) (k := k) (off := off)
  simpa using this
theorem cellAt_setN0 {M L : Mem} {g off : Nat} {X : Slot} : cellAt (M.set g X ++ L) M.length off = cellAt L 0 off := cellAt_setN (k := 0)
theorem cellsAt_setN {M L : Mem} {g k off n : Nat} {X : Slot} : cellsAt (M.set g X ++ L) (M.length + k) off n = cellsAt L k off n := by
  have := cellsAt_new (M := M.set g X) (L := L) (k := k) (off := off) (n := n)
  simpa using this
theorem cellsAt_setN0 {M L : Mem} {g off n : Nat} {X : Slot} : cellsAt (M.set g X ++ L) M.length off n = cellsAt L 0 off n := cellsAt_setN (k := 0)
theorem putCells_setN {b : Nat} {M L : Mem} {g k off : Nat} {vs : List Value} {X : Slot} (hb : b ≤ M.length) : putCells b (M.set g X ++ L) (M.length + k) off vs = (putL L k off vs).map (M.set g X ++ ·) := by
  have := putCells_new (M := M.set g X) (L := L) (k := k) (off := off) (vs := vs) (b := b) (by simpa using hb)
  simpa using this
theorem putCells_setN0 {b : Nat} {M L : Mem} {g off : Nat} {vs : List Value} {X : Slot} (hb : b ≤ M.length) : putCells b (M.set g X ++ L) M.length off vs = (putL L 0 off vs).map (M.set g X ++ ·) := putCells_setN (k := 0) hb
def UpdG (g : Nat) (M M' : Mem) : Prop := M.length ≤ M'.length ∧ ∀ (i : Nat) s, i ≠ g → M[i]? = some s → M'[i]? = some s
theorem updG_set {M L : Mem} {g : Nat} {X : Slot} : UpdG g M (M.set g X ++ L) := ⟨by simp, fun i s hi hs => by
  rw [List.getElem?_append_left (by simpa using (List.getElem?_eq_some_iff.1 hs).1), List.getElem?_set_ne (Ne.symm hi)]; exact hs⟩
theorem set_getL {M L : Mem} {g : Nat} {X : Slot} (hg : g < M.length) : (M.set g X ++ L)[g]? = some X := by
  rw [List.getElem?_append_left (by simpa using hg), List.getElem?_set_self hg]


























theorem zr_build (d a b c : Int) : Instr.fill (fun x => [(0, 1), (1, 1), (2, 1), (3, 1), (4, 1)][x]?) #[iv 0, iv 0, iv 0, iv 0, iv 0] [(0, iv d), (1, iv a), (2, iv b), (3, iv c)] = some #[iv d, iv a, iv b, iv c, iv 0] := by rfl
/-- What an event's reading leaves. -/
def EvK (g : Nat) (M : Mem) (s : ByteArray) (p : Nat) (t : Bool) (e : TypeId) (R : EvR) (r : Value) (M' : Mem) : Prop :=
  ∃ (ev : StreamEvent) (row' : Row), r = .tuple #[ev.v, iv R.code] ∧ M'[g]? = some (.live row') ∧ UpdG g M M' ∧ (R.code = 0 → ev = R.ev ∧ row' = ⟨[.string s, iv R.at_, iv R.st], true, t, e, 3⟩ ∧ R.at_ ≤ s.size ∧ p < R.at_ ∧ (R.st = 0 ∨ (128 ≤ R.st ∧ R.st ≤ 159)))
theorem dataD_ok {s : ByteArray} {p : Nat} {low : Int} (h : (dataD s p low).1 = 0) : p < s.size := by
  unfold dataD at h
  split at h
  · assumption
  · simp at h
theorem dataD_two (s : ByteArray) (p : Nat) : ((dataD s p 0).1 ≠ 0 ∧ (dataD s p 1).1 = (dataD s p 0).1) ∨ ((dataD s p 0).1 = 0 ∧ (dataD s p 0).2 = 0 ∧ (dataD s p 1).1 = 9) ∨ ((dataD s p 0).1 = 0 ∧ ¬ (dataD s p 0).2 = 0 ∧ (dataD s p 1).1 = 0 ∧ (dataD s p 1).2 = (dataD s p 0).2) := by
  have := strAt_bd s p
  by_cases h1 : p < s.size
  · by_cases h2 : strAt s p ≤ 127
    · by_cases h3 : strAt s p = 0
      · simp [dataD, h1, inB, h3]
      · have h4 : 1 ≤ strAt s p := by omega
        have h5 : 0 ≤ strAt s p := by omega
        simp [dataD, h1, inB, h2, h4, h5, h3]
    · simp [dataD, h1, inB, h2]
  · simp [dataD, h1]







































































































































end Go.Proofs.Ythopcmglcnlcfaa
