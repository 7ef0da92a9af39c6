/- Parts of the proof, together: Notes that overlap: the reference's test. Scores and tempo maps out of codes. StreamEvent: records in memory, and the laws' helpers on them. Events in order, in plain words. The events of a score are all different, in plain words. Regions that draw their order and only make new values: each operation's value is told by what it is. Regions that draw their order, in which some operations, each of wh No conditions. -/
import Derived.Test.YtbpaeonfebmomaaZzF10
import Derived.Test.YtbpaeonfebmomaaZzF11
import Derived.Test.YtbpaeonfebmomaaZzF8
import Derived.Laws.StructEq
import Derived.Test.YtbpaeonfebmomaaZzF7
namespace Go.Proofs.Ytbpaeonfebmomaa
open Go.RowKit
set_option linter.unusedVariables false
set_option linter.unusedSimpArgs false
set_option maxRecDepth 100000
attribute [local simp] List.getElem?_cons_zero
attribute [local irreducible] awCond awCall awLoop awDraw ow retQ retC resQ Keeps
def cmpX (a b : Frac) : Int := if fracB a = true ∧ fracB b = true then cmpF a b else 0
theorem CompareFrac_s {M : Mem} (a b : Frac) : Det Try.prog M.length 54 [a.v, b.v] M (iv (cmpX a b)) M := by
  first | (refine det_fn Try.func54 rfl Try.ntmps54 Try.results54 rfl rfl rfl (by simp) ?_) | (refine det_fnC Try.func54 rfl Try.ntmps54 Try.results54 rfl rfl (by simp) ?_)
  simp
  refine awCall_det' (l02Ok_a a) (by simp) ?_
  by_cases h1 : fracB a = true
  · simp [h1]
    refine awCall_det' (l02Ok_a b) (by simp) ?_
    by_cases h2 : fracB b = true
    · simp [h2]
      refine awCall_det' (compare_s a b h1 h2) (by simp) ?_
      simp [cmpX, h1, h2, keeps_app]
    · simp [cmpX, h1, h2, keeps_app]
  · simp [cmpX, h1, keeps_app]
def clashB (a b : Note) : Bool := decide (a.o = b.o) && decide (a.k = b.k) && decide (cmpX b.at_ a.fin < 0)
theorem l20Clash_a {M : Mem} {id off id' off' : Nat} {a b : Note} (hca : Cl M id off a.row) (hcb : Cl M id' off' b.row) :
    Det Try.prog M.length 24 [.pointer (some ⟨id, off, none⟩), .pointer (some ⟨id', off', none⟩)] M (.bool (clashB a b)) M := by
  obtain ⟨a0, a1, a2, a3, a4, a5, a6⟩ := note_cells hca
  obtain ⟨b0, b1, b2, b3, b4, b5, b6⟩ := note_cells hcb
  obtain ⟨g0, g2⟩ := note_cellsN hca
  obtain ⟨f0, f2⟩ := note_cellsN hcb
  first | (refine det_fn Try.func24 rfl Try.ntmps24 Try.results24 rfl rfl rfl (by simp) ?_) | (refine det_fnC Try.func24 rfl Try.ntmps24 Try.results24 rfl rfl (by simp) ?_)
  simp
  refine awDraw_M 13 [[],[0],[1,0],[2,1,0],[],[4],[5,4],[6,5,4],[3,2,1,0,7,6,5,4],[8,3,2,1,0,7,6,5,4],[9,8,3,2,1,0,7,6,5,4],[9,8,3,2,1,0,7,6,5,4],[],[12,10,9,8,3,2,1,0,7,6,5,4],[11,9,8,3,2,1,0,7,6,5,4,13,12,10]] [11] (by kernel_rfl) (by decide +kernel) (by decide +kernel) ?_
  simp (disch := omega) [g0, g2]
  refine awCall_det' (AddFrac_s a.at_ a.len) (by simp) ?_
  have hfin : (addF a.at_ a.len).1 = a.fin := rfl
  rw [hfin]
  simp (disch := omega)
  refine awDraw_E 26 [[],[0],[1,0],[2,1,0],[],[4],[5,4],[6,5,4],[3,2,1,0,7,6,5,4],[8,3,2,1,0,7,6,5,4],[9,8,3,2,1,0,7,6,5,4],[10,9,8,3,2,1,0,7,6,5,4],[11,10,9,8,3,2,1,0,7,6,5,4],[12,11,10,9,8,3,2,1,0,7,6,5,4],[9,8,3,2,1,0,7,6,5,4],[14,9,8,3,2,1,0,7,6,5,4],[15,14,9,8,3,2,1,0,7,6,5,4],[16,15,14,9,8,3,2,1,0,7,6,5,4],[13,12,11,10,9,8,3,2,1,0,7,6,5,4,17,16,15,14],[9,8,3,2,1,0,7,6,5,4,18,13,12,11,10,17,16,15,14],[19,9,8,3,2,1,0,7,6,5,4,18,13,12,11,10,17,16,15,14],[20,19,9,8,3,2,1,0,7,6,5,4,18,13,12,11,10,17,16,15,14],[21,20,19,9,8,3,2,1,0,7,6,5,4,18,13,12,11,10,17,16,15,14],[22,21,20,19,9,8,3,2,1,0,7,6,5,4,18,13,12,11,10,17,16,15,14],[23,22,21,20,19,9,8,3,2,1,0,7,6,5,4,18,13,12,11,10,17,16,15,14],[20,19,9,8,3,2,1,0,7,6,5,4,18,13,12,11,10,17,16,15,14],[24,23,22,21,20,19,9,8,3,2,1,0,7,6,5,4,18,13,12,11,10,17,16,15,14,25],[26,24,23,22,21,20,19,9,8,3,2,1,0,7,6,5,4,18,13,12,11,10,17,16,15,14,25],[20,19,9,8,3,2,1,0,7,6,5,4,18,13,12,11,10,17,16,15,14,27,26,24,23,22,21,25],[28,20,19,9,8,3,2,1,0,7,6,5,4,18,13,12,11,10,17,16,15,14,27,26,24,23,22,21,25]] (by kernel_rfl) (by kernel_rfl) ?_
  simp (disch := omega) [cellAt_app a6, cellAt_app b6, cellAt_app a4, cellAt_app b4, cellsAt_app f0]
  by_cases h1 : a.o = b.o
  · by_cases h2 : a.k = b.k
    · simp (disch := omega) [h1, h2, cellAt_app a6, cellAt_app b6, cellAt_app a4, cellAt_app b4, cellsAt_app f0]
      refine awCall_det' (CompareFrac_s b.at_ a.fin) (by simp) ?_
      simp [clashB, h1, h2, keeps_app]
    · simp (disch := omega) [h1, h2, clashB, keeps_app, cellAt_app a6, cellAt_app b6, cellAt_app a4, cellAt_app b4]
  · simp [h1, clashB, keeps_app]
end Go.Proofs.Ytbpaeonfebmomaa

namespace Go.Proofs.Ytbpaeonfebmomaa
open Go.RowKit
set_option linter.unusedVariables false
set_option linter.unusedSimpArgs false
set_option maxRecDepth 100000
attribute [local simp] List.getElem?_cons_zero
attribute [local irreducible] awCond awCall awLoop awDraw ow retQ retC resQ Keeps


















def ClashNo (l : List Note) : Prop := ∀ a b, a < b → b < l.length → clashB (el l a) (el l b) = false
set_option maxHeartbeats 2000000 in
theorem E8Score_a {M : Mem} {A : Option Addr} {n c : Nat} {cs : List Int} (h : Sl codeR M A n cs) (hn : n ≤ 1048576) (hcs : ∀ x, x ∈ cs → 0 ≤ x ∧ x ≤ 255) :
    Ctr Try.prog M.length 6 [.slice A n c] M fun r M' => ∃ (l : List Note) (v : Value), r = .agg #[v] ∧ Acc noteR 53 M.length M' v l ∧ l.length ≤ 10 ∧ (∀ x, x ∈ l → noteB x = true) ∧ ClashNo l ∧ Keeps M M' := by
  first | (refine ctr_fn Try.func6 rfl Try.ntmps6 Try.results6 rfl rfl (by simp) ?_) | (refine ctr_fnC Try.func6 rfl Try.ntmps6 Try.results6 rfl (by simp) ?_)
  simp
  refine awCall_det' (l00From_a (h.app _) hn hcs) (by simp) ?_
  simp
  have hs : Src (M.length + 1) (M.length + 2) (M ++ [Slot.live ⟨[.slice none 0 0], true, true, 26, 1⟩, Slot.live ⟨[.slice A n c, iv 0, .int .u64 0], true, true, 93, 3⟩]) 0 := by
    simpa using src_new (h.app [Slot.live ⟨[.slice none 0 0], true, true, 26, 1⟩]) hn hcs (c := c)
  refine awCall_ctr (l18Draw_a (b := M.length) (most := 10) hs (by omega) (by simp) (by omega) (by omega)) ?_
  rintro _ M1 ⟨xl, xv, rfl, hAx, hxl, hxv, -, hs1⟩
  obtain ⟨A1, q, c1, rfl, hq, hslx, -⟩ := hAx.sl
  have r0 : M1[M.length]? = some (Slot.live ⟨[.slice none 0 0], true, true, 26, 1⟩) := hs1.2 _ _ (by omega) (by simp)
  have k1 : Keeps M M1 := (hs1.low (B' := M.length) (by omega)).keeps (keeps_app _) (Nat.le_refl _)
  have l0 := (List.getElem?_eq_some_iff.1 r0).1
  refine ⟨rfl, ?_⟩
  rw [put_box (b := M.length) (cs := [.slice none 0 0]) (vs := (Value.agg #[.slice A1 q c1]).cells.toList) (by omega) rfl (by simp), ow_some, put_box (b := M.length) (cs := [.slice none 0 0]) (by simp; omega) rfl (by simp), ow_some]
  obtain ⟨M2, hM2⟩ : ∃ M' : Mem, M' = M1 ++ [Slot.live ⟨(Value.agg #[.slice A1 q c1]).cells.toList, true, true, 26, 1⟩] ++ [Slot.live ⟨[.slice none 0 0], true, true, 26, 1⟩] := ⟨_, rfl⟩
  have kk2 : Keeps M1 M2 := by rw [hM2, List.append_assoc]; exact keeps_app _
  have b1 : M2[M1.length]? = some (Slot.live ⟨[.slice A1 q c1], true, true, 26, 1⟩) := by rw [hM2]; simp
  have b2 : M2[M1.length + 1]? = some (Slot.live ⟨[.slice none 0 0], true, true, 26, 1⟩) := by rw [hM2]; simp
  have n2 : M2.length = M1.length + 2 := by rw [hM2]; simp
  rw [← hM2]
  simp only [List.length_append, List.length_cons, List.length_nil]
  clear hM2
  generalize hp : M1.length = p at *
  refine awLoop_T (fun m T M' => ∃ (l : List Note) (v : Value) (i : Nat), i + m = q ∧ l.length ≤ i ∧ M'[p]? = some (Slot.live ⟨[.slice A1 q c1], true, true, 26, 1⟩) ∧ M'[p + 1]? = some (Slot.live ⟨[v], true, true, 26, 1⟩) ∧ Acc noteR 53 (p + 2) M' v l ∧ (∀ x, x ∈ l → noteB x = true) ∧ ClashNo l ∧ Keeps M1 M' ∧ look T 6 = some (iv i) ∧ look T 5 = some (.pointer (some ⟨p + 1, 0, none⟩)) ∧ look T 4 = some (.pointer (some ⟨p, 0, none⟩)) ∧ look T 2 = some (.pointer (some ⟨M.length, 0, none⟩))) q
    ⟨[], _, 0, by omega, by simp, b1, b2, .nil, (fun x hx => by cases hx), (fun a b _ h => by simp at h), kk2, by simp, by simp, by simp, by simp⟩ ?_
  rintro m T M3 ⟨l, v, i, hi, hli, b1, b2, hA, hv, hcl, k3, t6, t5, t4, t2⟩
  have n3 : p + 1 < M3.length := (List.getElem?_eq_some_iff.1 b2).1
  by_cases hlt : i < q
  · obtain ⟨id, off, rfl, he, hcx⟩ := (hslx.keeps k3).at_ hlt
    obtain ⟨A, w, c2, rfl, hw, hsl, -⟩ := hA.sl
    simp (disch := omega) [t6, t5, t4, cell_hr b1, hlt]
    refine awLoop_T (fun m' T M' => ∃ (k : Nat) (ok : Bool), k + m' = w ∧ M' = M3 ∧ (ok = true ↔ ∀ j, j < k → clashB (el l j) (el xl i) = false) ∧ look T 7 = some (.bool ok) ∧ look T 8 = some (iv k) ∧ look T 6 = some (iv i) ∧ look T 5 = some (.pointer (some ⟨p + 1, 0, none⟩)) ∧ look T 4 = some (.pointer (some ⟨p, 0, none⟩)) ∧ look T 2 = some (.pointer (some ⟨M.length, 0, none⟩))) w
      ⟨0, true, by omega, rfl, by simp, by simp, by simp, by simp [t6], by simp [t5], by simp [t4], by simp [t2]⟩ ?_
    rintro m' T M' ⟨k, ok, hk, rfl, hok, t7, t8, t6, t5, t4, t2⟩
    have k3l := k3.len
    by_cases hkw : k < w
    · obtain ⟨ido, offo, rfl, heo, hco⟩ := hsl.at_ hkw
      simp (disch := omega) [t8, t5, cell_hr b2, hkw, t7]
      refine awDraw_E 10 [[],[0],[1,0],[2,1,0],[1,0],[3,2,1,0,4],[1,0],[6,1,0],[1,0],[7,6,1,0,8],[5,3,2,1,0,4,9,7,6,8],[10,5,3,2,1,0,4,9,7,6,8],[1,0,11,10,5,3,2,4,9,7,6,8],[12,1,0,11,10,5,3,2,4,9,7,6,8]] (by kernel_rfl) (by kernel_rfl) ?_
      cases ok
      · simp (disch := omega) [t7, t8, t6, t5, t4, cell_hr b1, cell_hr b2, hkw, hlt, he, heo, wrap_in]
        refine lpI (m' - 1) (by omega) ⟨k + 1, false, by omega, rfl, ?_, by simp, by simp, by simp [t6], by simp [t5], by simp [t4], by simp [t2]⟩
        constructor
        · intro h; cases h
        · intro h
          exact hok.2 fun j hj => h j (by omega)
      · simp (disch := omega) [t7, t8, t6, t5, t4, cell_hr b1, cell_hr b2, hkw, hlt, he, heo, wrap_in]
        refine awCall_det' (l20Clash_a hco hcx) (by omega) ?_
        simp (disch := omega) [t7, t8, t6, t5, t4, wrap_in]
        refine lpI (m' - 1) (by omega) ⟨k + 1, !clashB (el l k) (el xl i), by omega, rfl, ?_, by simp, by simp, by simp [t6], by simp [t5], by simp [t4], by simp [t2]⟩
        rw [Bool.not_eq_true']
        constructor
        · intro h j hj
          by_cases e : j = k
          · subst e; exact h
          · exact hok.1 rfl j (by omega)
        · intro h
          exact h k (by omega)
    · have e1 : ¬ (k : Int) < w := by omega
      simp (disch := omega) [t8, t5, cell_hr b2, e1, t7]
      cases ok
      · simp (disch := omega) [t7, t8, t6, t5, t4, wrap_in]
        exact lpI (m - 1) (by omega) ⟨l, _, i + 1, by omega, by omega, b1, b2, hA, hv, hcl, k3, by simp, by simp [t5], by simp [t4], by simp [t2]⟩
      · have c1 := fun L => cellAt_app (cell_hr b1 0) L
        have c2 := fun L => cellAt_app (cell_hr b2 0) L
        have cx := fun L => cellsAt_app (cellsAt_of (n := 7) hcx rfl (by omega)) L
        simp (disch := omega) [t7]
        refine awDraw_M 8 [[],[0],[],[2],[],[3,2,4],[5,3,2,4],[6,5,3,2,4],[1,0,7,6,5,3,2,4],[0,1,2,3,4,5,6,7,8],[9,0,1,2,3,4,5,6,7,8]] [] (by kernel_rfl) (by decide +kernel) (by decide +kernel) ?_
        simp (disch := omega) [t8, t6, t5, t4, c1, c2, cx, hlt, he, noteR, Note.row]
        refine (hA.keeps (keeps_app _)).append (R := noteR) (e := 53) (by_ := 56) (a := el xl i) (by omega) (by simp; omega) (by omega) (by simp) (by kernel_rfl) (by simp [srcOf, noteR, Note.row]) (by rfl) (by omega) (by unfold maxLen; omega) ?_
        intro v' M5 hA5 hS5
        have n5 := hS5.1
        simp only [List.length_append, List.length_cons, List.length_nil] at n5
        have b15 := hS5.2 p _ (by omega) (by rw [List.getElem?_append_left (by omega)]; exact b1)
        have b25 := hS5.2 (p + 1) _ (by omega) (by rw [List.getElem?_append_left (by omega)]; exact b2)
        have k5 : Keeps M1 M5 := hS5.keeps (k3.app _) (by omega)
        obtain ⟨A', w', c', rfl, hw', -, -⟩ := hA5.sl
        refine ⟨rfl, ?_⟩
        simp
        rw [put_whole (b := M.length) (vs := [.slice A' w' c']) b25 (by omega) rfl (by simp), ow_some]
        simp (disch := omega) [t6, wrap_in]
        refine lpI (m - 1) (by omega) ⟨l ++ [el xl i], .slice A' w' c', i + 1, by omega, by simp; omega, by rw [List.getElem?_set_ne (by omega)]; exact b15, set_get (by omega), hA5.set_ne (by omega), fun y hy => ?_, fun x y hxy hy => ?_, keeps_set k5 (by omega), by simp, by simp [t5], by simp [t4], by simp [t2]⟩
        · rcases List.mem_append.1 hy with hy | hy
          · exact hv y hy
          · rw [List.mem_singleton.1 hy]; exact hxv _ (el_mem (by omega))
        · simp only [List.length_append, List.length_cons, List.length_nil] at hy
          rw [el_append_left (by omega)]
          by_cases e : y = l.length
          · subst e
            rw [el_append_right (Nat.le_refl _), Nat.sub_self]
            exact hok.1 rfl x (by omega)
          · rw [el_append_left (by omega)]
            exact hcl x y hxy (by omega)
  · obtain ⟨A, w, c2, rfl, hw, hsl, -⟩ := hA.sl
    simp (disch := omega) [t6, t5, t4, t2, cell_hr b1, cells_hr (n := 1) b2 rfl, hlt]
    have r3 := k3.get r0
    have l3 := (List.getElem?_eq_some_iff.1 r3).1
    have := put_whole (b := M.length) (vs := [.slice A w c2]) r3 (by omega) rfl (by simp)
    rw [this, ow_some, cells_hr (r := ⟨[.slice A w c2], true, true, 26, 1⟩) (n := 1) (set_get l3) rfl, ow_some]
    exact ⟨l, _, rfl, (hA.set_ne (by omega)).low (by omega), by omega, hv, hcl, keeps_set (k1.trans k3) (Nat.le_refl _)⟩
end Go.Proofs.Ytbpaeonfebmomaa

namespace Go.Proofs.Ytbpaeonfebmomaa
open Go.RowKit
set_option linter.unusedVariables false
set_option linter.unusedSimpArgs false
set_option maxRecDepth 100000
attribute [local simp] List.getElem?_cons_zero
attribute [local irreducible] awCond awCall awLoop awDraw ow retQ retC resQ Keeps
structure StreamEvent where
  (d j o k u : Int)
deriving Inhabited, DecidableEq
def StreamEvent.row (c : StreamEvent) : List Value := [iv c.d, iv c.j, iv c.o, iv c.k, iv c.u]
def streamEventR : RecV StreamEvent 5 := ⟨StreamEvent.row, fun _ => rfl⟩
abbrev StreamEvent.v (c : StreamEvent) : Value := .agg #[iv c.d, iv c.j, iv c.o, iv c.k, iv c.u]
theorem streamEvent_cells {M : Mem} {id off : Nat} {g : StreamEvent} (h : Cl M id off g.row) : cellAt M id off = some (iv g.d) ∧ cellAt M id (off + 1) = some (iv g.j) ∧ cellAt M id (off + 2) = some (iv g.o) ∧ cellAt M id (off + 3) = some (iv g.k) ∧ cellAt M id (off + 4) = some (iv g.u) :=
  ⟨h 0 _ rfl, h 1 _ rfl, h 2 _ rfl, h 3 _ rfl, h 4 _ rfl⟩
theorem streamEvent_load {M : Mem} {id off : Nat} {g : StreamEvent} (h : Cl M id off g.row) : cellsAt M id off 5 = some [iv g.d, iv g.j, iv g.o, iv g.k, iv g.u] := cellsAt_of h rfl (by omega)
theorem streamEvent_eq {a b : StreamEvent} : a = b ↔ a.d = b.d ∧ a.j = b.j ∧ a.o = b.o ∧ a.k = b.k ∧ a.u = b.u := by
  cases a; cases b; simp
def streamEventI : Ints streamEventR := ⟨fun zs => ⟨gi zs 0, gi zs 1, gi zs 2, gi zs 3, gi zs 4⟩, fun zs h => by
  obtain ⟨x0, x1, x2, x3, x4, rfl⟩ : ∃ x0 x1 x2 x3 x4, zs = [x0, x1, x2, x3, x4] := by
    match zs, h with
    | [x0, x1, x2, x3, x4], _ => exact ⟨x0, x1, x2, x3, x4, rfl⟩
  rfl⟩

/-- Equality of records, as the language has it. -/
theorem streamEvent_same (a b : StreamEvent) : aggEq Try.prog 69 #[iv a.d, iv a.j, iv a.o, iv a.k, iv a.u] #[iv b.d, iv b.j, iv b.o, iv b.k, iv b.u] = some (decide (a = b)) := by
  refine aggEq_of (by kernel_rfl) rfl rfl fun w => ?_
  unfold Op.equal
  rw [show Op.maxDepth = 9999 + 1 from rfl]
  rw [run_equalIn_agg _ _ _ _ _ Try.underlying69 (by kernel_rfl)]
  simp [go_sem]
  repeat' split
  all_goals simp_all [streamEvent_eq]
theorem streamEvent_eql (a b : StreamEvent) : binV Try.prog .eql 69 (.agg #[iv a.d, iv a.j, iv a.o, iv a.k, iv a.u]) (.agg #[iv b.d, iv b.j, iv b.o, iv b.k, iv b.u]) = some (.bool (decide (a = b))) := by
  simp only [binV, eqV, Try.underlying69, streamEvent_same, Option.map_some]
theorem streamEvent_neq (a b : StreamEvent) : binV Try.prog .neq 69 (.agg #[iv a.d, iv a.j, iv a.o, iv a.k, iv a.u]) (.agg #[iv b.d, iv b.j, iv b.o, iv b.k, iv b.u]) = some (.bool (!decide (a = b))) := by
  simp only [binV, eqV, Try.underlying69, streamEvent_same, Option.map_some]
@[simp] theorem streamEvent_fill (x0 x1 x2 x3 x4 : Int) : Instr.fill (fun i => some (i * 5, 5)) (zrow [iv 0, iv 0, iv 0, iv 0, iv 0] 1).toArray [(0, .agg #[iv x0, iv x1, iv x2, iv x3, iv x4])] = some #[iv x0, iv x1, iv x2, iv x3, iv x4] := fill_agg (by omega) rfl rfl
theorem toStreamEvent_a {M : Mem} (g : StreamEvent) : Det Try.prog M.length 45 [g.v] M g.v M := by
  first | (refine det_fn Try.func45 rfl Try.ntmps45 Try.results45 rfl rfl rfl (by simp) ?_) | (refine det_fnC Try.func45 rfl Try.ntmps45 Try.results45 rfl rfl (by simp) ?_)
  simp [keeps_app]
theorem eqStreamEvent_a {M : Mem} (a b : StreamEvent) : Det Try.prog M.length 47 [a.v, b.v] M (.bool (decide (a = b))) M := by
  first | (refine det_fn Try.func47 rfl Try.ntmps47 Try.results47 rfl rfl rfl (by simp) ?_) | (refine det_fnC Try.func47 rfl Try.ntmps47 Try.results47 rfl rfl (by simp) ?_)
  simp
  repeat' (first | (refine awCond_split ?_ ?_ <;> intro _) | (simp [keeps_app]))
  all_goals (simp_all [streamEvent_eq])
theorem szStreamEventS_a {M : Mem} {A : Option Addr} {n c : Nat} (z : Int) (hz : 0 ≤ z) (hz1 : z ≤ 1048576) (hn : n ≤ maxLen) : Det Try.prog M.length 14 [.slice A n c, iv z] M (iv (if z - n < 0 then -1 else z - n)) M := by
  unfold maxLen at hn
  first | (refine det_fn Try.func14 rfl Try.ntmps14 Try.results14 rfl rfl rfl (by simp) ?_) | (refine det_fnC Try.func14 rfl Try.ntmps14 Try.results14 rfl rfl (by simp) ?_)
  simp (disch := omega) [wrap_in]
  refine awCond_split ?_ ?_ <;> intro h
  · simp at h
    simp [h, Keeps.refl]
    try omega
  · simp at h
    simp [h, Keeps.refl]
    try omega
theorem toStreamEventS_d {M : Mem} {A : Option Addr} {n c : Nat} {l : List StreamEvent} (h : Sl streamEventR M A n l) (hn : n ≤ 1099511627776) : Det Try.prog M.length 16 [.slice A n c] M (.slice (some ⟨M.length, 0, none⟩) n n) (M ++ [.live ⟨cellsL streamEventR l, true, true, 69, 5⟩]) := by
  have hl := h.1
  refine Ctr.det ?_
  first | (refine ctr_fn Try.func16 rfl Try.ntmps16 Try.results16 rfl rfl (by simp) ?_) | (refine ctr_fnC Try.func16 rfl Try.ntmps16 Try.results16 rfl (by simp) ?_)
  simp
  refine ⟨by omega, ?_⟩
  refine awLoop_T (fun m T M' => ∃ k : Nat, k + m = n ∧ M' = M ++ [.live ⟨cellsL streamEventR (l.take k) ++ zrow [iv 0, iv 0, iv 0, iv 0, iv 0] m, true, true, 69, 5⟩] ∧ look T 4 = some (iv k) ∧ look T 0 = some (.slice A n c) ∧ look T 3 = some (.slice (some ⟨M.length, 0, none⟩) n n)) n ⟨0, by omega, by simp [cellsL_nil], by simp, by simp, by simp⟩ ?_
  rintro m T M' ⟨k, hm, rfl, h4, h0, h3⟩
  by_cases hlt : k < n
  · obtain ⟨id, off, rfl, he, hc⟩ := h.at_ hlt
    have hc' := hc.app [.live ⟨cellsL streamEventR (l.take k) ++ zrow [iv 0, iv 0, iv 0, iv 0, iv 0] m, true, true, 69, 5⟩]
    simp (disch := omega) [h3, h4, h0, hlt, wrap_in, streamEvent_load hc']
    obtain ⟨m, rfl⟩ : ∃ m', m = m' + 1 := ⟨m - 1, by omega⟩
    refine awCall_det' ((toStreamEvent_a (el l k))) (by simp) ⟨by simp, ow_iff.2 ⟨_, putCells_rec streamEventR (a := el l k) (Nat.le_refl _) rfl (List.length_take_of_le (by omega)) rfl, ?_⟩⟩
    refine lpI m (by omega) ?_
    refine ⟨k + 1, by omega, by rw [take_el (by omega)], by simp, by simp [h0], by simp [h3]⟩
  · obtain rfl : k = n := by omega
    obtain rfl : m = 0 := by omega
    simp [h3, h4, h0, List.take_of_length_le (Nat.le_of_eq hl)]
theorem toStreamEventS_a {M : Mem} {A : Option Addr} {n c : Nat} {l : List StreamEvent} (h : Sl streamEventR M A n l) (hn : n ≤ 1099511627776) : Ctr Try.prog M.length 16 [.slice A n c] M fun v M' => Fresh streamEventR M v M' l :=
  (toStreamEventS_d h hn).ctr (Fresh.new h.1 (by omega))
theorem eqStreamEventS_a {M : Mem} {A B : Option Addr} {n c m d : Nat} {x y : List StreamEvent} (hx : Sl streamEventR M A n x) (hy : Sl streamEventR M B m y) (hn : n ≤ 1099511627776) : Det Try.prog M.length 18 [.slice A n c, .slice B m d] M (.bool (decide (x = y))) M := by
  have hlx := hx.1
  have hly := hy.1
  first | (refine det_fn Try.func18 rfl Try.ntmps18 Try.results18 rfl rfl rfl (by simp) ?_) | (refine det_fnC Try.func18 rfl Try.ntmps18 Try.results18 rfl rfl (by simp) ?_)
  simp
  refine awCond_split ?_ ?_ <;> intro hnm
  · simp at hnm
    simp
    exact ⟨fun e => by subst e; omega, Keeps.refl _⟩
  · simp at hnm
    obtain rfl : n = m := by omega
    simp
    refine awLoop_T (fun m T M' => ∃ k : Nat, k + m = n ∧ M' = M ∧ look T 5 = some (iv k) ∧ look T 0 = some (.slice A n c) ∧ look T 1 = some (.slice B n d) ∧ x.take k = y.take k) n ⟨0, by omega, rfl, by simp, by simp, by simp, by simp⟩ ?_
    rintro m T M' ⟨k, hm, rfl, h4, h0, h1, hk⟩
    by_cases hlt : k < n
    · obtain ⟨id, off, rfl, he, hc⟩ := hx.at_ hlt
      obtain ⟨id', off', rfl, he', hc'⟩ := hy.at_ hlt
      simp (disch := omega) [h4, h0, h1, hlt, wrap_in]
      refine awDraw_E 8 [[],[],[0,1],[2,0,1],[],[],[4,5],[6,4,5],[3,2,0,1,7,6,4,5],[8,3,2,0,1,7,6,4,5]] (by kernel_rfl) (by kernel_rfl) ?_
      simp (disch := omega) [h4, h0, h1, hlt, wrap_in, streamEvent_load hc, streamEvent_load hc']
      refine awCall_det' (eqStreamEvent_a (el x k) (el y k)) (Nat.le_refl _) ?_
      simp
      refine awCond_split ?_ ?_ <;> intro he
      · simp at he
        simp
        exact ⟨fun e => he (by rw [e]), Keeps.refl _⟩
      · simp at he
        simp (disch := omega) [h4, h0, h1, wrap_in]
        refine lpI (m - 1) (by omega) ?_
        exact ⟨k + 1, by omega, rfl, by simp, by simp [h0], by simp [h1], by rw [take_el (by omega), take_el (by omega), hk, he]⟩
    · obtain rfl : k = n := by omega
      rw [List.take_of_length_le (by omega), List.take_of_length_le (by omega)] at hk
      simp [h4, h0, h1, hk, Keeps.refl]
def markStreamEvent (z : Int) (i : Nat) : StreamEvent := ⟨z + i * 5, z + i * 5 + 1, z + i * 5 + 1 + 1, z + i * 5 + 1 + 1 + 1, z + i * 5 + 1 + 1 + 1 + 1⟩
def markStreamEventL (z : Int) (n : Nat) : List StreamEvent := (List.range n).map (markStreamEvent z)
theorem markStreamEventL_succ (z : Int) (n : Nat) : markStreamEventL z (n + 1) = markStreamEventL z n ++ [markStreamEvent z n] := by simp [markStreamEventL, List.range_succ]
theorem markStreamEventS_a {M : Mem} {b : Nat} {A : Option Addr} {n c : Nat} {x : List StreamEvent} (z : Int) (hx : Sl streamEventR M A n x) (ho : Ownd M A n) (hb : ∀ a, A = some a → 0 < n → b ≤ a.block) (hn : n ≤ 1099511627776) (hz0 : 0 ≤ z) (hz : z ≤ 1152921504606846976) :
    Ctr Try.prog b 19 [.slice A n c, iv z] M fun v M' => v = iv (z + n * 5) ∧ Sl streamEventR M' A n (markStreamEventL z n) ∧ Ownd M' A n ∧ Turned A n M M' := by
  have hlx := hx.1
  rcases Nat.eq_zero_or_pos n with rfl | hp
  · first | (refine ctr_fn Try.func19 rfl Try.ntmps19 Try.results19 rfl rfl (by simp) ?_) | (refine ctr_fnC Try.func19 rfl Try.ntmps19 Try.results19 rfl (by simp) ?_)
    simp
    refine awLoop_T (fun m T M' => M' = M ∧ look T 1 = some (iv z) ∧ look T 5 = some (iv 0) ∧ look T 0 = some (.slice A 0 c)) 0 ⟨rfl, by simp, by simp, by simp⟩ ?_
    rintro m T M' ⟨rfl, h1, h3, h0⟩
    simp [h1, h3, h0]
    obtain rfl := List.eq_nil_of_length_eq_zero hlx
    exact ⟨hx, ho, rfl, fun i s hs _ => hs⟩
  · obtain ⟨id, off, r, rfl, hr, ho⟩ := ho hp
    have hid := (List.getElem?_eq_some_iff.1 hr).1
    obtain ⟨hz5, hlen⟩ := hx.cells hr hp (by omega)
    have hb' : b ≤ id := hb _ rfl hp
    obtain ⟨cs, own, t, e, esz⟩ := r
    simp only at hz5 hlen ho
    subst hz5 ho
    have hM : M = M.set id (.live ⟨cs.take off ++ cellsL streamEventR (markStreamEventL z 0) ++ cs.drop (off + 0 * 5), true, t, e, 5⟩) := by
      rw [set_self]
      simp [markStreamEventL, cellsL_nil, hr]
    first | (refine ctr_fn Try.func19 rfl Try.ntmps19 Try.results19 rfl rfl (by simp) ?_) | (refine ctr_fnC Try.func19 rfl Try.ntmps19 Try.results19 rfl (by simp) ?_)
    simp
    refine awLoop_T (fun m T M' => ∃ j : Nat, j + m = n ∧ M' = M.set id (.live ⟨cs.take off ++ cellsL streamEventR (markStreamEventL z j) ++ cs.drop (off + j * 5), true, t, e, 5⟩) ∧ look T 5 = some (iv j) ∧ look T 1 = some (iv (z + j * 5)) ∧ look T 0 = some (.slice (some ⟨id, off, none⟩) n c)) n ⟨0, by omega, hM, by simp, by simp, by simp⟩ ?_
    rintro m T M' ⟨j, hm, rfl, h5, h1, h0⟩
    have hlm : (markStreamEventL z j).length = j := by simp [markStreamEventL]
    by_cases hlt : j < n
    · have hsp := splice_mid streamEventR (cs := cs) (off := off) (a := markStreamEvent z j) hlm (by omega)
      have hlc : (cs.take off ++ cellsL streamEventR (markStreamEventL z j) ++ cs.drop (off + j * 5)).length = cs.length := by
        simp only [List.length_append, List.length_take, List.length_drop, cellsL_len, hlm]; omega
      generalize cs.take off ++ cellsL streamEventR (markStreamEventL z j) ++ cs.drop (off + j * 5) = Cs at hsp hlc ⊢
      simp (disch := first | omega | (simp <;> omega)) [h5, h1, h0, hlt, wrap_in, rowEsz_set hid, put_set hid hb']
      refine lpI (m - 1) (by omega) ?_
      refine ⟨j + 1, by omega, ?_, by simp, by simp; omega, by simp [h0]⟩
      rw [markStreamEventL_succ, ← hsp]
      rfl
    · obtain rfl : j = n := by omega
      have hS := Sl.set (R := streamEventR) (M := M) (pre := cs.take off) (post := cs.drop (off + j * 5)) (o := true) (t := t) (e := e) hid (List.length_take_of_le (by omega)) hlm
      have hO : Ownd (M.set id (.live ⟨cs.take off ++ cellsL streamEventR (markStreamEventL z j) ++ cs.drop (off + j * 5), true, t, e, 5⟩)) (some ⟨id, off, none⟩) j := fun _ => ⟨_, _, _, rfl, List.getElem?_set_self hid, rfl⟩
      have hT : Turned (some ⟨id, off, none⟩) j M (M.set id (.live ⟨cs.take off ++ cellsL streamEventR (markStreamEventL z j) ++ cs.drop (off + j * 5), true, t, e, 5⟩)) := set_turned hp
      generalize M.set id (.live ⟨cs.take off ++ cellsL streamEventR (markStreamEventL z j) ++ cs.drop (off + j * 5), true, t, e, 5⟩) = M' at hS hO hT ⊢
      simp [h5, h1, h0]
      exact ⟨hS, hO, hT⟩
/-! The same, as the laws use them. -/
theorem sz_StreamEventS_over {M : Mem} {v : Value} {lo hi : Nat} {l : List StreamEvent} {z : Int} (h : RdL streamEventR lo hi M v l) (hz : 0 ≤ z) (hz1 : z ≤ 1048576) (hl : z < l.length) : Det Try.prog M.length 14 [v, iv z] M (iv (-1)) M := by
  obtain ⟨A, n, c, rfl, hn, hS, _⟩ := h
  have := szStreamEventS_a (M := M) (A := A) (n := n) (c := c) z hz hz1 (by unfold maxLen; omega)
  rwa [if_pos (by have := hS.1; omega)] at this
theorem sz_StreamEventS {M : Mem} {v : Value} {lo hi : Nat} {l : List StreamEvent} {z : Int} (h : RdL streamEventR lo hi M v l) (hz : 0 ≤ z) (hz1 : z ≤ 1048576) (hl : l.length ≤ z) : Det Try.prog M.length 14 [v, iv z] M (iv (z - l.length)) M := by
  obtain ⟨A, n, c, rfl, hn, hS, _⟩ := h
  have := szStreamEventS_a (M := M) (A := A) (n := n) (c := c) z hz hz1 (by unfold maxLen; omega)
  rw [if_neg (by have := hS.1; omega)] at this
  rwa [hS.1]
theorem to_StreamEventS {M : Mem} {v : Value} {lo hi : Nat} {l : List StreamEvent} (h : RdL streamEventR lo hi M v l) (hl : l.length ≤ 1048576) : Ctr Try.prog M.length 16 [v] M fun v' M' => OwL streamEventR M.length M'.length M' v' l ∧ Keeps M M' := by
  obtain ⟨A, n, c, rfl, hn, hS, _⟩ := h
  exact (toStreamEventS_a hS (by have := hS.1; omega)).mono fun v' M' h => h.ow
theorem eq_StreamEventS {M : Mem} {v w : Value} {lo hi lo' hi' : Nat} {x y : List StreamEvent} (hx : OwL streamEventR lo hi M v x) (hy : RdL streamEventR lo' hi' M w y) : Det Try.prog M.length 18 [v, w] M (.bool (decide (x = y))) M := by
  obtain ⟨A, n, c, rfl, hn, hS, _⟩ := hx
  obtain ⟨B, m, d, rfl, hm, hT, _⟩ := hy
  exact eqStreamEventS_a hS hT hn
theorem mark_StreamEventS {M : Mem} {b : Nat} {v : Value} {lo hi : Nat} {l : List StreamEvent} {z : Int} (h : OwL streamEventR lo hi M v l) (hb : b ≤ lo) (hz : 0 ≤ z) (hz1 : z ≤ 1152921504606846976) :
    Ctr Try.prog b 19 [v, iv z] M fun r M' => r = iv (z + l.length * 5) ∧ OwL streamEventR lo hi M' v (markStreamEventL z l.length) ∧ Turn lo hi M M' := by
  obtain ⟨A, n, c, rfl, hn, hS, hi', ho⟩ := h
  exact (markStreamEventS_a z hS ho (fun a e hp => by have := hi' a e hp; omega) hn hz hz1).mono fun r M' ⟨h1, h2, h3, h4⟩ => ⟨by rw [h1, hS.1], ⟨A, n, c, rfl, hn, by rw [hS.1]; exact h2, hi', h3⟩, Nat.le_of_eq h4.1.symm, fun i s hs hd => h4.2 i s hs fun a e hp => by have := hi' a e hp; omega⟩
end Go.Proofs.Ytbpaeonfebmomaa

namespace Go.Proofs.Ytbpaeonfebmomaa
open Go.RowKit
set_option linter.unusedVariables false
set_option linter.unusedSimpArgs false
/-- The order of events. -/
def cmpE (a b : StreamEvent) : Int := if a.d ≠ b.d then a.d - b.d else if a.j ≠ b.j then b.j - a.j else if a.o ≠ b.o then a.o - b.o else a.k - b.k
theorem cmpE_lt {a b : StreamEvent} : cmpE a b < 0 ↔ a.d < b.d ∨ (a.d = b.d ∧ (b.j < a.j ∨ (a.j = b.j ∧ (a.o < b.o ∨ (a.o = b.o ∧ a.k < b.k))))) := by
  unfold cmpE
  repeat' split
  all_goals omega
theorem cmpE_zero {a b : StreamEvent} : cmpE a b = 0 ↔ a.d = b.d ∧ a.j = b.j ∧ a.o = b.o ∧ a.k = b.k := by
  unfold cmpE
  repeat' split
  all_goals omega
theorem cmpE_neg (a b : StreamEvent) : cmpE b a = -cmpE a b := by
  unfold cmpE
  repeat' split
  all_goals omega
/-- a is not behind b. -/
def LeE (a b : StreamEvent) : Prop := cmpE a b ≤ 0
theorem LeE.trans {a b c : StreamEvent} (h1 : LeE a b) (h2 : LeE b c) : LeE a c := by
  have e : ∀ x y : StreamEvent, cmpE x y ≤ 0 ↔ ¬ cmpE y x < 0 := fun x y => by rw [cmpE_neg x y]; omega
  unfold LeE at *
  rw [e] at *
  rw [cmpE_lt] at *
  omega
theorem LeE.of_not {a b : StreamEvent} (h : ¬ cmpE b a < 0) : LeE a b := by
  unfold LeE
  rw [cmpE_neg a b] at h
  omega
/-- The place behind which an event is put. -/
def posE (e : StreamEvent) (l : List StreamEvent) : Nat → Nat
  | 0 => 0
  | k + 1 => if cmpE e (el l k) < 0 then posE e l k else k + 1
def insE (l : List StreamEvent) (e : StreamEvent) : List StreamEvent := l.take (posE e l l.length) ++ e :: l.drop (posE e l l.length)
theorem posE_le (e : StreamEvent) (l : List StreamEvent) : ∀ k, posE e l k ≤ k
  | 0 => Nat.le_refl _
  | k + 1 => by
    rw [posE]
    split
    · have := posE_le e l k; omega
    · exact Nat.le_refl _
theorem posE_at (e : StreamEvent) (l : List StreamEvent) : ∀ k, (∀ i, posE e l k ≤ i → i < k → cmpE e (el l i) < 0) ∧ (0 < posE e l k → ¬ cmpE e (el l (posE e l k - 1)) < 0)
  | 0 => ⟨fun i _ h => by omega, fun h => by simp [posE] at h⟩
  | k + 1 => by
    rw [posE]
    split
    · rename_i h
      obtain ⟨h1, h2⟩ := posE_at e l k
      refine ⟨fun i ha hb => ?_, h2⟩
      by_cases e' : i = k
      · rw [e']; exact h
      · exact h1 i ha (by omega)
    · rename_i h
      exact ⟨fun i ha hb => by omega, fun _ => h⟩
theorem insE_perm (l : List StreamEvent) (e : StreamEvent) : (insE l e).Perm (l ++ [e]) := by
  unfold insE
  generalize posE e l l.length = p
  have h1 : (l.take p ++ e :: l.drop p).Perm (e :: (l.take p ++ l.drop p)) := List.perm_middle
  rw [List.take_append_drop] at h1
  exact h1.trans (List.perm_append_singleton e l).symm
theorem insE_sorted {l : List StreamEvent} {e : StreamEvent} (h : l.Pairwise LeE) : (insE l e).Pairwise LeE := by
  unfold insE
  obtain ⟨h1, h2⟩ := posE_at e l l.length
  have hp := posE_le e l l.length
  generalize posE e l l.length = p at *
  have hpw := List.pairwise_iff_getElem.1 h
  have lt : ∀ i j, i < j → j < l.length → LeE (el l i) (el l j) := fun i j hij hj => by
    have := hpw i j (by omega) hj hij
    rwa [el_eq, el_eq] at this
  have bef : ∀ x, x ∈ l.take p → LeE x e := fun x hx => by
    obtain ⟨i, hi, rfl⟩ := List.getElem_of_mem hx
    rw [List.length_take] at hi
    rw [List.getElem_take, el_eq (by omega)]
    have hl : LeE (el l (p - 1)) e := .of_not (h2 (by omega))
    by_cases ei : i = p - 1
    · rw [ei]; exact hl
    · exact (lt i (p - 1) (by omega) (by omega)).trans hl
  have beh : ∀ x, x ∈ l.drop p → LeE e x := fun x hx => by
    obtain ⟨i, hi, rfl⟩ := List.getElem_of_mem hx
    rw [List.length_drop] at hi
    rw [List.getElem_drop, el_eq (by omega)]
    have := h1 (p + i) (by omega) (by omega)
    unfold LeE
    omega
  rw [List.pairwise_append]
  refine ⟨h.sublist (List.take_sublist _ _), List.pairwise_cons.2 ⟨beh, h.sublist (List.drop_sublist _ _)⟩, fun a ha b hb => ?_⟩
  rcases List.mem_cons.1 hb with rfl | hb
  · exact bef a ha
  · exact (bef a ha).trans (beh b hb)
/-- The events, one put behind the other. -/
def sortE (l : List StreamEvent) : List StreamEvent := l.foldl insE []
theorem foldE (l : List StreamEvent) : ∀ acc : List StreamEvent, acc.Pairwise LeE → (l.foldl insE acc).Pairwise LeE ∧ (l.foldl insE acc).Perm (acc ++ l) := by
  induction l with
  | nil => exact fun acc h => ⟨h, by simp⟩
  | cons e l ih =>
    intro acc h
    obtain ⟨h1, h2⟩ := ih (insE acc e) (insE_sorted h)
    refine ⟨h1, h2.trans ?_⟩
    have := (insE_perm acc e).append_right l
    simpa using this
theorem sortE_sorted (l : List StreamEvent) : (sortE l).Pairwise LeE := (foldE l [] .nil).1
theorem sortE_perm (l : List StreamEvent) : (sortE l).Perm l := by
  have := (foldE l [] .nil).2
  simpa [sortE] using this
/-- Two lists of the same events, each in order, are one, where events that are level are one. -/
theorem sort_one : ∀ (a b : List StreamEvent), a.Perm b → a.Pairwise LeE → b.Pairwise LeE → (∀ x y, x ∈ a → y ∈ a → cmpE x y = 0 → x = y) → a = b
  | [], b, hp, _, _, _ => by rw [List.Perm.eq_nil hp.symm]
  | x :: a, [], hp, _, _, _ => by have := hp.length_eq; simp at this
  | x :: a, y :: b, hp, ha, hb, hu => by
    have hx : x ∈ y :: b := hp.mem_iff.1 (by simp)
    have hy : y ∈ x :: a := hp.mem_iff.2 (by simp)
    obtain ⟨ha1, ha2⟩ := List.pairwise_cons.1 ha
    obtain ⟨hb1, hb2⟩ := List.pairwise_cons.1 hb
    have exy : x = y := by
      by_cases e : x = y
      · exact e
      · have h1 : y ∈ a := by
          rcases List.mem_cons.1 hy with h | h
          · exact absurd h.symm e
          · exact h
        have h2 : x ∈ b := by
          rcases List.mem_cons.1 hx with h | h
          · exact absurd h e
          · exact h
        have l1 := ha1 y h1
        have l2 := hb1 x h2
        unfold LeE at l1 l2
        rw [cmpE_neg x y] at l2
        exact hu x y (by simp) hy (by omega)
    subst exy
    rw [sort_one a b (List.Perm.cons_inv hp) ha2 hb2 fun p q hp hq => hu p q (by simp [hp]) (by simp [hq])]
/-- Ticks for times. -/
def dltE : Int → List StreamEvent → List StreamEvent
  | _, [] => []
  | b, e :: l => { e with d := e.d - b } :: dltE e.d l
theorem dltE_len : ∀ (l : List StreamEvent) (b : Int), (dltE b l).length = l.length
  | [], _ => rfl
  | e :: l, b => by simp [dltE, dltE_len l]
end Go.Proofs.Ytbpaeonfebmomaa

namespace Go.Proofs.Ytbpaeonfebmomaa
open Go.RowKit
set_option linter.unusedVariables false
set_option linter.unusedSimpArgs false
def tkV (D : Int) (f : Frac) : Int := f.n * D / f.d
def tkB (D : Int) (f : Frac) : Bool := decide (f.n * D % f.d = 0)
def okT (D : Int) (n : Note) : Bool := tkB D n.at_ && tkB D n.fin
def onE (D : Int) (n : Note) : StreamEvent := ⟨tkV D n.at_, 1, n.o, n.k, n.u⟩
def ofE (D : Int) (n : Note) : StreamEvent := ⟨tkV D n.fin, 2, n.o, n.k, 0⟩
def evsL (D : Int) (l : List Note) : List StreamEvent := l.flatMap fun n => [onE D n, ofE D n]
def hitB (l : List Note) : Bool := (List.range l.length).any fun j => (List.range j).any fun i => clashB (el l i) (el l j)
def stV (l : List Note) (D : Int) : List StreamEvent × Int :=
  if scoreB l = false then ([], 1) else if inB D 1 960 = false then ([], 2) else if l.all (okT D) = false then ([], 6) else if hitB l = true then ([], 4) else (dltE 0 (sortE (evsL D l)), 0)
theorem hitB_no {l : List Note} : hitB l = false ↔ ∀ i j, i < j → j < l.length → clashB (el l i) (el l j) = false := by
  unfold hitB
  rw [List.any_eq_false]
  constructor
  · intro h i j hij hj
    have := h j (List.mem_range.2 hj)
    rw [Bool.not_eq_true, List.any_eq_false] at this
    have := this i (List.mem_range.2 hij)
    simpa using this
  · intro h j hj
    rw [Bool.not_eq_true, List.any_eq_false]
    intro i hi
    rw [h i j (List.mem_range.1 hi) (List.mem_range.1 hj)]
    simp
theorem hitB_yes {l : List Note} {i j : Nat} (hij : i < j) (hj : j < l.length) (h : clashB (el l i) (el l j) = true) : hitB l = true := by
  unfold hitB
  exact List.any_eq_true.2 ⟨j, List.mem_range.2 hj, List.any_eq_true.2 ⟨i, List.mem_range.2 hij, h⟩⟩
theorem tk_mul {D : Int} {f : Frac} (h : tkB D f = true) : f.n * D = tkV D f * f.d := by
  unfold tkB at h
  have h := of_decide_eq_true h
  unfold tkV
  exact (Int.ediv_mul_cancel (Int.dvd_of_emod_eq_zero h)).symm
theorem tk_lt {D : Int} {a b : Frac} (ha : tkB D a = true) (hb : tkB D b = true) (hD : 0 < D) (h1 : 0 < a.d) (h2 : 0 < b.d) : a.n * b.d < b.n * a.d ↔ tkV D a < tkV D b := by
  have e1 := tk_mul ha
  have e2 := tk_mul hb
  have hP : 0 < a.d * b.d := Int.mul_pos h1 h2
  have f1 : a.n * b.d * D = tkV D a * (a.d * b.d) := by rw [Int.mul_right_comm, e1, Int.mul_assoc]
  have f2 : b.n * a.d * D = tkV D b * (a.d * b.d) := by rw [Int.mul_right_comm, e2, Int.mul_assoc, Int.mul_comm b.d a.d]
  constructor
  · intro h
    have := Int.mul_lt_mul_of_pos_right h hD
    rw [f1, f2] at this
    exact Int.lt_of_mul_lt_mul_right this (Int.le_of_lt hP)
  · intro h
    have := Int.mul_lt_mul_of_pos_right h hP
    rw [← f1, ← f2] at this
    exact Int.lt_of_mul_lt_mul_right this (Int.le_of_lt hD)
theorem cmpF_tk {D : Int} {a b : Frac} (ha : tkB D a = true) (hb : tkB D b = true) (hD : 0 < D) (h1 : 0 < a.d) (h2 : 0 < b.d) : (cmpF a b < 0 ↔ tkV D a < tkV D b) ∧ (cmpF a b = 0 ↔ tkV D a = tkV D b) := by
  have x := tk_lt ha hb hD h1 h2
  have y := tk_lt hb ha hD h2 h1
  unfold cmpF
  constructor <;> (repeat' split) <;> omega
theorem note_dens {n : Note} (h : noteB n = true) : 0 < n.at_.d ∧ 0 < n.fin.d := by
  obtain ⟨h1, h2⟩ := note_end h
  have a := (fracB_iff.1 h1).1.1
  have b := (fracB_iff.1 h2).1.1
  omega
theorem note_pos {n : Note} (h : noteB n = true) : n.at_.n * n.fin.d < n.fin.n * n.at_.d := by
  obtain ⟨h1, h2, h3, h4, -⟩ := noteB_iff.1 h
  have f1 := (beatB_iff.1 h1).1
  have f2 := beatB_iff.1 h2
  obtain ⟨d1, d2⟩ := note_dens h
  have hq := addF_q f1 f2.1 h4
  have hd := (fracB_iff.1 f2.1).1.1
  have hl : ¬ n.len.q ≤ 0 := by
    intro hh
    unfold Frac.q at hh
    rw [show (0 : Rat) = Rat.divInt 0 1 from rfl, divInt_le (by omega) (by omega)] at hh
    have : n.len.n = n.ln := rfl
    omega
  have hn : ¬ n.fin.q ≤ n.at_.q := by
    intro hh
    unfold Note.fin at hh
    rw [hq] at hh
    grind
  unfold Frac.q at hn
  rw [divInt_le d2 d1] at hn
  omega
/-- What is known of the notes' ticks. -/
structure TkS (D : Int) (l : List Note) : Prop where
  up : ∀ i, i < l.length → tkV D (el l i).at_ < tkV D (el l i).fin
  lex : ∀ i j, i < j → j < l.length → tkV D (el l i).at_ < tkV D (el l j).at_ ∨ (tkV D (el l i).at_ = tkV D (el l j).at_ ∧ ((el l i).o < (el l j).o ∨ ((el l i).o = (el l j).o ∧ (el l i).k < (el l j).k)))
  free : ∀ i j, i < j → j < l.length → (el l i).o = (el l j).o → (el l i).k = (el l j).k → tkV D (el l i).fin ≤ tkV D (el l j).at_
theorem tkS_of {D : Int} {l : List Note} (hs : scoreB l = true) (hD : 0 < D) (ht : l.all (okT D) = true) (hc : hitB l = false) : TkS D l := by
  unfold scoreB at hs
  simp only [Bool.and_eq_true, decide_eq_true_eq] at hs
  obtain ⟨⟨_, hv⟩, ho⟩ := hs
  have nv : ∀ i, i < l.length → noteB (el l i) = true := fun i hi => all_el hv hi
  have tk : ∀ i, i < l.length → tkB D (el l i).at_ = true ∧ tkB D (el l i).fin = true := fun i hi => by
    have := List.all_eq_true.1 ht _ (el_mem hi)
    unfold okT at this
    simpa using this
  refine ⟨fun i hi => ?_, fun i j hij => ?_, fun i j hij hj eo ek => ?_⟩
  · obtain ⟨d1, d2⟩ := note_dens (nv i hi)
    exact (tk_lt (tk i hi).1 (tk i hi).2 hD d1 d2).1 (note_pos (nv i hi))
  · have step : ∀ i, i + 1 < l.length → tkV D (el l i).at_ < tkV D (el l (i + 1)).at_ ∨ (tkV D (el l i).at_ = tkV D (el l (i + 1)).at_ ∧ ((el l i).o < (el l (i + 1)).o ∨ ((el l i).o = (el l (i + 1)).o ∧ (el l i).k < (el l (i + 1)).k))) := fun i hi => by
      have := ho (i + 1) hi (by omega)
      rw [Nat.add_sub_cancel] at this
      obtain ⟨c1, c2⟩ := cmpF_tk (tk i (by omega)).1 (tk (i + 1) hi).1 hD (note_dens (nv i (by omega))).1 (note_dens (nv (i + 1) hi)).1
      unfold ordN at this
      split at this
      · exact .inl (c1.1 this)
      · rename_i hz
        refine .inr ⟨c2.1 (by omega), ?_⟩
        split at this <;> omega
    induction j with
    | zero => omega
    | succ j ih =>
      intro hj
      have s := step j hj
      by_cases e : i = j
      · subst e; exact s
      · have := ih (by omega) (by omega)
        omega
  · have := hitB_no.1 hc i j hij hj
    unfold clashB at this
    simp only [eo, ek, decide_true, Bool.true_and, decide_eq_false_iff_not] at this
    have hi : i < l.length := by omega
    obtain ⟨a1, a2⟩ := note_end (nv i hi)
    obtain ⟨b1, b2⟩ := note_end (nv j hj)
    unfold cmpX at this
    rw [if_pos ⟨b1, a2⟩] at this
    have c := (cmpF_tk (tk j hj).1 (tk i hi).2 hD (note_dens (nv j hj)).1 (note_dens (nv i hi)).2).1
    omega
theorem evs_one {D : Int} {l : List Note} (h : TkS D l) : ∀ x y, x ∈ evsL D l → y ∈ evsL D l → cmpE x y = 0 → x = y := by
  have mem : ∀ x, x ∈ evsL D l → ∃ i, i < l.length ∧ (x = onE D (el l i) ∨ x = ofE D (el l i)) := fun x hx => by
    unfold evsL at hx
    obtain ⟨n, hn, hx⟩ := List.mem_flatMap.1 hx
    obtain ⟨i, hi, rfl⟩ := List.getElem_of_mem hn
    rw [el_eq hi] at hx
    exact ⟨i, hi, by simpa using hx⟩
  intro x y hx hy hz
  obtain ⟨i, hi, ex⟩ := mem x hx
  obtain ⟨j, hj, ey⟩ := mem y hy
  rw [cmpE_zero] at hz
  by_cases e : i = j
  · subst e
    rcases ex with rfl | rfl <;> rcases ey with rfl | rfl
    · rfl
    · have := hz.2.1; simp [onE, ofE] at this
    · have := hz.2.1; simp [onE, ofE] at this
    · rfl
  · exfalso
    have u1 := h.up i hi
    have u2 := h.up j hj
    rcases Nat.lt_or_ge i j with hij | hij
    · have l1 := h.lex i j hij hj
      have l2 := h.free i j hij hj
      rcases ex with rfl | rfl <;> rcases ey with rfl | rfl <;> simp only [onE, ofE] at hz <;> obtain ⟨z1, z2, z3, z4⟩ := hz <;> first | omega | (have := l2 z3 z4; omega)
    · have l1 := h.lex j i (by omega) hi
      have l2 := h.free j i (by omega) hi
      rcases ex with rfl | rfl <;> rcases ey with rfl | rfl <;> simp only [onE, ofE] at hz <;> obtain ⟨z1, z2, z3, z4⟩ := hz <;> first | omega | (have := l2 z3.symm z4.symm; omega)
theorem evsL_len (D : Int) (l : List Note) : (evsL D l).length = 2 * l.length := by
  unfold evsL
  induction l with
  | nil => rfl
  | cons n l ih => simp only [List.flatMap_cons, List.length_append, ih, List.length_cons, List.length_nil]; omega
end Go.Proofs.Ytbpaeonfebmomaa

namespace Go.Proofs.Ytbpaeonfebmomaa
open Go.RowKit
set_option linter.unusedVariables false
set_option linter.unusedSimpArgs false
/-- kill j: the operations behind which nothing is said of j's value. -/
theorem awDraw_K {P : Program} {b : Nat} {ops : List Oper} {Q : St → Prop} {S : St} (kill : Nat → List Nat) (Φ : Nat → Value → Mem → Prop) (mono : ∀ k v M M', Φ k v M → Keeps M M' → Φ k v M')
    (h1 : P.follows .mixedOrders = true) (h2 : drawBack ⟨ops⟩ = true) (h3 : dstOnce ⟨ops⟩ = true)
    (hstep : ∀ (X : Nat → Bool) (k : Nat) (o : Oper) (T : List (Nat × Value)) (M : Mem) (K : Value → Mem → Prop), Closed ops X → X k = false → Keeps S.M M → (∀ j d, edge ops k j = true → dstOf ⟨ops⟩ j = some d → ∃ v, look T d = some v ∧ ((∀ z, z ∈ kill j → X z = false) → Φ j v M)) → (∀ t, noDst ⟨ops⟩ t = true → look T t = look S.T t) → ops[k]? = some o →
      (∀ v M', (Keeps M M' ∨ (Keeps S.M M' ∧ ∀ j u, X j = true → k ∉ kill j → Φ j u M → Φ j u M')) → Φ k v M' → K v M') → sOp P false b o ⟨S.n, T, M⟩ K)
    (hend : ∀ (T : List (Nat × Value)) (M : Mem), Keeps S.M M → (∀ k d, k < ops.length → dstOf ⟨ops⟩ k = some d → ∃ v, look T d = some v ∧ (kill k = [] → Φ k v M)) → (∀ t, noDst ⟨ops⟩ t = true → look T t = look S.T t) → Q ⟨S.n, T, M⟩) : awDraw P b ⟨ops⟩ Q S := by
  refine awDraw_G (fun X γ M => Keeps S.M M ∧ ∀ k, X k = true → (∀ z, z ∈ kill k → X z = false) → Φ k (γ k) M) h1 h2 h3 (fun γ => ⟨Keeps.refl _, fun k h => by cases h⟩) ?_ ?_
  · intro X γ T M k o K hC hT hG ho hX ha hK
    refine hstep X k o T M K hC hX hG.1 (fun j d he hd => ?_) (fun t ht => hT.frame' t ht) ho fun v M' hk hv => hK v M' ⟨?_, fun j hj hz => ?_⟩
    · have hj := edge_ahead ho ha j he
      exact ⟨γ j, hT.done j d hj hd, hG.2 j hj⟩
    · rcases hk with hk | hk
      · exact hG.1.trans hk
      · exact hk.1
    · by_cases e : j = k
      · subst e
        rw [show upG γ j v j = v by simp [upG]]
        exact hv
      · rw [upX_ne e] at hj
        rw [upG_ne e]
        have hkn : k ∉ kill j := fun h => by have := hz k h; rw [upX_same] at this; cases this
        have hz' : ∀ z, z ∈ kill j → X z = false := fun z h => by
          have := hz z h
          rw [upX_ne (fun e => hkn (by rw [← e]; exact h))] at this
          exact this
        rcases hk with hk | hk
        · exact mono _ _ _ _ (hG.2 j hj hz') hk
        · exact hk.2 j _ hj hkn (hG.2 j hj hz')
  · intro X γ T M hX hT hG
    refine hend T M hG.1 (fun k d hk hd => ⟨γ k, hT.done k d (hX k hk) hd, fun hn => hG.2 k (hX k hk) fun z hz => by rw [hn] at hz; cases hz⟩) fun t ht => hT.frame' t ht
end Go.Proofs.Ytbpaeonfebmomaa

namespace Go.Proofs.Ytbpaeonfebmomaa
open Go.RowKit
set_option linter.unusedVariables false
set_option linter.unusedSimpArgs false
/-- m waits for k, through others too. -/
def reachE (ops : List Oper) : Nat → Nat → Nat → Bool
  | 0, m, k => edge ops m k
  | n + 1, m, k => edge ops m k || (List.range ops.length).any fun j => edge ops m j && reachE ops n j k
theorem reachE_at {ops : List Oper} {X : Nat → Bool} (hC : Closed ops X) : ∀ {n m k : Nat}, reachE ops n m k = true → X m = true → X k = true
  | 0, m, k, h, hm => hC.at_ k hm h
  | n + 1, m, k, h, hm => by
    simp only [reachE, Bool.or_eq_true, List.any_eq_true, Bool.and_eq_true] at h
    rcases h with h | ⟨j, _, h1, h2⟩
    · exact hC.at_ k hm h
    · exact reachE_at hC h2 (hC.at_ j hm h1)
def chainOk (ops : List Oper) (ms : List Nat) : Bool := decide ms.Nodup && ms.all (fun m => decide (m < ops.length)) && (List.range ms.length).all fun i => match ms[i + 1]?, ms[i]? with
  | some a, some b => reachE ops 4 a b
  | _, _ => true
/-- What is known of an operation that is waited for. -/
def Dep (ms : List Nat) (Φ : Nat → Value → Prop) (vs : List Value) (j : Nat) (v : Value) : Prop := (ms.contains j = false → Φ j v) ∧ ∀ i : Nat, ms[i]? = some j → vs[i]? = some v
theorem chain_at {ops : List Oper} {ms : List Nat} (h : chainOk ops ms = true) {i a b : Nat} (ha : ms[i + 1]? = some a) (hb : ms[i]? = some b) : reachE ops 4 a b = true := by
  unfold chainOk at h
  simp only [Bool.and_eq_true, List.all_eq_true] at h
  have := h.2 i (List.mem_range.2 (List.getElem?_eq_some_iff.1 hb).1)
  rw [ha, hb] at this
  exact this
theorem chain_inj {ops : List Oper} {ms : List Nat} (h : chainOk ops ms = true) {i j a : Nat} (hi : ms[i]? = some a) (hj : ms[j]? = some a) : i = j := by
  unfold chainOk at h
  simp only [Bool.and_eq_true, decide_eq_true_eq] at h
  have hn := h.1.1
  obtain ⟨h1, e1⟩ := List.getElem?_eq_some_iff.1 hi
  obtain ⟨h2, e2⟩ := List.getElem?_eq_some_iff.1 hj
  exact (List.getElem_inj hn).1 (e1.trans e2.symm)
theorem chain_lt {ops : List Oper} {ms : List Nat} (h : chainOk ops ms = true) {i a : Nat} (hi : ms[i]? = some a) : a < ops.length := by
  unfold chainOk at h
  simp only [Bool.and_eq_true, List.all_eq_true] at h
  have := h.1.2 a (List.mem_of_getElem? hi)
  simpa using this
theorem not_ms {ms : List Nat} {k : Nat} (h : ms.contains k = false) {i a : Nat} (hi : ms[i]? = some a) : a ≠ k := by
  intro e
  subst e
  have := List.mem_of_getElem? hi
  simp [this] at h
theorem awDraw_C {P : Program} {b : Nat} {ops : List Oper} {Q : St → Prop} {S : St} (ms : List Nat) (Φ : Nat → Value → Prop) (Ψ : List Value → Mem → Prop)
    (h1 : P.follows .mixedOrders = true) (h2 : drawBack ⟨ops⟩ = true) (h3 : dstOnce ⟨ops⟩ = true) (hms : chainOk ops ms = true) (h0 : Ψ [] S.M)
    (hread : ∀ (k : Nat) (o : Oper) (T : List (Nat × Value)) (M : Mem) (vs : List Value) (K : Value → Mem → Prop), ms.contains k = false → ops[k]? = some o → Ψ vs M → (∀ i m, ms[i]? = some m → reachE ops 3 m k = true → vs.length ≤ i) →
      (∀ j d, edge ops k j = true → dstOf ⟨ops⟩ j = some d → ∃ v, look T d = some v ∧ Dep ms Φ vs j v) → (∀ t, noDst ⟨ops⟩ t = true → look T t = look S.T t) → (∀ v, Φ k v → K v M) → sOp P false b o ⟨S.n, T, M⟩ K)
    (hmove : ∀ (i k : Nat) (o : Oper) (T : List (Nat × Value)) (M : Mem) (vs : List Value) (K : Value → Mem → Prop), ms[i]? = some k → ops[k]? = some o → Ψ vs M → vs.length = i →
      (∀ j d, edge ops k j = true → dstOf ⟨ops⟩ j = some d → ∃ v, look T d = some v ∧ Dep ms Φ vs j v) → (∀ t, noDst ⟨ops⟩ t = true → look T t = look S.T t) → (∀ v M', Ψ (vs ++ [v]) M' → K v M') → sOp P false b o ⟨S.n, T, M⟩ K)
    (hend : ∀ (T : List (Nat × Value)) (M : Mem) (vs : List Value), vs.length = ms.length → Ψ vs M → (∀ j d, j < ops.length → dstOf ⟨ops⟩ j = some d → ∃ v, look T d = some v ∧ Dep ms Φ vs j v) → (∀ t, noDst ⟨ops⟩ t = true → look T t = look S.T t) → Q ⟨S.n, T, M⟩) : awDraw P b ⟨ops⟩ Q S := by
  have dep : ∀ {X : Nat → Bool} {γ : Nat → Value} {s j : Nat}, (∀ k, X k = true → ms.contains k = false → Φ k (γ k)) → (∀ i m, ms[i]? = some m → X m = decide (i < s)) → X j = true → Dep ms Φ ((ms.take s).map γ) j (γ j) := by
    intro X γ s j hΦ hs hj
    refine ⟨fun hm => hΦ j hj hm, fun i hi => ?_⟩
    have := hs i j hi
    rw [hj] at this
    have hlt : i < s := by simpa using this.symm
    rw [List.getElem?_map, List.getElem?_take, if_pos hlt, hi]; rfl
  have len : ∀ {γ : Nat → Value} {s : Nat}, s ≤ ms.length → ((ms.take s).map γ).length = s := fun {γ s} h => by simp; omega
  refine awDraw_G (fun X γ M => (∀ k, X k = true → ms.contains k = false → Φ k (γ k)) ∧ ∃ s, s ≤ ms.length ∧ (∀ i m, ms[i]? = some m → X m = decide (i < s)) ∧ Ψ ((ms.take s).map γ) M) h1 h2 h3 (fun γ => ⟨fun k h => (by cases h), 0, Nat.zero_le _, fun i m _ => by simp, h0⟩) ?_ ?_
  · rintro X γ T M k o K hC hT ⟨hΦ, s, hs1, hs2, hΨ⟩ ho hX ha hK
    have hdep : ∀ j d, edge ops k j = true → dstOf ⟨ops⟩ j = some d → ∃ v, look T d = some v ∧ Dep ms Φ ((ms.take s).map γ) j v := fun j d he hd => by
      have hj := edge_ahead ho ha j he
      exact ⟨γ j, hT.done j d hj hd, dep hΦ hs2 hj⟩
    by_cases hk : ms.contains k = false
    · refine hread k o T M _ K hk ho hΨ (fun i m hi he => ?_) hdep (fun t ht => hT.frame' t ht) fun v hv => hK v M ⟨fun j hj hm => ?_, s, hs1, fun i m hi => ?_, ?_⟩
      · rw [len hs1]
        apply Classical.byContradiction
        intro hn
        have hXm : X m = true := by rw [hs2 i m hi]; simp; omega
        have := reachE_at hC he hXm
        rw [hX] at this
        cases this
      · by_cases e : j = k
        · subst e
          rw [show upG γ j v j = v by simp [upG]]
          exact hv
        · rw [upX_ne e] at hj
          rw [upG_ne e]
          exact hΦ j hj hm
      · rw [upX_ne (not_ms hk hi)]
        exact hs2 i m hi
      · rw [List.map_congr_left (g := γ) fun a ha => ?_]
        · exact hΨ
        · obtain ⟨i, hi⟩ := List.mem_iff_getElem?.1 (List.mem_of_mem_take ha)
          exact upG_ne (not_ms hk hi)
    · have hk' : k ∈ ms := by simpa using hk
      obtain ⟨i, hi⟩ := List.mem_iff_getElem?.1 hk'
      have hil := (List.getElem?_eq_some_iff.1 hi).1
      have his : s = i := by
        have h5 := hs2 i k hi
        rw [hX] at h5
        have h6 : ¬ i < s := by simpa using h5.symm
        rcases i with _ | i
        · omega
        · have hb : ms[i]? = some (ms[i]'(by omega)) := List.getElem?_eq_getElem _
          have he := chain_at hms hi hb
          have hj : X (ms[i]'(by omega)) = true := by
            rw [show (4 : Nat) = 3 + 1 from rfl] at he
            simp only [reachE, Bool.or_eq_true, List.any_eq_true, Bool.and_eq_true] at he
            rcases he with he | ⟨j, _, h1, h2⟩
            · exact edge_ahead ho ha _ he
            · exact reachE_at hC (n := 3) (by simp only [reachE, Bool.or_eq_true, List.any_eq_true, Bool.and_eq_true]; exact h2) (edge_ahead ho ha _ h1)
          rw [hs2 i _ hb] at hj
          simp at hj
          omega
      subst his
      refine hmove s k o T M _ K hi ho hΨ (len hs1) hdep (fun t ht => hT.frame' t ht) fun v M' hv => hK v M' ⟨fun j hj hm => ?_, s + 1, hil, fun j m hj => ?_, ?_⟩
      · have e : j ≠ k := fun e => by subst e; rw [hm] at hk; exact hk rfl
        rw [upX_ne e] at hj
        rw [upG_ne e]
        exact hΦ j hj hm
      · by_cases e : m = k
        · subst e
          obtain rfl := chain_inj hms hj hi
          rw [upX_same]
          simp
        · rw [upX_ne e, hs2 j m hj]
          have hne : j ≠ s := fun h => by subst h; rw [hi] at hj; injection hj with hj; exact e hj.symm
          by_cases hlt : j < s
          · simp [hlt, Nat.lt_succ_of_lt hlt]
          · have : ¬ j < s + 1 := by omega
            simp [hlt, this]
      · have e1 : ms.take (s + 1) = ms.take s ++ [k] := by
          rw [List.take_add_one, hi]
          rfl
        rw [e1, List.map_append, List.map_singleton, show upG γ k v k = v by simp [upG], List.map_congr_left (g := γ) fun a ha => ?_]
        · exact hv
        · refine upG_ne fun e => ?_
          subst e
          obtain ⟨j, hj⟩ := List.mem_iff_getElem?.1 ha
          rw [List.getElem?_take] at hj
          split at hj
          · have := chain_inj hms hj hi
            omega
          · cases hj
  · rintro X γ T M hX hT ⟨hΦ, s, hs1, hs2, hΨ⟩
    have hs : s = ms.length := by
      apply Classical.byContradiction
      intro hn
      have hlt : s < ms.length := by omega
      have hb : ms[s]? = some (ms[s]'hlt) := List.getElem?_eq_getElem _
      have := hs2 s _ hb
      rw [hX _ (chain_lt hms hb)] at this
      simp at this
    subst hs
    exact hend T M _ (len hs1) hΨ (fun j d hj hd => ⟨γ j, hT.done j d (hX j hj) hd, dep hΦ hs2 (hX j hj)⟩) fun t ht => hT.frame' t ht
end Go.Proofs.Ytbpaeonfebmomaa

namespace Go.Proofs.Ytbpaeonfebmomaa
open Go.RowKit
set_option linter.unusedVariables false
theorem awCond_join {P : Program} {b n : Nat} {c : Bool} {A B Y : Code} {Q : Ex → St → Prop} {T : List (Nat × Value)} {M : Mem} (J : List (Nat × Value) → Mem → Prop)
    (h1 : ∀ Q' : Ex → St → Prop, (∀ T' M', J T' M' → Q' .normal ⟨n, T', M'⟩) → c = true → sAw P b A Q' ⟨n, T, M⟩)
    (h2 : ∀ Q' : Ex → St → Prop, (∀ T' M', J T' M' → Q' .normal ⟨n, T', M'⟩) → c = false → sAw P b B Q' ⟨n, T, M⟩)
    (h3 : ∀ T' M', J T' M' → sAw P b Y Q ⟨n, T', M'⟩) : awCond (.bool c) (sAw P b A (sThen P b Y Q tk) ⟨n, T, M⟩) (sAw P b B (sThen P b Y Q tk) ⟨n, T, M⟩) :=
  ⟨fun h => h1 _ (fun T' M' hJ => by rw [sThen_normal]; exact h3 T' M' hJ) h, fun h => h2 _ (fun T' M' hJ => by rw [sThen_normal]; exact h3 T' M' hJ) h⟩
theorem awThen_join {P : Program} {b n : Nat} {A Y : Code} {Q : Ex → St → Prop} {T : List (Nat × Value)} {M : Mem} (J : List (Nat × Value) → Mem → Prop)
    (h1 : ∀ Q' : Ex → St → Prop, (∀ T' M', J T' M' → Q' .normal ⟨n, T', M'⟩) → sAw P b A Q' ⟨n, T, M⟩)
    (h3 : ∀ T' M', J T' M' → sAw P b Y Q ⟨n, T', M'⟩) : sAw P b A (sThen P b Y Q tk) ⟨n, T, M⟩ :=
  h1 _ fun T' M' hJ => by rw [sThen_normal]; exact h3 T' M' hJ
theorem awLoop_join {P : Program} {b n id : Nat} {F : (Ex → St → Prop) → St → Prop} {Y : Code} {Q : Ex → St → Prop} {T : List (Nat × Value)} {M : Mem} (J : List (Nat × Value) → Mem → Prop)
    (h1 : ∀ Q' : Ex → St → Prop, (∀ T' M', J T' M' → Q' .normal ⟨n, T', M'⟩) → awLoop F (sBlock id Q' tk) ⟨n, T, M⟩)
    (h3 : ∀ T' M', J T' M' → sAw P b Y Q ⟨n, T', M'⟩) : awLoop F (sBlock id (sThen P b Y Q tk) tk) ⟨n, T, M⟩ :=
  h1 _ fun T' M' hJ => by rw [sThen_normal]; exact h3 T' M' hJ
end Go.Proofs.Ytbpaeonfebmomaa

namespace Go.Proofs.Ytbpaeonfebmomaa
open Go.RowKit
set_option linter.unusedVariables false
set_option linter.unusedSimpArgs false
set_option maxRecDepth 100000
attribute [local simp] List.getElem?_cons_zero
attribute [local irreducible] awCond awCall awLoop awDraw ow retQ retC resQ Keeps
theorem tk_arith {f : Frac} {D : Int} (hf : fracB f = true) (h0 : 0 ≤ f.n) (hD : 1 ≤ D ∧ D ≤ 960) : (0 ≤ f.n * D ∧ f.n * D ≤ 960000000000) ∧ (f.n * D).tdiv f.d = tkV D f ∧ (f.n * D).tmod f.d = f.n * D % f.d ∧ f.d ≠ 0 ∧ (0 ≤ tkV D f ∧ tkV D f ≤ 960000000000) := by
  obtain ⟨⟨d1, d2⟩, ⟨n1, n2⟩, -⟩ := fracB_iff.1 hf
  have hp : 0 ≤ f.n * D := Int.mul_nonneg h0 (by omega)
  have hq : f.n * D ≤ 1000000000 * 960 := Int.mul_le_mul n2 hD.2 (by omega) (by omega)
  have hv : 0 ≤ tkV D f := Int.ediv_nonneg hp (by omega)
  have hv2 : tkV D f ≤ f.n * D := Int.ediv_le_self _ hp
  exact ⟨⟨hp, by omega⟩, Int.tdiv_eq_ediv_of_nonneg hp, Int.tmod_eq_emod_of_nonneg hp, by omega, hv, by omega⟩
theorem tick_i {M : Mem} {f : Frac} {D : Int} (hf : fracB f = true) (h0 : 0 ≤ f.n) (hD : 1 ≤ D ∧ D ≤ 960) : Det Try.prog M.length 32 [f.v, iv D] M (.tuple #[iv (tkV D f), .bool (tkB D f)]) M := by
  obtain ⟨h1, h2, h3, h4, h5⟩ := tk_arith hf h0 hD
  first | (refine det_fn Try.func32 rfl Try.ntmps32 Try.results32 rfl rfl rfl (by simp) ?_) | (refine det_fnC Try.func32 rfl Try.ntmps32 Try.results32 rfl rfl (by simp) ?_)
  simp (disch := omega) [wrap_in]
  refine awDraw_E 10 [[],[],[1],[0,2,1],[],[],[5],[4,6,5],[7,4,6,5],[3,0,2,1],[8,7,4,6,5,9,3,0,2,1]] (by kernel_rfl) (by kernel_rfl) ?_
  simp (disch := omega) [wrap_in, h2, h3, h4]
  exact ⟨by unfold tkB; rfl, keeps_app _⟩







/-- An event at a tick, as the reference keeps it. -/
def timedR : RecV StreamEvent 6 := ⟨fun e => [iv e.d, iv 0, iv e.j, iv e.o, iv e.k, iv e.u], fun _ => rfl⟩
theorem timed_cells {M : Mem} {id off : Nat} {g : StreamEvent} (h : Cl M id off (timedR.row g)) : cellAt M id off = some (iv g.d) ∧ cellAt M id (off + 2) = some (iv g.j) ∧ cellAt M id (off + 3) = some (iv g.o) ∧ cellAt M id (off + 4) = some (iv g.k) ∧ cellAt M id (off + 5) = some (iv g.u) :=
  ⟨h 0 _ rfl, h 2 _ rfl, h 3 _ rfl, h 4 _ rfl, h 5 _ rfl⟩
theorem cells_hrE {M : Mem} {id n : Nat} {r : Row} (h : M[id]? = some (.live r)) (hn : n = r.cells.length) : cellsAt M id 0 n = some r.cells := by
  subst hn
  simp [cellsAt, h]
def kdB (e : StreamEvent) : Prop := e.j = 1 ∨ e.j = 2









































theorem Sl.takeE {α : Type} {k : Nat} {R : RecV α k} {M : Mem} {id off n m : Nat} {l : List α} (h : Sl R M (some ⟨id, off, none⟩) n l) (hm : m ≤ n) : Sl R M (some ⟨id, off, none⟩) m (l.take m) := by
  refine ⟨by rw [List.length_take, h.1]; omega, fun hp => ?_⟩
  obtain ⟨_, _, e, he, hc⟩ := h.2 (by omega)
  cases e
  refine ⟨id, off, rfl, he, fun j x hx => hc j x ?_⟩
  rw [← List.take_append_drop m l, cellsL_append, List.getElem?_append_left (List.getElem?_eq_some_iff.1 hx).1]
  exact hx
theorem Sl.dropE {α : Type} {k : Nat} {R : RecV α k} {M : Mem} {id off n m : Nat} {l : List α} (h : Sl R M (some ⟨id, off, none⟩) n l) (hm : m ≤ n) : Sl R M (some ⟨id, off + m * k, none⟩) (n - m) (l.drop m) := by
  refine ⟨by rw [List.length_drop, h.1], fun hp => ?_⟩
  obtain ⟨_, _, e, he, hc⟩ := h.2 (by omega)
  cases e
  refine ⟨id, off + m * k, rfl, he, fun j x hx => ?_⟩
  rw [Nat.add_assoc]
  refine hc _ x ?_
  have hl := h.1
  have hml : (cellsL R (l.take m)).length = m * k := by rw [cellsL_len, List.length_take, hl, Nat.min_eq_left hm]
  rw [← List.take_append_drop m l, cellsL_append, List.getElem?_append_right (by omega), hml, show m * k + j - m * k = j by omega]
  exact hx
theorem nil_srcE {P : Program} {M : Mem} {k : Nat} {tx e : TypeId} (h : P.underlying tx = some (.slice e)) : srcOf P M k tx (.slice none 0 0) = some (0, []) := by
  simp [srcOf, h]
@[simp] theorem timed_fill (x0 x1 x2 x3 x4 x5 : Int) : Instr.fill (fun i => some (i * 6, 6)) (zrow [iv 0, iv 0, iv 0, iv 0, iv 0, iv 0] 1).toArray [(0, .agg #[iv x0, iv x1, iv x2, iv x3, iv x4, iv x5])] = some #[iv x0, iv x1, iv x2, iv x3, iv x4, iv x5] := fill_agg (by omega) rfl rfl
theorem timed_one (l : List StreamEvent) : (cellsL timedR l).all (fun u => u.oneCell') = true := by
  rw [List.all_eq_true]
  intro v hv
  induction l with
  | nil => simp [cellsL_nil] at hv
  | cons a l ih =>
    rw [cellsL_cons] at hv
    rcases List.mem_append.1 hv with h | h
    · simp only [timedR, List.mem_cons, List.not_mem_nil, or_false] at h
      rcases h with rfl | rfl | rfl | rfl | rfl | rfl <;> rfl
    · exact ih h























































































end Go.Proofs.Ytbpaeonfebmomaa

namespace Go.Proofs.Ytbpaeonfebmomaa
open Go.RowKit
set_option linter.unusedVariables false
set_option linter.unusedSimpArgs false
set_option maxRecDepth 100000
attribute [local simp] List.getElem?_cons_zero
attribute [local irreducible] awCond awCall awLoop awDraw ow retQ retC resQ Keeps











































































end Go.Proofs.Ytbpaeonfebmomaa
