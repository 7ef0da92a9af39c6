/- Parts of the proof, together: Pitch: records in memory, and the laws' helpers on them. Interval: records in memory, and the laws' helpers on them. Frac: records in memory, and the laws' helpers on them. Items in memory. Pitches and intervals: keys, which are valid, in both packages. Fractions: in plain words, and both packages' functions on them. Fractions: both packages' functions. Fractions: valid ones, sums and products, in No conditions. -/
import Derived.Test.YtodbjnngkonklaaGreatDoorZzA8
import Derived.Test.YtodbjnngkonklaaGreatDoorZzA9
import Derived.Laws.StructEq
import Derived.Test.YtodbjnngkonklaaGreatDoorZzA7
namespace Go.Proofs.YtodbjnngkonklaaGreatDoor
open Go.RowKit
set_option linter.unusedVariables false
set_option linter.unusedSimpArgs false
set_option maxRecDepth 100000
attribute [local simp] List.getElem?_cons_zero
attribute [local irreducible] awCond awCall awLoop awDraw ow retQ retC resQ Keeps
structure Pitch where
  (s a o : Int)
deriving Inhabited, DecidableEq
def Pitch.row (c : Pitch) : List Value := [iv c.s, iv c.a, iv c.o]
def pitchR : RecV Pitch 3 := ⟨Pitch.row, fun _ => rfl⟩
abbrev Pitch.v (c : Pitch) : Value := .agg #[iv c.s, iv c.a, iv c.o]
theorem pitch_cells {M : Mem} {id off : Nat} {g : Pitch} (h : Cl M id off g.row) : cellAt M id off = some (iv g.s) ∧ cellAt M id (off + 1) = some (iv g.a) ∧ cellAt M id (off + 2) = some (iv g.o) :=
  ⟨h 0 _ rfl, h 1 _ rfl, h 2 _ rfl⟩
theorem pitch_load {M : Mem} {id off : Nat} {g : Pitch} (h : Cl M id off g.row) : cellsAt M id off 3 = some [iv g.s, iv g.a, iv g.o] := cellsAt_of h rfl (by omega)
theorem pitch_eq {a b : Pitch} : a = b ↔ a.s = b.s ∧ a.a = b.a ∧ a.o = b.o := by
  cases a; cases b; simp
def pitchI : Ints pitchR := ⟨fun zs => ⟨gi zs 0, gi zs 1, gi zs 2⟩, fun zs h => by
  obtain ⟨x0, x1, x2, rfl⟩ : ∃ x0 x1 x2, zs = [x0, x1, x2] := by
    match zs, h with
    | [x0, x1, x2], _ => exact ⟨x0, x1, x2, rfl⟩
  rfl⟩

/-- Equality of records, as the language has it. -/
theorem pitch_same (a b : Pitch) : aggEq Tryz.prog 51 #[iv a.s, iv a.a, iv a.o] #[iv b.s, iv b.a, iv b.o] = some (decide (a = b)) := by
  refine aggEq_of (by kernel_rfl) rfl rfl fun w => ?_
  unfold Op.equal
  rw [show Op.maxDepth = 9999 + 1 from rfl]
  rw [run_equalIn_agg _ _ _ _ _ Tryz.underlying51 (by kernel_rfl)]
  simp [go_sem]
  repeat' split
  all_goals simp_all [pitch_eq]
theorem pitch_eql (a b : Pitch) : binV Tryz.prog .eql 51 (.agg #[iv a.s, iv a.a, iv a.o]) (.agg #[iv b.s, iv b.a, iv b.o]) = some (.bool (decide (a = b))) := by
  simp only [binV, eqV, Tryz.underlying51, pitch_same, Option.map_some]
theorem pitch_neq (a b : Pitch) : binV Tryz.prog .neq 51 (.agg #[iv a.s, iv a.a, iv a.o]) (.agg #[iv b.s, iv b.a, iv b.o]) = some (.bool (!decide (a = b))) := by
  simp only [binV, eqV, Tryz.underlying51, pitch_same, Option.map_some]
@[simp] theorem pitch_fill (x0 x1 x2 : Int) : Instr.fill (fun i => some (i * 3, 3)) (zrow [iv 0, iv 0, iv 0] 1).toArray [(0, .agg #[iv x0, iv x1, iv x2])] = some #[iv x0, iv x1, iv x2] := fill_agg (by omega) rfl rfl
theorem toPitch_a {M : Mem} (g : Pitch) : Det Tryz.prog M.length 42 [g.v] M g.v M := by
  first | (refine det_fn Tryz.func42 rfl Tryz.ntmps42 Tryz.results42 rfl rfl rfl (by simp) ?_) | (refine det_fnC Tryz.func42 rfl Tryz.ntmps42 Tryz.results42 rfl rfl (by simp) ?_)
  simp [keeps_app]
theorem eqPitch_a {M : Mem} (a b : Pitch) : Det Tryz.prog M.length 56 [a.v, b.v] M (.bool (decide (a = b))) M := by
  first | (refine det_fn Tryz.func56 rfl Tryz.ntmps56 Tryz.results56 rfl rfl rfl (by simp) ?_) | (refine det_fnC Tryz.func56 rfl Tryz.ntmps56 Tryz.results56 rfl rfl (by simp) ?_)
  simp
  repeat' (first | (refine awCond_split ?_ ?_ <;> intro _) | (simp [keeps_app]))
  all_goals (simp_all [pitch_eq])
theorem szPitchS_a {M : Mem} {A : Option Addr} {n c : Nat} (z : Int) (hz : 0 ≤ z) (hz1 : z ≤ 1048576) (hn : n ≤ maxLen) : Det Tryz.prog M.length 16 [.slice A n c, iv z] M (iv (if z - n < 0 then -1 else z - n)) M := by
  unfold maxLen at hn
  first | (refine det_fn Tryz.func16 rfl Tryz.ntmps16 Tryz.results16 rfl rfl rfl (by simp) ?_) | (refine det_fnC Tryz.func16 rfl Tryz.ntmps16 Tryz.results16 rfl rfl (by simp) ?_)
  simp (disch := omega) [wrap_in]
  refine awCond_split ?_ ?_ <;> intro h
  · simp at h
    simp [h, Keeps.refl]
    try omega
  · simp at h
    simp [h, Keeps.refl]
    try omega
theorem toPitchS_d {M : Mem} {A : Option Addr} {n c : Nat} {l : List Pitch} (h : Sl pitchR M A n l) (hn : n ≤ 1099511627776) : Det Tryz.prog M.length 22 [.slice A n c] M (.slice (some ⟨M.length, 0, none⟩) n n) (M ++ [.live ⟨cellsL pitchR l, true, true, 51, 3⟩]) := by
  have hl := h.1
  refine Ctr.det ?_
  first | (refine ctr_fn Tryz.func22 rfl Tryz.ntmps22 Tryz.results22 rfl rfl (by simp) ?_) | (refine ctr_fnC Tryz.func22 rfl Tryz.ntmps22 Tryz.results22 rfl (by simp) ?_)
  simp
  refine ⟨by omega, ?_⟩
  refine awLoop_T (fun m T M' => ∃ k : Nat, k + m = n ∧ M' = M ++ [.live ⟨cellsL pitchR (l.take k) ++ zrow [iv 0, iv 0, iv 0] m, true, true, 51, 3⟩] ∧ look T 4 = some (iv k) ∧ look T 0 = some (.slice A n c) ∧ look T 3 = some (.slice (some ⟨M.length, 0, none⟩) n n)) n ⟨0, by omega, by simp [cellsL_nil], by simp, by simp, by simp⟩ ?_
  rintro m T M' ⟨k, hm, rfl, h4, h0, h3⟩
  by_cases hlt : k < n
  · obtain ⟨id, off, rfl, he, hc⟩ := h.at_ hlt
    have hc' := hc.app [.live ⟨cellsL pitchR (l.take k) ++ zrow [iv 0, iv 0, iv 0] m, true, true, 51, 3⟩]
    simp (disch := omega) [h3, h4, h0, hlt, wrap_in, pitch_load hc']
    obtain ⟨m, rfl⟩ : ∃ m', m = m' + 1 := ⟨m - 1, by omega⟩
    refine awCall_det' ((toPitch_a (el l k))) (by simp) ⟨by simp, ow_iff.2 ⟨_, putCells_rec pitchR (a := el l k) (Nat.le_refl _) rfl (List.length_take_of_le (by omega)) rfl, ?_⟩⟩
    refine lpI m (by omega) ?_
    refine ⟨k + 1, by omega, by rw [take_el (by omega)], by simp, by simp [h0], by simp [h3]⟩
  · obtain rfl : k = n := by omega
    obtain rfl : m = 0 := by omega
    simp [h3, h4, h0, List.take_of_length_le (Nat.le_of_eq hl)]
theorem toPitchS_a {M : Mem} {A : Option Addr} {n c : Nat} {l : List Pitch} (h : Sl pitchR M A n l) (hn : n ≤ 1099511627776) : Ctr Tryz.prog M.length 22 [.slice A n c] M fun v M' => Fresh pitchR M v M' l :=
  (toPitchS_d h hn).ctr (Fresh.new h.1 (by omega))
theorem eqPitchS_a {M : Mem} {A B : Option Addr} {n c m d : Nat} {x y : List Pitch} (hx : Sl pitchR M A n x) (hy : Sl pitchR M B m y) (hn : n ≤ 1099511627776) : Det Tryz.prog M.length 34 [.slice A n c, .slice B m d] M (.bool (decide (x = y))) M := by
  have hlx := hx.1
  have hly := hy.1
  first | (refine det_fn Tryz.func34 rfl Tryz.ntmps34 Tryz.results34 rfl rfl rfl (by simp) ?_) | (refine det_fnC Tryz.func34 rfl Tryz.ntmps34 Tryz.results34 rfl rfl (by simp) ?_)
  simp
  refine awCond_split ?_ ?_ <;> intro hnm
  · simp at hnm
    simp
    exact ⟨fun e => by subst e; omega, Keeps.refl _⟩
  · simp at hnm
    obtain rfl : n = m := by omega
    simp
    refine awLoop_T (fun m T M' => ∃ k : Nat, k + m = n ∧ M' = M ∧ look T 5 = some (iv k) ∧ look T 0 = some (.slice A n c) ∧ look T 1 = some (.slice B n d) ∧ x.take k = y.take k) n ⟨0, by omega, rfl, by simp, by simp, by simp, by simp⟩ ?_
    rintro m T M' ⟨k, hm, rfl, h4, h0, h1, hk⟩
    by_cases hlt : k < n
    · obtain ⟨id, off, rfl, he, hc⟩ := hx.at_ hlt
      obtain ⟨id', off', rfl, he', hc'⟩ := hy.at_ hlt
      simp (disch := omega) [h4, h0, h1, hlt, wrap_in]
      refine awDraw_E 8 [[],[],[0,1],[2,0,1],[],[],[4,5],[6,4,5],[3,2,0,1,7,6,4,5],[8,3,2,0,1,7,6,4,5]] (by kernel_rfl) (by kernel_rfl) ?_
      simp (disch := omega) [h4, h0, h1, hlt, wrap_in, pitch_load hc, pitch_load hc']
      refine awCall_det' (eqPitch_a (el x k) (el y k)) (Nat.le_refl _) ?_
      simp
      refine awCond_split ?_ ?_ <;> intro he
      · simp at he
        simp
        exact ⟨fun e => he (by rw [e]), Keeps.refl _⟩
      · simp at he
        simp (disch := omega) [h4, h0, h1, wrap_in]
        refine lpI (m - 1) (by omega) ?_
        exact ⟨k + 1, by omega, rfl, by simp, by simp [h0], by simp [h1], by rw [take_el (by omega), take_el (by omega), hk, he]⟩
    · obtain rfl : k = n := by omega
      rw [List.take_of_length_le (by omega), List.take_of_length_le (by omega)] at hk
      simp [h4, h0, h1, hk, Keeps.refl]
def markPitch (z : Int) (i : Nat) : Pitch := ⟨z + i * 3, z + i * 3 + 1, z + i * 3 + 1 + 1⟩
def markPitchL (z : Int) (n : Nat) : List Pitch := (List.range n).map (markPitch z)
theorem markPitchL_succ (z : Int) (n : Nat) : markPitchL z (n + 1) = markPitchL z n ++ [markPitch z n] := by simp [markPitchL, List.range_succ]
/-! The same, as the laws use them. -/
theorem sz_PitchS_over {M : Mem} {v : Value} {lo hi : Nat} {l : List Pitch} {z : Int} (h : RdL pitchR lo hi M v l) (hz : 0 ≤ z) (hz1 : z ≤ 1048576) (hl : z < l.length) : Det Tryz.prog M.length 16 [v, iv z] M (iv (-1)) M := by
  obtain ⟨A, n, c, rfl, hn, hS, _⟩ := h
  have := szPitchS_a (M := M) (A := A) (n := n) (c := c) z hz hz1 (by unfold maxLen; omega)
  rwa [if_pos (by have := hS.1; omega)] at this
theorem sz_PitchS {M : Mem} {v : Value} {lo hi : Nat} {l : List Pitch} {z : Int} (h : RdL pitchR lo hi M v l) (hz : 0 ≤ z) (hz1 : z ≤ 1048576) (hl : l.length ≤ z) : Det Tryz.prog M.length 16 [v, iv z] M (iv (z - l.length)) M := by
  obtain ⟨A, n, c, rfl, hn, hS, _⟩ := h
  have := szPitchS_a (M := M) (A := A) (n := n) (c := c) z hz hz1 (by unfold maxLen; omega)
  rw [if_neg (by have := hS.1; omega)] at this
  rwa [hS.1]
theorem to_PitchS {M : Mem} {v : Value} {lo hi : Nat} {l : List Pitch} (h : RdL pitchR lo hi M v l) (hl : l.length ≤ 1048576) : Ctr Tryz.prog M.length 22 [v] M fun v' M' => OwL pitchR M.length M'.length M' v' l ∧ Keeps M M' := by
  obtain ⟨A, n, c, rfl, hn, hS, _⟩ := h
  exact (toPitchS_a hS (by have := hS.1; omega)).mono fun v' M' h => h.ow
theorem eq_PitchS {M : Mem} {v w : Value} {lo hi lo' hi' : Nat} {x y : List Pitch} (hx : OwL pitchR lo hi M v x) (hy : RdL pitchR lo' hi' M w y) : Det Tryz.prog M.length 34 [v, w] M (.bool (decide (x = y))) M := by
  obtain ⟨A, n, c, rfl, hn, hS, _⟩ := hx
  obtain ⟨B, m, d, rfl, hm, hT, _⟩ := hy
  exact eqPitchS_a hS hT hn
end Go.Proofs.YtodbjnngkonklaaGreatDoor

namespace Go.Proofs.YtodbjnngkonklaaGreatDoor
open Go.RowKit
set_option linter.unusedVariables false
set_option linter.unusedSimpArgs false
set_option maxRecDepth 100000
attribute [local simp] List.getElem?_cons_zero
attribute [local irreducible] awCond awCall awLoop awDraw ow retQ retC resQ Keeps
structure Interval where
  (t h : Int)
deriving Inhabited, DecidableEq
def Interval.row (c : Interval) : List Value := [iv c.t, iv c.h]
def intervalR : RecV Interval 2 := ⟨Interval.row, fun _ => rfl⟩
abbrev Interval.v (c : Interval) : Value := .agg #[iv c.t, iv c.h]
theorem interval_cells {M : Mem} {id off : Nat} {g : Interval} (h : Cl M id off g.row) : cellAt M id off = some (iv g.t) ∧ cellAt M id (off + 1) = some (iv g.h) :=
  ⟨h 0 _ rfl, h 1 _ rfl⟩
theorem interval_load {M : Mem} {id off : Nat} {g : Interval} (h : Cl M id off g.row) : cellsAt M id off 2 = some [iv g.t, iv g.h] := cellsAt_of h rfl (by omega)
theorem interval_eq {a b : Interval} : a = b ↔ a.t = b.t ∧ a.h = b.h := by
  cases a; cases b; simp
def intervalI : Ints intervalR := ⟨fun zs => ⟨gi zs 0, gi zs 1⟩, fun zs h => by
  obtain ⟨x0, x1, rfl⟩ : ∃ x0 x1, zs = [x0, x1] := by
    match zs, h with
    | [x0, x1], _ => exact ⟨x0, x1, rfl⟩
  rfl⟩

/-- Equality of records, as the language has it. -/
theorem interval_same (a b : Interval) : aggEq Tryz.prog 40 #[iv a.t, iv a.h] #[iv b.t, iv b.h] = some (decide (a = b)) := by
  refine aggEq_of (by kernel_rfl) rfl rfl fun w => ?_
  unfold Op.equal
  rw [show Op.maxDepth = 9999 + 1 from rfl]
  rw [run_equalIn_agg _ _ _ _ _ Tryz.underlying40 (by kernel_rfl)]
  simp [go_sem]
  repeat' split
  all_goals simp_all [interval_eq]
theorem interval_eql (a b : Interval) : binV Tryz.prog .eql 40 (.agg #[iv a.t, iv a.h]) (.agg #[iv b.t, iv b.h]) = some (.bool (decide (a = b))) := by
  simp only [binV, eqV, Tryz.underlying40, interval_same, Option.map_some]
theorem interval_neq (a b : Interval) : binV Tryz.prog .neq 40 (.agg #[iv a.t, iv a.h]) (.agg #[iv b.t, iv b.h]) = some (.bool (!decide (a = b))) := by
  simp only [binV, eqV, Tryz.underlying40, interval_same, Option.map_some]
@[simp] theorem interval_fill (x0 x1 : Int) : Instr.fill (fun i => some (i * 2, 2)) (zrow [iv 0, iv 0] 1).toArray [(0, .agg #[iv x0, iv x1])] = some #[iv x0, iv x1] := fill_agg (by omega) rfl rfl
theorem toInterval_a {M : Mem} (g : Interval) : Det Tryz.prog M.length 24 [g.v] M g.v M := by
  first | (refine det_fn Tryz.func24 rfl Tryz.ntmps24 Tryz.results24 rfl rfl rfl (by simp) ?_) | (refine det_fnC Tryz.func24 rfl Tryz.ntmps24 Tryz.results24 rfl rfl (by simp) ?_)
  simp [keeps_app]
theorem eqInterval_a {M : Mem} (a b : Interval) : Det Tryz.prog M.length 36 [a.v, b.v] M (.bool (decide (a = b))) M := by
  first | (refine det_fn Tryz.func36 rfl Tryz.ntmps36 Tryz.results36 rfl rfl rfl (by simp) ?_) | (refine det_fnC Tryz.func36 rfl Tryz.ntmps36 Tryz.results36 rfl rfl (by simp) ?_)
  simp
  repeat' (first | (refine awCond_split ?_ ?_ <;> intro _) | (simp [keeps_app]))
  all_goals (simp_all [interval_eq])
def markInterval (z : Int) (i : Nat) : Interval := ⟨z + i * 2, z + i * 2 + 1⟩
def markIntervalL (z : Int) (n : Nat) : List Interval := (List.range n).map (markInterval z)
theorem markIntervalL_succ (z : Int) (n : Nat) : markIntervalL z (n + 1) = markIntervalL z n ++ [markInterval z n] := by simp [markIntervalL, List.range_succ]
/-! The same, as the laws use them. -/
end Go.Proofs.YtodbjnngkonklaaGreatDoor

namespace Go.Proofs.YtodbjnngkonklaaGreatDoor
open Go.RowKit
set_option linter.unusedVariables false
set_option linter.unusedSimpArgs false
set_option maxRecDepth 100000
attribute [local simp] List.getElem?_cons_zero
attribute [local irreducible] awCond awCall awLoop awDraw ow retQ retC resQ Keeps
structure Frac where
  (n d : Int)
deriving Inhabited, DecidableEq
def Frac.row (c : Frac) : List Value := [iv c.n, iv c.d]
def fracR : RecV Frac 2 := ⟨Frac.row, fun _ => rfl⟩
abbrev Frac.v (c : Frac) : Value := .agg #[iv c.n, iv c.d]
theorem frac_cells {M : Mem} {id off : Nat} {g : Frac} (h : Cl M id off g.row) : cellAt M id off = some (iv g.n) ∧ cellAt M id (off + 1) = some (iv g.d) :=
  ⟨h 0 _ rfl, h 1 _ rfl⟩
theorem frac_load {M : Mem} {id off : Nat} {g : Frac} (h : Cl M id off g.row) : cellsAt M id off 2 = some [iv g.n, iv g.d] := cellsAt_of h rfl (by omega)
theorem frac_eq {a b : Frac} : a = b ↔ a.n = b.n ∧ a.d = b.d := by
  cases a; cases b; simp
def fracI : Ints fracR := ⟨fun zs => ⟨gi zs 0, gi zs 1⟩, fun zs h => by
  obtain ⟨x0, x1, rfl⟩ : ∃ x0 x1, zs = [x0, x1] := by
    match zs, h with
    | [x0, x1], _ => exact ⟨x0, x1, rfl⟩
  rfl⟩

/-- Equality of records, as the language has it. -/
theorem frac_same (a b : Frac) : aggEq Tryz.prog 39 #[iv a.n, iv a.d] #[iv b.n, iv b.d] = some (decide (a = b)) := by
  refine aggEq_of (by kernel_rfl) rfl rfl fun w => ?_
  unfold Op.equal
  rw [show Op.maxDepth = 9999 + 1 from rfl]
  rw [run_equalIn_agg _ _ _ _ _ Tryz.underlying39 (by kernel_rfl)]
  simp [go_sem]
  repeat' split
  all_goals simp_all [frac_eq]
theorem frac_eql (a b : Frac) : binV Tryz.prog .eql 39 (.agg #[iv a.n, iv a.d]) (.agg #[iv b.n, iv b.d]) = some (.bool (decide (a = b))) := by
  simp only [binV, eqV, Tryz.underlying39, frac_same, Option.map_some]
theorem frac_neq (a b : Frac) : binV Tryz.prog .neq 39 (.agg #[iv a.n, iv a.d]) (.agg #[iv b.n, iv b.d]) = some (.bool (!decide (a = b))) := by
  simp only [binV, eqV, Tryz.underlying39, frac_same, Option.map_some]
@[simp] theorem frac_fill (x0 x1 : Int) : Instr.fill (fun i => some (i * 2, 2)) (zrow [iv 0, iv 0] 1).toArray [(0, .agg #[iv x0, iv x1])] = some #[iv x0, iv x1] := fill_agg (by omega) rfl rfl
theorem toFrac_a {M : Mem} (g : Frac) : Det Tryz.prog M.length 23 [g.v] M g.v M := by
  first | (refine det_fn Tryz.func23 rfl Tryz.ntmps23 Tryz.results23 rfl rfl rfl (by simp) ?_) | (refine det_fnC Tryz.func23 rfl Tryz.ntmps23 Tryz.results23 rfl rfl (by simp) ?_)
  simp [keeps_app]
theorem eqFrac_a {M : Mem} (a b : Frac) : Det Tryz.prog M.length 35 [a.v, b.v] M (.bool (decide (a = b))) M := by
  first | (refine det_fn Tryz.func35 rfl Tryz.ntmps35 Tryz.results35 rfl rfl rfl (by simp) ?_) | (refine det_fnC Tryz.func35 rfl Tryz.ntmps35 Tryz.results35 rfl rfl (by simp) ?_)
  simp
  repeat' (first | (refine awCond_split ?_ ?_ <;> intro _) | (simp [keeps_app]))
  all_goals (simp_all [frac_eq])
def markFrac (z : Int) (i : Nat) : Frac := ⟨z + i * 2, z + i * 2 + 1⟩
def markFracL (z : Int) (n : Nat) : List Frac := (List.range n).map (markFrac z)
theorem markFracL_succ (z : Int) (n : Nat) : markFracL z (n + 1) = markFracL z n ++ [markFrac z n] := by simp [markFracL, List.range_succ]
/-! The same, as the laws use them. -/
end Go.Proofs.YtodbjnngkonklaaGreatDoor

namespace Go.Proofs.YtodbjnngkonklaaGreatDoor
open Go.RowKit
set_option linter.unusedVariables false
set_option linter.unusedSimpArgs false
set_option maxRecDepth 100000
attribute [local simp] List.getElem?_cons_zero
attribute [local irreducible] awCond awCall awLoop awDraw ow retQ retC resQ Keeps
structure Item where
  j : Int
  ps : List Pitch
  ln : Int
  ld : Int
  x : Int
  mt : Int
  mh : Int
  z : Int
deriving Inhabited, DecidableEq
abbrev pitchP : RecP Pitch 3 := .flat pitchR
def Item.cs (x : Item) (u : Value) : List Value := [iv x.j, u, iv x.ln, iv x.ld, iv x.x, iv x.mt, iv x.mh, iv x.z]
def itemP : RecP Item 8 where
  rd := fun lo hi M x vs => ∃ u, vs = [iv x.j, u, iv x.ln, iv x.ld, iv x.x, iv x.mt, iv x.mh, iv x.z] ∧ SlV pitchP lo hi M u x.ps
  len := fun ⟨u, h, _⟩ => by rw [h]; rfl
  agree := fun ⟨u, h1, h2⟩ hg => ⟨u, h1, h2.agree hg⟩
  wide := fun ⟨u, h1, h2⟩ a b => ⟨u, h1, h2.wide a b⟩
theorem Good.impI {H : Type} {enc : TypeId × Value → H} {α : Type} {k : Nat} {t : TypeId} {P Q : RecP α k} (h : Good enc t P) (hi : ∀ lo hi M a vs, P.rd lo hi M a vs → Q.rd lo hi M a vs) : Good enc t Q := fun W n cs d p hf hp => (h W n cs d p hf hp).mono fun M vs ⟨a, ha⟩ => ⟨a, hi _ _ _ _ _ ha⟩
section
variable {H : Type} {enc : TypeId × Value → H}
theorem good_i64I : Good enc 2 intP := good_int Tryz.underlying2
theorem good_pitch : Good enc 75 pitchP := by
  refine (good_map (fun n : Pitch => (n.s, n.a, n.o, ())) (fun x => ⟨x.1, x.2.1, x.2.2.1⟩) (fun x => rfl) (good_struct Tryz.underlying75 (by kernel_rfl) (.cons rfl (by kernel_rfl) good_i64I (.cons rfl (by kernel_rfl) good_i64I (.cons rfl (by kernel_rfl) good_i64I .nil))))).impI ?_
  rintro lo hi M a vs ⟨_, _, rfl, rfl, _, _, rfl, rfl, _, _, rfl, rfl, rfl⟩
  rfl
abbrev fracP : RecP Frac 2 := .flat fracR
theorem good_frac : Good enc 32 fracP := by
  refine (good_map (fun n : Frac => (n.n, n.d, ())) (fun x => ⟨x.1, x.2.1⟩) (fun x => rfl) (good_struct Tryz.underlying32 (by kernel_rfl) (.cons rfl (by kernel_rfl) good_i64I (.cons rfl (by kernel_rfl) good_i64I .nil)))).impI ?_
  rintro lo hi M a vs ⟨_, _, rfl, rfl, _, _, rfl, rfl, rfl⟩
  rfl
abbrev intervalP : RecP Interval 2 := .flat intervalR
theorem good_interval : Good enc 34 intervalP := by
  refine (good_map (fun n : Interval => (n.t, n.h, ())) (fun x => ⟨x.1, x.2.1⟩) (fun x => rfl) (good_struct Tryz.underlying34 (by kernel_rfl) (.cons rfl (by kernel_rfl) good_i64I (.cons rfl (by kernel_rfl) good_i64I .nil)))).impI ?_
  rintro lo hi M a vs ⟨_, _, rfl, rfl, _, _, rfl, rfl, rfl⟩
  rfl
theorem good_item : Good enc 36 itemP := by
  refine (good_map (fun n : Item => (n.j, n.ps, (⟨n.ln, n.ld⟩ : Frac), n.x, (⟨n.mt, n.mh⟩ : Interval), n.z, ())) (fun y => ⟨y.1, y.2.1, y.2.2.1.n, y.2.2.1.d, y.2.2.2.1, y.2.2.2.2.1.t, y.2.2.2.2.1.h, y.2.2.2.2.2.1⟩) (fun y => rfl) (good_struct Tryz.underlying36 (by kernel_rfl) (.cons rfl (by kernel_rfl) good_i64I (.cons rfl (by kernel_rfl) (good_sl Tryz.underlying30 (by kernel_rfl) (by omega) trivial good_pitch) (.cons rfl (by kernel_rfl) good_frac (.cons rfl (by kernel_rfl) good_i64I (.cons rfl (by kernel_rfl) good_interval (.cons rfl (by kernel_rfl) good_i64I .nil)))))))).impI ?_
  rintro lo hi M a vs ⟨_, _, rfl, rfl, _, _, rfl, ⟨u, rfl, h⟩, _, _, rfl, rfl, _, _, rfl, rfl, _, _, rfl, rfl, _, _, rfl, rfl, rfl⟩
  exact ⟨u, rfl, h⟩
end
theorem SlV.isSl {α : Type} {k : Nat} [Inhabited α] {P : RecP α k} {lo hi : Nat} {M : Mem} {u : Value} {l : List α} (h : SlV P lo hi M u l) : ∃ A n c, u = .slice A n c := by
  obtain ⟨A, n, c, e, _⟩ := h
  exact ⟨A, n, c, e⟩
theorem agree_mid {M A B C : Mem} {lo hi : Nat} (h : B.length = A.length) (hm : M.length + A.length ≤ lo) : Agree lo hi (M ++ B ++ C) (M ++ (A ++ C)) := fun i s h1 h2 hs => by
  rw [List.append_assoc] at hs
  rw [List.getElem?_append_right (by omega), List.getElem?_append_right (by omega)] at hs ⊢
  rw [h] at hs
  exact hs
/-- Rows ahead of a value's own rows have turned. -/
theorem SlV.boxes {α : Type} {k : Nat} [Inhabited α] {P : RecP α k} {M A B C : Mem} {u : Value} {l : List α} (h : SlV P (M ++ B).length (M ++ B ++ C).length (M ++ B ++ C) u l) (hl : B.length = A.length) : SlV P M.length (M ++ (A ++ C)).length (M ++ (A ++ C)) u l :=
  (h.agree (agree_mid hl (by simp; omega))).wide (by simp) (by simp; omega)
theorem item_eq {a b : Item} : a = b ↔ a.j = b.j ∧ a.ps = b.ps ∧ a.ln = b.ln ∧ a.ld = b.ld ∧ a.x = b.x ∧ a.mt = b.mt ∧ a.mh = b.mh ∧ a.z = b.z := by
  cases a; cases b; simp
def wtPitchS (l : List Pitch) : Nat := l.length
theorem szPitchS_x {M : Mem} {lo hi : Nat} {u : Value} {l : List Pitch} {z : Int} (h : SlV pitchP lo hi M u l) (hz : 0 ≤ z) (hz1 : z ≤ 1048576) : Det Tryz.prog M.length 16 [u, iv z] M (iv (if z - wtPitchS l < 0 then -1 else z - wtPitchS l)) M := by
  obtain ⟨A, n, c, rfl, h1, _, h3⟩ := h
  rw [show wtPitchS l = n from h3.1]
  exact szPitchS_a z hz hz1 h1
theorem toPitchS_x {M : Mem} {lo hi : Nat} {u : Value} {l : List Pitch} (h : SlV pitchP lo hi M u l) (hn : l.length ≤ 1048576) : ∃ v N, Det Tryz.prog M.length 22 [u] M v (M ++ N) ∧ SlV pitchP M.length (M ++ N).length (M ++ N) v l := by
  obtain ⟨A, n, c, rfl, h1, h2, h3⟩ := h
  have hl := h3.1
  refine ⟨_, _, toPitchS_d h3.sl (by omega), _, n, n, rfl, h1, (fun h => by cases h), SlP.of_sl ⟨hl, fun _ => ⟨M.length, 0, rfl, by simp [rowEsz], fun j x hx => by simp [cellAt, hx]⟩⟩ fun a e _ => ?_⟩
  injection e with e
  subst e
  exact ⟨Nat.le_refl _, by simp⟩
theorem eqPitchS_b {M : Mem} {A B : Option Addr} {n c m d : Nat} {x y : List Pitch} (hx : Sl pitchR M A n x) (hy : Sl pitchR M B m y) (hn : n ≤ 9223372036854775807) : Det Tryz.prog M.length 34 [.slice A n c, .slice B m d] M (.bool (decide (x = y))) M := by
  have hlx := hx.1
  have hly := hy.1
  first | (refine det_fn Tryz.func34 rfl Tryz.ntmps34 Tryz.results34 rfl rfl rfl (by simp) ?_) | (refine det_fnC Tryz.func34 rfl Tryz.ntmps34 Tryz.results34 rfl rfl (by simp) ?_)
  simp
  refine awCond_split ?_ ?_ <;> intro hnm
  · simp at hnm
    simp
    exact ⟨fun e => by subst e; omega, Keeps.refl _⟩
  · simp at hnm
    obtain rfl : n = m := by omega
    simp
    refine awLoop_T (fun m T M' => ∃ k : Nat, k + m = n ∧ M' = M ∧ look T 5 = some (iv k) ∧ look T 0 = some (.slice A n c) ∧ look T 1 = some (.slice B n d) ∧ x.take k = y.take k) n ⟨0, by omega, rfl, by simp, by simp, by simp, by simp⟩ ?_
    rintro m T M' ⟨k, hm, rfl, h4, h0, h1, hk⟩
    by_cases hlt : k < n
    · obtain ⟨id, off, rfl, he, hc⟩ := hx.at_ hlt
      obtain ⟨id', off', rfl, he', hc'⟩ := hy.at_ hlt
      simp (disch := omega) [h4, h0, h1, hlt, wrap_in]
      refine awDraw_E 8 [[],[],[0,1],[2,0,1],[],[],[4,5],[6,4,5],[3,2,0,1,7,6,4,5],[8,3,2,0,1,7,6,4,5]] (by kernel_rfl) (by kernel_rfl) ?_
      simp (disch := omega) [h4, h0, h1, hlt, wrap_in, pitch_load hc, pitch_load hc']
      refine awCall_det' (eqPitch_a (el x k) (el y k)) (Nat.le_refl _) ?_
      simp
      refine awCond_split ?_ ?_ <;> intro he
      · simp at he
        simp
        exact ⟨fun e => he (by rw [e]), Keeps.refl _⟩
      · simp at he
        simp (disch := omega) [h4, h0, h1, wrap_in]
        refine lpI (m - 1) (by omega) ?_
        exact ⟨k + 1, by omega, rfl, by simp, by simp [h0], by simp [h1], by rw [take_el (by omega), take_el (by omega), hk, he]⟩
    · obtain rfl : k = n := by omega
      rw [List.take_of_length_le (by omega), List.take_of_length_le (by omega)] at hk
      simp [h4, h0, h1, hk, Keeps.refl]
theorem eqPitchS_x {M : Mem} {lo hi lo' hi' : Nat} {u v : Value} {x y : List Pitch} (h : SlV pitchP lo hi M u x) (h' : SlV pitchP lo' hi' M v y) : Det Tryz.prog M.length 34 [u, v] M (.bool (decide (x = y))) M := by
  obtain ⟨A, n, c, rfl, h1, h2, h3⟩ := h
  obtain ⟨B, m, d, rfl, g1, g2, g3⟩ := h'
  exact eqPitchS_b h3.sl g3.sl h1
def wtItem (x : Item) : Nat := x.ps.length
theorem szItem_x {M : Mem} {lo hi : Nat} {us : List Value} {x : Item} {z : Int} (h : itemP.rd lo hi M x us) (hz : 0 ≤ z) (hz1 : z ≤ 1048576) : Det Tryz.prog M.length 9 [.agg us.toArray, iv z] M (iv (if z - wtItem x < 0 then -1 else z - wtItem x)) M := by
  obtain ⟨u, rfl, hu⟩ := h
  obtain ⟨A1, n1, c1, rfl⟩ := hu.isSl
  have e : wtItem x = wtPitchS x.ps := rfl
  rw [e]
  first | (refine det_fn Tryz.func9 rfl Tryz.ntmps9 Tryz.results9 rfl rfl rfl (by simp) ?_) | (refine det_fnC Tryz.func9 rfl Tryz.ntmps9 Tryz.results9 rfl rfl (by simp) ?_)
  simp
  refine awCall_det' (szPitchS_x (hu.app _) hz hz1) (by simp) ?_
  by_cases hneg : z - wtPitchS x.ps < 0
  · simp [hneg, keeps_app]
  · simp [hneg, keeps_app]
set_option maxHeartbeats 1000000 in
theorem toItem_c {M : Mem} {lo hi : Nat} {us : List Value} {x : Item} (h : itemP.rd lo hi M x us) (hb : x.ps.length ≤ 1048576) : ∃ vs N, Det Tryz.prog M.length 12 [.agg us.toArray] M (.agg vs.toArray) (M ++ N) ∧ itemP.rd M.length (M ++ N).length (M ++ N) x vs ∧ vs.all oneV = true ∧ (Value.agg vs.toArray).cells.toList = vs := by
  obtain ⟨u, rfl, hu⟩ := h
  obtain ⟨v, N, d, r⟩ := toPitchS_x (M := M ++ [.live ⟨[iv x.j, u, iv x.ln, iv x.ld, iv x.x, iv x.mt, iv x.mh, iv x.z], true, true, 36, 8⟩, .live ⟨[iv 0, .slice none 0 0, iv 0, iv 0, iv 0, iv 0, iv 0, iv 0], true, true, 42, 8⟩, .live ⟨[iv x.j, .slice none 0 0, iv 0, iv 0, iv 0, iv 0, iv 0, iv 0], true, true, 42, 8⟩]) (hu.app _) hb
  obtain ⟨A, n, c, rfl⟩ := r.isSl
  obtain ⟨A1, n1, c1, rfl⟩ := hu.isSl
  refine ⟨[iv x.j, .slice A n c, iv x.ln, iv x.ld, iv x.x, iv x.mt, iv x.mh, iv x.z], [.live ⟨[iv x.j, .slice A1 n1 c1, iv x.ln, iv x.ld, iv x.x, iv x.mt, iv x.mh, iv x.z], true, true, 36, 8⟩, .live ⟨[iv x.j, .slice A n c, iv x.ln, iv x.ld, iv x.x, iv x.mt, iv x.mh, iv x.z], true, true, 42, 8⟩, .live ⟨[iv x.j, .slice A n c, iv x.ln, iv x.ld, iv x.x, iv x.mt, iv x.mh, iv x.z], true, true, 42, 8⟩] ++ N, Ctr.det ?_, ⟨_, rfl, ?_⟩, by simp, rfl⟩
  · first | (refine ctr_fn Tryz.func12 rfl Tryz.ntmps12 Tryz.results12 rfl rfl (by simp) ?_) | (refine ctr_fnC Tryz.func12 rfl Tryz.ntmps12 Tryz.results12 rfl (by simp) ?_)
    simp
    refine awCall_det' d (by simp) ?_
    simp
    refine awCall_det' (toFrac_a ⟨x.ln, x.ld⟩) (by simp) ?_
    simp
    refine awCall_det' (toInterval_a ⟨x.mt, x.mh⟩) (by simp) ?_
    simp
  · exact r.boxes rfl
theorem eqItem_x {M : Mem} {lo hi lo' hi' : Nat} {us vs : List Value} {x y : Item} (h : itemP.rd lo hi M x us) (h' : itemP.rd lo' hi' M y vs) : Det Tryz.prog M.length 15 [.agg us.toArray, .agg vs.toArray] M (.bool (decide (x = y))) M := by
  obtain ⟨u, rfl, hu⟩ := h
  obtain ⟨A1, n1, c1, rfl⟩ := hu.isSl
  obtain ⟨v, rfl, hv⟩ := h'
  obtain ⟨A2, n2, c2, rfl⟩ := hv.isSl
  first | (refine det_fn Tryz.func15 rfl Tryz.ntmps15 Tryz.results15 rfl rfl rfl (by simp) ?_) | (refine det_fnC Tryz.func15 rfl Tryz.ntmps15 Tryz.results15 rfl rfl (by simp) ?_)
  simp
  by_cases h1 : x.j = y.j
  case neg => simp [h1, item_eq, keeps_app]
  simp [h1]
  refine awCall_det' (eqPitchS_x (hu.app _) (hv.app _)) (by simp) ?_
  by_cases h2 : x.ps = y.ps
  case neg => simp [h2, item_eq, keeps_app]
  simp [h2]
  refine awCall_det' (eqFrac_a ⟨x.ln, x.ld⟩ ⟨y.ln, y.ld⟩) (by simp) ?_
  by_cases h3 : (⟨x.ln, x.ld⟩ : Frac) = ⟨y.ln, y.ld⟩
  case neg =>
    simp [h3, keeps_app]
    intro e; subst e; exact h3 rfl
  simp only [frac_eq] at h3
  simp [h3]
  by_cases h4 : x.x = y.x
  case neg => simp [h4, item_eq, keeps_app]
  simp [h4]
  refine awCall_det' (eqInterval_a ⟨x.mt, x.mh⟩ ⟨y.mt, y.mh⟩) (by simp) ?_
  by_cases h5 : (⟨x.mt, x.mh⟩ : Interval) = ⟨y.mt, y.mh⟩
  case neg =>
    simp [h5, keeps_app]
    intro e; subst e; exact h5 rfl
  simp only [interval_eq] at h5
  simp [h5]
  by_cases h6 : x.z = y.z
  · simp [h1, h2, h3, h4, h5, h6, item_eq, keeps_app]
  · simp [h6, item_eq, keeps_app]
end Go.Proofs.YtodbjnngkonklaaGreatDoor

namespace Go.Proofs.YtodbjnngkonklaaGreatDoor
open Go.RowKit
set_option linter.unusedVariables false
set_option linter.unusedSimpArgs false
set_option maxRecDepth 100000
attribute [local simp] List.getElem?_cons_zero
attribute [local irreducible] awCond awCall awLoop awDraw ow retQ retC resQ Keeps
def natL : List Int := [0, 2, 4, 5, 7, 9, 11]
def natV (s : Int) : Int := 12 * (s / 7) + el natL (s % 7).toNat
set_option maxHeartbeats 4000000 in
theorem fill7 : Instr.fill (fun i => some (i, 1)) (zrow [iv 0] 7).toArray [(0, iv 0), (1, iv 2), (2, iv 4), (3, iv 5), (4, iv 7), (5, iv 9), (6, iv 11)] = some #[iv 0, iv 2, iv 4, iv 5, iv 7, iv 9, iv 11] := by kernel_rfl
theorem nat_bd (s : Int) (h0 : 0 ≤ s) (h1 : s ≤ 1000) : 0 ≤ natV s ∧ natV s ≤ 2000 := by
  have hm : s % 7 = 0 ∨ s % 7 = 1 ∨ s % 7 = 2 ∨ s % 7 = 3 ∨ s % 7 = 4 ∨ s % 7 = 5 ∨ s % 7 = 6 := by omega
  unfold natV
  rcases hm with h | h | h | h | h | h | h <;> rw [h] <;> simp [natL, el] <;> omega
set_option maxHeartbeats 1000000 in
theorem natural_i {M : Mem} (s : Int) (h0 : 0 ≤ s) (h1 : s ≤ 1000) : Det Tryz.prog M.length 65 [iv s] M (iv (natV s)) M := by
  have e1 : s.tdiv 7 = s / 7 := Int.tdiv_eq_ediv_of_nonneg h0
  have e2 : s.tmod 7 = s % 7 := Int.tmod_eq_emod_of_nonneg h0
  have hm : s % 7 = 0 ∨ s % 7 = 1 ∨ s % 7 = 2 ∨ s % 7 = 3 ∨ s % 7 = 4 ∨ s % 7 = 5 ∨ s % 7 = 6 := by omega
  first | (refine det_fn Tryz.func65 rfl Tryz.ntmps65 Tryz.results65 rfl rfl rfl (by simp) ?_) | (refine det_fnC Tryz.func65 rfl Tryz.ntmps65 Tryz.results65 rfl rfl (by simp) ?_)
  simp (disch := omega) [e1, e2, wrap_in, fill7]
  unfold natV
  rcases hm with h | h | h | h | h | h | h <;> rw [h] <;> simp (disch := omega) [cellAt, natL, el, wrap_in, keeps_app]
set_option maxHeartbeats 1000000 in
theorem natural_s {M : Mem} (s : Int) (h0 : 0 ≤ s) (h1 : s ≤ 1000) : Det Tryz.prog M.length 60 [iv s] M (iv (natV s)) M := by
  have e1 : s.tdiv 7 = s / 7 := Int.tdiv_eq_ediv_of_nonneg h0
  have e2 : s.tmod 7 = s % 7 := Int.tmod_eq_emod_of_nonneg h0
  have hm : s % 7 = 0 ∨ s % 7 = 1 ∨ s % 7 = 2 ∨ s % 7 = 3 ∨ s % 7 = 4 ∨ s % 7 = 5 ∨ s % 7 = 6 := by omega
  first | (refine det_fn Tryz.func60 rfl Tryz.ntmps60 Tryz.results60 rfl rfl rfl (by simp) ?_) | (refine det_fnC Tryz.func60 rfl Tryz.ntmps60 Tryz.results60 rfl rfl (by simp) ?_)
  simp (disch := omega) [e1, e2, wrap_in, fill7]
  unfold natV
  rcases hm with h | h | h | h | h | h | h <;> rw [h] <;> simp (disch := omega) [cellAt, natL, el, wrap_in, keeps_app]
def keyV (p : Pitch) : Int := 12 * (p.o + 1) + natV p.s + p.a
def pitchB (p : Pitch) : Bool := inB p.s 0 6 && inB p.a (-2) 2 && inB p.o (-1) 9 && inB (keyV p) 0 127
theorem keyOf_i {M : Mem} (p : Pitch) (h1 : 0 ≤ p.s ∧ p.s ≤ 6) (h2 : -2 ≤ p.a ∧ p.a ≤ 2) (h3 : -1 ≤ p.o ∧ p.o ≤ 9) : Det Tryz.prog M.length 62 [p.v] M (iv (keyV p)) M := by
  have hb := nat_bd p.s (by omega) (by omega)
  first | (refine det_fn Tryz.func62 rfl Tryz.ntmps62 Tryz.results62 rfl rfl rfl (by simp) ?_) | (refine det_fnC Tryz.func62 rfl Tryz.ntmps62 Tryz.results62 rfl rfl (by simp) ?_)
  simp (disch := omega) [wrap_in]
  refine awDraw_E 10 [[],[0],[1,0],[2,1,0],[],[4],[5,4],[3,2,1,0,6,5,4],[],[8],[7,3,2,1,0,6,5,4,9,8],[10,7,3,2,1,0,6,5,4,9,8]] (by kernel_rfl) (by kernel_rfl) ?_
  simp (disch := omega) [wrap_in]
  refine awCall_det' (natural_i p.s (by omega) (by omega)) (by first | omega | simp) ?_
  simp (disch := omega) [wrap_in, keyV, keeps_app]
theorem l16Key_s {M : Mem} (p : Pitch) (h1 : 0 ≤ p.s ∧ p.s ≤ 6) (h2 : -2 ≤ p.a ∧ p.a ≤ 2) (h3 : -1 ≤ p.o ∧ p.o ≤ 9) : Det Tryz.prog M.length 73 [p.v] M (iv (keyV p)) M := by
  have hb := nat_bd p.s (by omega) (by omega)
  first | (refine det_fn Tryz.func73 rfl Tryz.ntmps73 Tryz.results73 rfl rfl rfl (by simp) ?_) | (refine det_fnC Tryz.func73 rfl Tryz.ntmps73 Tryz.results73 rfl rfl (by simp) ?_)
  simp (disch := omega) [wrap_in]
  refine awDraw_E 10 [[],[0],[1,0],[2,1,0],[],[4],[5,4],[3,2,1,0,6,5,4],[],[8],[7,3,2,1,0,6,5,4,9,8],[10,7,3,2,1,0,6,5,4,9,8]] (by kernel_rfl) (by kernel_rfl) ?_
  simp (disch := omega) [wrap_in]
  refine awCall_det' (natural_s p.s (by omega) (by omega)) (by first | omega | simp) ?_
  simp (disch := omega) [wrap_in, keyV, keeps_app]
theorem isPitch_i {M : Mem} (p : Pitch) : Det Tryz.prog M.length 61 [p.v] M (.bool (pitchB p)) M := by
  first | (refine det_fn Tryz.func61 rfl Tryz.ntmps61 Tryz.results61 rfl rfl rfl (by simp) ?_) | (refine det_fnC Tryz.func61 rfl Tryz.ntmps61 Tryz.results61 rfl rfl (by simp) ?_)
  simp
  refine awCall_det' (within_a _ _ _) (by first | omega | simp) ?_
  by_cases h1 : inB p.s 0 6 = true
  case neg => simp [h1, pitchB, keeps_app]
  simp [h1]
  refine awCall_det' (within_a _ _ _) (by first | omega | simp) ?_
  by_cases h2 : inB p.a (-2) 2 = true
  case neg => simp [h1, h2, pitchB, keeps_app]
  simp [h1, h2]
  refine awCall_det' (within_a _ _ _) (by first | omega | simp) ?_
  by_cases h3 : inB p.o (-1) 9 = true
  case neg => simp [h1, h2, h3, pitchB, keeps_app]
  simp [h1, h2, h3]
  refine awCall_det' (keyOf_i p (inB_iff.1 h1) (inB_iff.1 h2) (inB_iff.1 h3)) (by first | omega | simp) ?_
  try simp
  refine awCall_det' (isKey_a _) (by first | omega | simp) ?_
  simp [h1, h2, h3, pitchB, keeps_app]
theorem l16Ok_s {M : Mem} (p : Pitch) : Det Tryz.prog M.length 72 [p.v] M (.bool (pitchB p)) M := by
  first | (refine det_fn Tryz.func72 rfl Tryz.ntmps72 Tryz.results72 rfl rfl rfl (by simp) ?_) | (refine det_fnC Tryz.func72 rfl Tryz.ntmps72 Tryz.results72 rfl rfl (by simp) ?_)
  simp
  refine awCall_det' (l00In_a _ _ _) (by first | omega | simp) ?_
  by_cases h1 : inB p.s 0 6 = true
  case neg => simp [h1, pitchB, keeps_app]
  simp [h1]
  refine awCall_det' (l00In_a _ _ _) (by first | omega | simp) ?_
  by_cases h2 : inB p.a (-2) 2 = true
  case neg => simp [h1, h2, pitchB, keeps_app]
  simp [h1, h2]
  refine awCall_det' (l00In_a _ _ _) (by first | omega | simp) ?_
  by_cases h3 : inB p.o (-1) 9 = true
  case neg => simp [h1, h2, h3, pitchB, keeps_app]
  simp [h1, h2, h3]
  refine awCall_det' (l16Key_s p (inB_iff.1 h1) (inB_iff.1 h2) (inB_iff.1 h3)) (by first | omega | simp) ?_
  try simp
  refine awCall_det' (l00In_a _ _ _) (by first | omega | simp) ?_
  simp [h1, h2, h3, pitchB, keeps_app]
/-- An interval with steps that are not negative, and how far it is from the natural one. -/
def upI (i : Interval) : Interval := if i.t < 0 then ⟨-i.t, -i.h⟩ else i
def overV (i : Interval) : Int := (upI i).h - natV (upI i).t
def intervalB (i : Interval) : Bool := inB i.t (-28) 28 && inB i.h (-100) 100 && inB (overV i) (-3) 3
theorem pair_build (a b : Int) : Instr.fill (fun x => [(0, 1), (1, 1)][x]?) #[iv 0, iv 0] [(0, iv a), (1, iv b)] = some #[iv a, iv b] := by rfl
theorem over_neg {i : Interval} (h : i.t < 0) : overV i = -i.h - natV (-i.t) := by unfold overV upI; rw [if_pos h]
theorem over_pos {i : Interval} (h : ¬ i.t < 0) : overV i = i.h - natV i.t := by unfold overV upI; rw [if_neg h]
theorem opposite_i {M : Mem} (i : Interval) (h1 : -28 ≤ i.t ∧ i.t ≤ 28) (h2 : -100 ≤ i.h ∧ i.h ≤ 100) : Det Tryz.prog M.length 51 [i.v] M (Interval.v ⟨-i.t, -i.h⟩) M := by
  first | (refine det_fn Tryz.func51 rfl Tryz.ntmps51 Tryz.results51 rfl rfl rfl (by simp) ?_) | (refine det_fnC Tryz.func51 rfl Tryz.ntmps51 Tryz.results51 rfl rfl (by simp) ?_)
  simp (disch := omega) [wrap_in, keeps_app, pair_build]
theorem isInterval_i {M : Mem} (i : Interval) : Det Tryz.prog M.length 46 [i.v] M (.bool (intervalB i)) M := by
  first | (refine det_fn Tryz.func46 rfl Tryz.ntmps46 Tryz.results46 rfl rfl rfl (by simp) ?_) | (refine det_fnC Tryz.func46 rfl Tryz.ntmps46 Tryz.results46 rfl rfl (by simp) ?_)
  simp
  refine awCall_det' (within_a _ _ _) (by simp) ?_
  by_cases h1 : inB i.t (-28) 28 = true
  case neg => simp [h1, intervalB, keeps_app]
  simp [h1]
  refine awCall_det' (within_a _ _ _) (by simp) ?_
  by_cases h2 : inB i.h (-100) 100 = true
  case neg => simp [h1, h2, intervalB, keeps_app]
  simp [h1, h2]
  have b1 := inB_iff.1 h1
  have b2 := inB_iff.1 h2
  by_cases hneg : i.t < 0
  · have hb := nat_bd (-i.t) (by omega) (by omega)
    simp [hneg]
    refine awCall_det' (opposite_i i b1 b2) (by simp) ?_
    simp
    refine awDraw_E 5 [[],[0],[],[2],[3,2],[1,0,4,3,2],[5,1,0,4,3,2],[6,5,1,0,4,3,2]] (by kernel_rfl) (by kernel_rfl) ?_
    simp (disch := omega) [wrap_in]
    refine awCall_det' (natural_i (-i.t) (by omega) (by omega)) (by simp) ?_
    simp (disch := omega) [wrap_in]
    refine awCall_det' (within_a _ _ _) (by simp) ?_
    simp [intervalB, h1, h2, over_neg hneg, keeps_app]
  · have hb := nat_bd i.t (by omega) (by omega)
    simp [hneg]
    refine awDraw_E 5 [[],[0],[],[2],[3,2],[1,0,4,3,2],[5,1,0,4,3,2],[6,5,1,0,4,3,2]] (by kernel_rfl) (by kernel_rfl) ?_
    simp (disch := omega) [wrap_in]
    refine awCall_det' (natural_i i.t (by omega) (by omega)) (by simp) ?_
    simp (disch := omega) [wrap_in]
    refine awCall_det' (within_a _ _ _) (by simp) ?_
    simp [intervalB, h1, h2, over_pos hneg, keeps_app]
theorem l16Over_s {M : Mem} (i : Interval) (h1 : -28 ≤ i.t ∧ i.t ≤ 28) (h2 : -100 ≤ i.h ∧ i.h ≤ 100) : Det Tryz.prog M.length 41 [i.v] M (.tuple #[iv (overV i), iv (upI i).t]) M := by
  first | (refine det_fn Tryz.func41 rfl Tryz.ntmps41 Tryz.results41 rfl rfl rfl (by simp) ?_) | (refine det_fnC Tryz.func41 rfl Tryz.ntmps41 Tryz.results41 rfl rfl (by simp) ?_)
  simp
  by_cases hneg : i.t < 0
  · have hb := nat_bd (-i.t) (by omega) (by omega)
    simp [hneg]
    refine awDraw_E 12 [[],[0],[1,0],[],[3],[4,3],[5,4,3],[2,1,0,6,5,4,3],[],[8],[9,8],[7,2,1,0,6,5,4,3],[10,9,8,11,7,2,1,0,6,5,4,3]] (by kernel_rfl) (by kernel_rfl) ?_
    simp (disch := omega) [wrap_in]
    refine awCall_det' (natural_s (-i.t) (by omega) (by omega)) (by simp) ?_
    simp (disch := omega) [wrap_in]
    simp [over_neg hneg, upI, hneg, keeps_app]
  · have hb := nat_bd i.t (by omega) (by omega)
    simp [hneg]
    refine awDraw_E 9 [[],[0],[],[2],[3,2],[1,0,4,3,2],[],[6],[5,1,0,4,3,2],[7,6,8,5,1,0,4,3,2]] (by kernel_rfl) (by kernel_rfl) ?_
    simp (disch := omega) [wrap_in]
    refine awCall_det' (natural_s i.t (by omega) (by omega)) (by simp) ?_
    simp (disch := omega) [wrap_in]
    simp [over_pos hneg, upI, hneg, keeps_app]
theorem l16Interval_s {M : Mem} (i : Interval) : Det Tryz.prog M.length 59 [i.v] M (.bool (intervalB i)) M := by
  first | (refine det_fn Tryz.func59 rfl Tryz.ntmps59 Tryz.results59 rfl rfl rfl (by simp) ?_) | (refine det_fnC Tryz.func59 rfl Tryz.ntmps59 Tryz.results59 rfl rfl (by simp) ?_)
  simp
  refine awCall_det' (l00In_a _ _ _) (by simp) ?_
  by_cases h1 : inB i.t (-28) 28 = true
  case neg => simp [h1, intervalB, keeps_app]
  simp [h1]
  refine awCall_det' (l00In_a _ _ _) (by simp) ?_
  by_cases h2 : inB i.h (-100) 100 = true
  case neg => simp [h1, h2, intervalB, keeps_app]
  simp [h1, h2]
  refine awCall_det' (l16Over_s i (inB_iff.1 h1) (inB_iff.1 h2)) (by simp) ?_
  simp
  refine awCall_det' (l00In_a _ _ _) (by simp) ?_
  simp [intervalB, h1, h2, keeps_app]
end Go.Proofs.YtodbjnngkonklaaGreatDoor

namespace Go.Proofs.YtodbjnngkonklaaGreatDoor
open Go.RowKit
set_option linter.unusedVariables false
set_option linter.unusedSimpArgs false
set_option maxRecDepth 100000
attribute [local simp] List.getElem?_cons_zero
attribute [local irreducible] awCond awCall awLoop awDraw ow retQ retC resQ Keeps
abbrev uv (n : Int) : Value := .int .u64 n
theorem u64_in {x : Int} (h1 : 0 ≤ x) (h2 : x < 18446744073709551616) : IntKind.u64.wrap x = x := by
  have e : (2 : Int) ^ IntKind.u64.bits = 18446744073709551616 := by decide
  have e2 : IntKind.u64.signed = false := rfl
  simp only [IntKind.wrap, e, e2]
  simp
  omega
theorem u64_neg {x : Int} (h1 : -9223372036854775808 ≤ x) (h2 : x < 0) : IntKind.u64.wrap x = x + 18446744073709551616 := by
  have e : (2 : Int) ^ IntKind.u64.bits = 18446744073709551616 := by decide
  have e2 : IntKind.u64.signed = false := rfl
  simp only [IntKind.wrap, e, e2]
  simp
  omega
theorem u64_mag {x : Int} (h1 : -9223372036854775808 ≤ x) (h2 : x < 0) : IntKind.u64.wrap (0 - IntKind.u64.wrap x) = -x := by
  have e : (2 : Int) ^ IntKind.u64.bits = 18446744073709551616 := by decide
  have e2 : IntKind.u64.signed = false := rfl
  rw [u64_neg h1 h2]
  simp only [IntKind.wrap, e, e2]
  simp
  omega
/-- The greatest common divisor, as a number of 64 bits. -/
theorem tmod_nat (x y : Nat) : ((x : Int)).tmod y = ((x % y : Nat) : Int) := by
  rw [Int.tmod_eq_emod_of_nonneg (by omega)]
  rfl
theorem tdiv_nat (x y : Nat) : ((x : Int)).tdiv y = ((x / y : Nat) : Int) := by
  rw [Int.tdiv_eq_ediv_of_nonneg (by omega)]
  rfl
def fracB (f : Frac) : Bool := inB f.d 1 1000000 && inB f.n (-1000000000) 1000000000 && decide (f.n.natAbs.gcd f.d.natAbs = 1)
theorem fracB_iff {f : Frac} : fracB f = true ↔ (1 ≤ f.d ∧ f.d ≤ 1000000) ∧ (-1000000000 ≤ f.n ∧ f.n ≤ 1000000000) ∧ f.n.natAbs.gcd f.d.natAbs = 1 := by
  simp only [fracB, Bool.and_eq_true, decide_eq_true_eq, inB_iff, and_assoc]
def mkF (n d : Int) : Frac × Int :=
  if d = 0 then (⟨0, 0⟩, 1) else
  if 1000000000 < n.natAbs / n.natAbs.gcd d.natAbs ∨ 1000000 < d.natAbs / n.natAbs.gcd d.natAbs then (⟨0, 0⟩, 2) else
  (⟨if (decide (n < 0) != decide (d < 0)) = true then -((n.natAbs / n.natAbs.gcd d.natAbs : Nat) : Int) else ((n.natAbs / n.natAbs.gcd d.natAbs : Nat) : Int), ((d.natAbs / n.natAbs.gcd d.natAbs : Nat) : Int)⟩, 0)
def cmpF (a b : Frac) : Int := if a.n * b.d - b.n * a.d < 0 then -1 else if a.n * b.d - b.n * a.d > 0 then 1 else 0
def addF (a b : Frac) : Frac × Int := if fracB a = true ∧ fracB b = true then mkF (a.n * b.d + b.n * a.d) (a.d * b.d) else (⟨0, 0⟩, 1)
def subF (a b : Frac) : Frac × Int := if fracB a = true ∧ fracB b = true then mkF (a.n * b.d - b.n * a.d) (a.d * b.d) else (⟨0, 0⟩, 1)
def mulF (a b : Frac) : Frac × Int := if fracB a = true ∧ fracB b = true then mkF (a.n * b.n) (a.d * b.d) else (⟨0, 0⟩, 1)
theorem mul_bd2 {a b A B : Int} (h1 : -A ≤ a) (h2 : a ≤ A) (h3 : -B ≤ b) (h4 : b ≤ B) : -(A * B) ≤ a * b ∧ a * b ≤ A * B := by
  have h : (a * b).natAbs ≤ A.natAbs * B.natAbs := by
    rw [Int.natAbs_mul]
    exact Nat.mul_le_mul (by omega) (by omega)
  have e : ((A.natAbs * B.natAbs : Nat) : Int) = A * B := by
    rw [Int.natCast_mul, Int.natAbs_of_nonneg (by omega), Int.natAbs_of_nonneg (by omega)]
  omega
theorem frac_bd {a b : Frac} (ha : fracB a = true) (hb : fracB b = true) : (-1000000000000000 ≤ a.n * b.d ∧ a.n * b.d ≤ 1000000000000000) ∧ (-1000000000000000 ≤ b.n * a.d ∧ b.n * a.d ≤ 1000000000000000) ∧ (1 ≤ a.d * b.d ∧ a.d * b.d ≤ 1000000000000) ∧ (-1000000000000000000 ≤ a.n * b.n ∧ a.n * b.n ≤ 1000000000000000000) := by
  obtain ⟨a1, a2, -⟩ := fracB_iff.1 ha
  obtain ⟨b1, b2, -⟩ := fracB_iff.1 hb
  have h1 := mul_bd2 (a := a.n) (b := b.d) (A := 1000000000) (B := 1000000) (by omega) (by omega) (by omega) (by omega)
  have h2 := mul_bd2 (a := b.n) (b := a.d) (A := 1000000000) (B := 1000000) (by omega) (by omega) (by omega) (by omega)
  have h3 := mul_bd2 (a := a.d) (b := b.d) (A := 1000000) (B := 1000000) (by omega) (by omega) (by omega) (by omega)
  have h4 := mul_bd2 (a := a.n) (b := b.n) (A := 1000000000) (B := 1000000000) (by omega) (by omega) (by omega) (by omega)
  have h5 : 0 < a.d * b.d := Int.mul_pos (by omega) (by omega)
  omega
/-- What is made is a fraction. -/
theorem mkF_ok {n d : Int} (h : (mkF n d).2 = 0) : fracB (mkF n d).1 = true := by
  unfold mkF at h ⊢
  split at h
  · cases h
  · rename_i hd
    rw [if_neg hd]
    split at h
    · cases h
    · rename_i hr
      rw [if_neg hr]
      have hg : 0 < n.natAbs.gcd d.natAbs := Nat.gcd_pos_of_pos_right _ (by omega)
      have hq : 0 < d.natAbs / n.natAbs.gcd d.natAbs := Nat.div_pos (Nat.le_of_dvd (by omega) (Nat.gcd_dvd_right _ _)) hg
      have hc := Nat.gcd_div_gcd_div_gcd_of_pos_right (n := n.natAbs) (m := d.natAbs) (by omega)
      generalize n.natAbs / n.natAbs.gcd d.natAbs = a at *
      generalize d.natAbs / n.natAbs.gcd d.natAbs = b at *
      refine fracB_iff.2 ⟨by simp only; omega, ?_, ?_⟩
      · simp only
        split <;> omega
      · simp only
        split
        · rw [Int.natAbs_neg, Int.natAbs_natCast, Int.natAbs_natCast]; exact hc
        · rw [Int.natAbs_natCast, Int.natAbs_natCast]; exact hc
theorem mkF_self {f : Frac} (h : fracB f = true) : mkF f.n f.d = (f, 0) := by
  obtain ⟨h1, h2, h3⟩ := fracB_iff.1 h
  unfold mkF
  rw [if_neg (by omega), h3, Nat.div_one, Nat.div_one, if_neg (by omega)]
  obtain ⟨n, d⟩ := f
  simp only at *
  have hd : ¬ d < 0 := by omega
  by_cases hn : n < 0
  · simp [hn, hd]
    omega
  · simp [hn, hd]
    omega
end Go.Proofs.YtodbjnngkonklaaGreatDoor

namespace Go.Proofs.YtodbjnngkonklaaGreatDoor
open Go.RowKit
set_option linter.unusedVariables false
set_option linter.unusedSimpArgs false
set_option maxRecDepth 100000
attribute [local simp] List.getElem?_cons_zero
attribute [local irreducible] awCond awCall awLoop awDraw ow retQ retC resQ Keeps
structure RG (M : Mem) (a c : Nat) (X : Nat → Bool) (S : St) : Prop where
  n : S.n = 12
  M : S.M = M
  t0 : look S.T 0 = some (uv (if X 4 = true then c else a : Nat))
  t1 : look S.T 1 = some (uv (if X 5 = true then a % c else c : Nat))
  c0 : X 0 = true → look S.T 7 = some (uv c)
  c1 : X 1 = true → look S.T 8 = some (uv a)
  c2 : X 2 = true → look S.T 9 = some (uv c)
  c3 : X 3 = true → look S.T 10 = some (uv (a % c : Nat))
  d4 : X 4 = true → X 1 = true
  d5 : X 5 = true → X 0 = true ∧ X 2 = true
theorem gcd_i {M : Mem} (x y : Nat) (hx : x < 18446744073709551616) (hy : y < 18446744073709551616) : Det Tryz.prog M.length 79 [uv x, uv y] M (uv (x.gcd y : Nat)) M := by
  first | (refine det_fn Tryz.func79 rfl Tryz.ntmps79 Tryz.results79 rfl rfl rfl (by simp) ?_) | (refine det_fnC Tryz.func79 rfl Tryz.ntmps79 Tryz.results79 rfl rfl (by simp) ?_)
  simp
  refine awLoop_T (fun m T M' => ∃ a c : Nat, c = m ∧ a < 18446744073709551616 ∧ c < 18446744073709551616 ∧ a.gcd c = x.gcd y ∧ M' = M ∧ look T 0 = some (uv a) ∧ look T 1 = some (uv c)) y ⟨x, y, rfl, hx, hy, rfl, rfl, by simp, by simp⟩ ?_
  rintro m T M' ⟨a, c, rfl, ha, hc, hg, rfl, h0, h1⟩
  by_cases hc0 : c = 0
  · subst hc0
    rw [Nat.gcd_zero_right] at hg
    simp [h0, h1, hg, Keeps.refl]
  · have hc1 : ¬ (c : Int) = 0 := by omega
    simp [h0, h1, hc0, hc1]
    have hbd : ∀ n : Nat, Region.binds Region.Mode.any ⟨n, Ground.data⟩ = true := fun _ => by rfl
    refine awDraw_I (RG M' a c) (by kernel_rfl) (by kernel_rfl) ⟨rfl, rfl, by simp [h0], by simp [h1], fun h => by simp at h, fun h => by simp at h, fun h => by simp at h, fun h => by simp at h, fun h => by simp at h, fun h => by simp at h⟩ ?_ ?_
    · rintro X ⟨n', T, M⟩ k o ⟨en, eM, t0, t1, c0, c1, c2, c3, d4, d5⟩ ho hX hd
      have hk : k < 6 := by have := (List.getElem?_eq_some_iff.1 ho).1; simpa using this
      simp only at en eM t0 t1 c0 c1 c2 c3
      subst en
      rcases k with _ | _ | _ | _ | _ | _ | k
      all_goals first | omega | (simp at ho; subst ho; simp [hbd] at hd; try simp at hX)
      · have x5 : X 5 = false := by
          cases h5 : X 5 with
          | false => rfl
          | true => rw [(d5 h5).1] at hX; cases hX
        rw [x5] at t1
        simp at t1
        simp [t1]
        refine ⟨rfl, eM, by simpa [upX] using t0, by simp [t1, x5, upX], fun _ => by simp, fun h => by simpa using c1 (by simpa [upX] using h), fun h => by simpa using c2 (by simpa [upX] using h), fun h => by simpa using c3 (by simpa [upX] using h), fun h => by simpa [upX] using d4 (by simpa [upX] using h), fun h => by simp [upX] at h; simp [upX, (d5 h).2]⟩
      · have x4 : X 4 = false := by
          cases h4 : X 4 with
          | false => rfl
          | true => rw [d4 h4] at hX; cases hX
        rw [x4] at t0
        simp at t0
        simp [t0]
        refine ⟨rfl, eM, by simp [t0, x4, upX], by simpa [upX] using t1, fun h => by simpa using c0 (by simpa [upX] using h), fun _ => by simp, fun h => by simpa using c2 (by simpa [upX] using h), fun h => by simpa using c3 (by simpa [upX] using h), fun h => by simp [upX], fun h => by simpa [upX] using d5 (by simpa [upX] using h)⟩
      · have x5 : X 5 = false := by
          cases h5 : X 5 with
          | false => rfl
          | true => rw [(d5 h5).2] at hX; cases hX
        rw [x5] at t1
        simp at t1
        simp [t1]
        refine ⟨rfl, eM, by simpa [upX] using t0, by simp [t1, x5, upX], fun h => by simpa using c0 (by simpa [upX] using h), fun h => by simpa using c1 (by simpa [upX] using h), fun _ => by simp, fun h => by simpa using c3 (by simpa [upX] using h), fun h => by simpa [upX] using d4 (by simpa [upX] using h), fun h => by simp [upX] at h; simp [upX, (d5 h).1]⟩
      · have e1 := c1 hd.1
        have e2 := c2 hd.2
        simp [e1, e2, hc0, hc1, tmod_nat]
        refine ⟨rfl, eM, by simpa [upX] using t0, by simpa [upX] using t1, fun h => by simpa using c0 (by simpa [upX] using h), fun h => by simpa using c1 (by simpa [upX] using h), fun h => by simpa using c2 (by simpa [upX] using h), fun _ => by simp, fun h => by simpa [upX] using d4 (by simpa [upX] using h), fun h => by simpa [upX] using d5 (by simpa [upX] using h)⟩
      · have e0 := c0 hd.1
        have x1 : X 1 = true := hd.2.2.1 (by rfl)
        simp [e0]
        refine ⟨rfl, eM, by simp, by simpa [upX] using t1, fun h => by simpa using c0 (by simpa [upX] using h), fun h => by simpa using c1 (by simpa [upX] using h), fun h => by simpa using c2 (by simpa [upX] using h), fun h => by simpa using c3 (by simpa [upX] using h), fun _ => by simpa [upX] using x1, fun h => by simpa [upX] using d5 (by simpa [upX] using h)⟩
      · have e3 := c3 hd.1
        have x0 : X 0 = true := hd.2.2.1 (by rfl)
        have x2 : X 2 = true := hd.2.2.2.2.1 (by rfl)
        simp [e3]
        refine ⟨rfl, eM, by simpa [upX] using t0, by simp, fun h => by simpa using c0 (by simpa [upX] using h), fun h => by simpa using c1 (by simpa [upX] using h), fun h => by simpa using c2 (by simpa [upX] using h), fun h => by simpa using c3 (by simpa [upX] using h), fun h => by simpa [upX] using d4 (by simpa [upX] using h), fun _ => by simp [upX, x0, x2]⟩
    · rintro X ⟨n', T, M⟩ hX ⟨en, eM, t0, t1, c0, c1, c2, c3, d4, d5⟩
      have x4 := hX 4 (by simp)
      have x5 := hX 5 (by simp)
      simp only [x4, x5, if_true] at t0 t1 en eM
      subst en
      subst eM
      simp
      have hlt := Nat.mod_lt a (show 0 < c by omega)
      exact lpI (a % c) hlt ⟨c, a % c, rfl, hc, by omega, by rw [Nat.gcd_comm c, ← Nat.gcd_rec, Nat.gcd_comm, hg], rfl, t0, t1⟩
theorem gcd_s {M : Mem} (x y : Nat) (hx : x < 18446744073709551616) (hy : y < 18446744073709551616) : Det Tryz.prog M.length 88 [uv x, uv y] M (uv (x.gcd y : Nat)) M := by
  first | (refine det_fn Tryz.func88 rfl Tryz.ntmps88 Tryz.results88 rfl rfl rfl (by simp) ?_) | (refine det_fnC Tryz.func88 rfl Tryz.ntmps88 Tryz.results88 rfl rfl (by simp) ?_)
  simp
  refine awLoop_T (fun m T M' => ∃ a c : Nat, c = m ∧ a < 18446744073709551616 ∧ c < 18446744073709551616 ∧ a.gcd c = x.gcd y ∧ M' = M ∧ look T 0 = some (uv a) ∧ look T 1 = some (uv c)) y ⟨x, y, rfl, hx, hy, rfl, rfl, by simp, by simp⟩ ?_
  rintro m T M' ⟨a, c, rfl, ha, hc, hg, rfl, h0, h1⟩
  by_cases hc0 : c = 0
  · subst hc0
    rw [Nat.gcd_zero_right] at hg
    simp [h0, h1, hg, Keeps.refl]
  · have hc1 : ¬ (c : Int) = 0 := by omega
    have hc2 : 0 < c := by omega
    simp [h0, h1, hc0, hc1, hc2, tmod_nat]
    have hlt := Nat.mod_lt a (show 0 < c by omega)
    refine lpI (a % c) hlt ⟨c, a % c, rfl, hc, by omega, by rw [Nat.gcd_comm c, ← Nat.gcd_rec, Nat.gcd_comm, hg], rfl, by simp, by simp⟩
theorem mag_i {M : Mem} (n : Int) (h1 : -9223372036854775808 ≤ n) (h2 : n ≤ 9223372036854775807) : Det Tryz.prog M.length 80 [iv n] M (uv n.natAbs) M := by
  first | (refine det_fn Tryz.func80 rfl Tryz.ntmps80 Tryz.results80 rfl rfl rfl (by simp) ?_) | (refine det_fnC Tryz.func80 rfl Tryz.ntmps80 Tryz.results80 rfl rfl (by simp) ?_)
  simp
  by_cases h : n < 0
  · have e : IntKind.u64.wrap (-IntKind.u64.wrap n) = ((n.natAbs : Nat) : Int) := by rw [← Int.zero_sub, u64_mag h1 h]; omega
    simp [h, e, Keeps.refl]
  · have e : IntKind.u64.wrap n = ((n.natAbs : Nat) : Int) := by rw [u64_in (by omega) (by omega)]; omega
    simp [h, e, Keeps.refl]
theorem mag_s {M : Mem} (n : Int) (h1 : -9223372036854775808 ≤ n) (h2 : n ≤ 9223372036854775807) : Det Tryz.prog M.length 89 [iv n] M (uv n.natAbs) M := by
  first | (refine det_fn Tryz.func89 rfl Tryz.ntmps89 Tryz.results89 rfl rfl rfl (by simp) ?_) | (refine det_fnC Tryz.func89 rfl Tryz.ntmps89 Tryz.results89 rfl rfl (by simp) ?_)
  simp
  by_cases h : n < 0
  · have e : IntKind.u64.wrap (IntKind.u64.wrap (-(n + 1)) + 1) = ((n.natAbs : Nat) : Int) := by rw [u64_in (x := -(n + 1)) (by omega) (by omega), u64_in (by omega) (by omega)]; omega
    simp (disch := omega) [h, e, wrap_in, Keeps.refl]
  · have e : IntKind.u64.wrap n = ((n.natAbs : Nat) : Int) := by rw [u64_in (by omega) (by omega)]; omega
    simp [h, e, Keeps.refl]
end Go.Proofs.YtodbjnngkonklaaGreatDoor

namespace Go.Proofs.YtodbjnngkonklaaGreatDoor
open Go.RowKit
set_option linter.unusedVariables false
set_option linter.unusedSimpArgs false
set_option maxRecDepth 100000
attribute [local simp] List.getElem?_cons_zero
attribute [local irreducible] awCond awCall awLoop awDraw ow retQ retC resQ Keeps
theorem isFrac_i {M : Mem} (f : Frac) : Det Tryz.prog M.length 67 [f.v] M (.bool (fracB f)) M := by
  first | (refine det_fn Tryz.func67 rfl Tryz.ntmps67 Tryz.results67 rfl rfl rfl (by simp) ?_) | (refine det_fnC Tryz.func67 rfl Tryz.ntmps67 Tryz.results67 rfl rfl (by simp) ?_)
  simp
  refine awDraw_E 15 [[],[0],[1,0],[2,1,0],[3,2,1,0],[4,3,2,1,0],[5,4,3,2,1,0],[3,2,1,0,6,5,4],[7,3,2,1,0,6,5,4],[8,7,3,2,1,0,6,5,4],[9,8,7,3,2,1,0,6,5,4],[10,9,8,7,3,2,1,0,6,5,4],[8,7,3,2,1,0,6,5,4],[12,8,7,3,2,1,0,6,5,4],[13,12,8,7,3,2,1,0,6,5,4],[11,10,9,8,7,3,2,1,0,6,5,4,14,13,12],[15,11,10,9,8,7,3,2,1,0,6,5,4,14,13,12],[8,7,3,2,1,0,6,5,4,16,15,11,10,9,14,13,12],[17,8,7,3,2,1,0,6,5,4,16,15,11,10,9,14,13,12]] (by kernel_rfl) (by kernel_rfl) ?_
  simp
  refine awCall_det' (within_a _ _ _) (by simp) ?_
  by_cases h1 : inB f.d 1 1000000 = true
  · have b1 := inB_iff.1 h1
    simp [h1]
    refine awCall_det' (within_a _ _ _) (by simp) ?_
    by_cases h2 : inB f.n (-1000000000) 1000000000 = true
    · have b2 := inB_iff.1 h2
      simp [h2]
      refine awCall_det' (mag_i _ (by omega) (by omega)) (by simp) ?_
      have e : IntKind.u64.wrap f.d = ((f.d.natAbs : Nat) : Int) := by rw [u64_in (by omega) (by omega)]; omega
      simp [e]
      refine awCall_det' (gcd_i _ _ (by omega) (by omega)) (by simp) ?_
      have eb : fracB f = decide (f.n.natAbs.gcd f.d.natAbs = 1) := by simp [fracB, h1, h2]
      rw [eb]
      by_cases h3 : f.n.natAbs.gcd f.d.natAbs = 1
      · simp [h3, keeps_app]
      · have h3' : ¬ ((f.n.natAbs.gcd f.d.natAbs : Nat) : Int) = 1 := by omega
        simp [h3, h3', keeps_app]
    · have eb : fracB f = false := by simp [fracB, h2]
      simp [h2, eb, keeps_app]
  · have eb : fracB f = false := by simp [fracB, h1]
    simp [h1, eb, keeps_app]
theorem l02Ok_a {M : Mem} (f : Frac) : Det Tryz.prog M.length 74 [f.v] M (.bool (fracB f)) M := by
  first | (refine det_fn Tryz.func74 rfl Tryz.ntmps74 Tryz.results74 rfl rfl rfl (by simp) ?_) | (refine det_fnC Tryz.func74 rfl Tryz.ntmps74 Tryz.results74 rfl rfl (by simp) ?_)
  simp
  refine awDraw_E 15 [[],[0],[1,0],[2,1,0],[3,2,1,0],[4,3,2,1,0],[5,4,3,2,1,0],[3,2,1,0,6,5,4],[7,3,2,1,0,6,5,4],[8,7,3,2,1,0,6,5,4],[9,8,7,3,2,1,0,6,5,4],[10,9,8,7,3,2,1,0,6,5,4],[8,7,3,2,1,0,6,5,4],[12,8,7,3,2,1,0,6,5,4],[13,12,8,7,3,2,1,0,6,5,4],[11,10,9,8,7,3,2,1,0,6,5,4,14,13,12],[15,11,10,9,8,7,3,2,1,0,6,5,4,14,13,12],[8,7,3,2,1,0,6,5,4,16,15,11,10,9,14,13,12],[17,8,7,3,2,1,0,6,5,4,16,15,11,10,9,14,13,12]] (by kernel_rfl) (by kernel_rfl) ?_
  simp
  refine awCall_det' (l00In_a _ _ _) (by simp) ?_
  by_cases h1 : inB f.d 1 1000000 = true
  · have b1 := inB_iff.1 h1
    simp [h1]
    refine awCall_det' (l00In_a _ _ _) (by simp) ?_
    by_cases h2 : inB f.n (-1000000000) 1000000000 = true
    · have b2 := inB_iff.1 h2
      simp [h2]
      refine awCall_det' (mag_s _ (by omega) (by omega)) (by simp) ?_
      have e : IntKind.u64.wrap f.d = ((f.d.natAbs : Nat) : Int) := by rw [u64_in (by omega) (by omega)]; omega
      simp [e]
      refine awCall_det' (gcd_s _ _ (by omega) (by omega)) (by simp) ?_
      have eb : fracB f = decide (f.n.natAbs.gcd f.d.natAbs = 1) := by simp [fracB, h1, h2]
      rw [eb]
      by_cases h3 : f.n.natAbs.gcd f.d.natAbs = 1
      · simp [h3, keeps_app]
      · have h3' : ¬ ((f.n.natAbs.gcd f.d.natAbs : Nat) : Int) = 1 := by omega
        simp [h3, h3', keeps_app]
    · have eb : fracB f = false := by simp [fracB, h2]
      simp [h2, eb, keeps_app]
  · have eb : fracB f = false := by simp [fracB, h1]
    simp [h1, eb, keeps_app]
theorem fr_build0 : Instr.fill (fun x => [(0, 1), (1, 1)][x]?) #[iv 0, iv 0] [] = some #[iv 0, iv 0] := by rfl
theorem fr_build (a b : Int) : Instr.fill (fun x => [(0, 1), (1, 1)][x]?) #[iv 0, iv 0] [(0, iv a), (1, iv b)] = some #[iv a, iv b] := by rfl
def qN (x y : Nat) : Nat := x / y
theorem qN_le (x y : Nat) : qN x y ≤ x := Nat.div_le_self _ _
theorem tdiv_q (x y : Nat) : ((x : Int)).tdiv y = ((qN x y : Nat) : Int) := tdiv_nat x y
theorem div_q (x y : Nat) : (x : Int) / y = ((qN x y : Nat) : Int) := rfl
/-- Two quotients by the same number, assigned at once. -/
structure RM (n0 : Nat) (T0 : List (Nat × Value)) (M : Mem) (a c g : Nat) (X : Nat → Bool) (S : St) : Prop where
  n : S.n = n0
  M : S.M = M
  t6 : look S.T 6 = some (uv (if X 6 = true then qN a g else a : Nat))
  t7 : look S.T 7 = some (uv (if X 7 = true then qN c g else c : Nat))
  t8 : look S.T 8 = some (uv g)
  c0 : X 0 = true → look S.T 20 = some (uv a)
  c1 : X 1 = true → look S.T 21 = some (uv g)
  c2 : X 2 = true → look S.T 22 = some (uv (qN a g : Nat))
  c3 : X 3 = true → look S.T 23 = some (uv c)
  c4 : X 4 = true → look S.T 24 = some (uv g)
  c5 : X 5 = true → look S.T 25 = some (uv (qN c g : Nat))
  d6 : X 6 = true → X 0 = true
  d7 : X 7 = true → X 3 = true
  rest : ∀ t, t ≠ 6 → t ≠ 7 → (t < 20 ∨ 25 < t) → look S.T t = look T0 t
def RMv (a c g : Nat) : Nat → Nat × Nat
  | 0 => (20, a)
  | 1 => (21, g)
  | 2 => (22, qN a g)
  | 3 => (23, c)
  | 4 => (24, g)
  | 5 => (25, qN c g)
  | 6 => (6, qN a g)
  | _ => (7, qN c g)
theorem RM.step {n0 : Nat} {T0 T : List (Nat × Value)} {M : Mem} {a c g k : Nat} {X : Nat → Bool} (h : RM n0 T0 M a c g X ⟨n0, T, M⟩) (hk : k < 8) (h6 : k = 6 → X 0 = true) (h7 : k = 7 → X 3 = true) : RM n0 T0 M a c g (upX X k) ⟨n0, ((RMv a c g k).1, uv (RMv a c g k).2) :: T, M⟩ := by
  obtain ⟨-, -, t6, t7, t8, c0, c1, c2, c3, c4, c5, d6, d7, rest⟩ := h
  simp only at t6 t7 t8 c0 c1 c2 c3 c4 c5 rest
  have up : ∀ {j : Nat}, upX X k j = true → j ≠ k → X j = true := fun {j} hj e => by rwa [upX_ne e] at hj
  have up2 : ∀ {j : Nat}, X j = true → upX X k j = true := fun {j} hj => by
    by_cases e : j = k
    · subst e; simp
    · rwa [upX_ne e]
  have dst : ∀ t : Nat, t ≠ (RMv a c g k).1 → look (((RMv a c g k).1, uv (RMv a c g k).2) :: T) t = look T t := fun t ht => look_other ht
  have same : look (((RMv a c g k).1, uv (RMv a c g k).2) :: T) (RMv a c g k).1 = some (uv (RMv a c g k).2) := look_same
  have hd : (RMv a c g k).1 = (if k < 6 then 20 + k else k) := by
    rcases k with _ | _ | _ | _ | _ | _ | _ | _ | k <;> first | omega | rfl
  have cl : ∀ (j t : Nat) (x : Nat), j < 6 → t = 20 + j → (RMv a c g j) = (t, x) → (X j = true → look T t = some (uv x)) → (upX X k j = true → look (((RMv a c g k).1, uv (RMv a c g k).2) :: T) t = some (uv x)) := by
    intro j t x hj ht hv hc hx
    by_cases e : j = k
    · subst e
      rw [hv]
      exact look_same
    · rw [dst t (by rw [hd]; split <;> omega)]
      exact hc (up hx e)
  refine ⟨rfl, rfl, ?_, ?_, ?_, cl 0 20 a (by omega) rfl rfl c0, cl 1 21 g (by omega) rfl rfl c1, cl 2 22 (qN a g) (by omega) rfl rfl c2, cl 3 23 c (by omega) rfl rfl c3, cl 4 24 g (by omega) rfl rfl c4, cl 5 25 (qN c g) (by omega) rfl rfl c5, fun hx => ?_, fun hx => ?_, fun t n6 n7 ht => ?_⟩
  · by_cases e : 6 = k
    · subst e; simp [RMv]
    · rw [dst 6 (by rw [hd]; split <;> omega), upX_ne e]; exact t6
  · by_cases e : 7 = k
    · subst e; simp [RMv]
    · rw [dst 7 (by rw [hd]; split <;> omega), upX_ne e]; exact t7
  · rw [dst 8 (by rw [hd]; split <;> omega)]; exact t8
  · by_cases e : 6 = k
    · exact up2 (h6 e.symm)
    · exact up2 (d6 (up hx e))
  · by_cases e : 7 = k
    · exact up2 (h7 e.symm)
    · exact up2 (d7 (up hx e))
  · show look (((RMv a c g k).1, uv (RMv a c g k).2) :: T) t = look T0 t
    rw [dst t (by rw [hd]; split <;> omega)]; exact rest t n6 n7 ht






























































































end Go.Proofs.YtodbjnngkonklaaGreatDoor

namespace Go.Proofs.YtodbjnngkonklaaGreatDoor
open Go.RowKit
set_option linter.unusedVariables false
set_option linter.unusedSimpArgs false
set_option maxRecDepth 100000
attribute [local simp] List.getElem?_cons_zero
attribute [local irreducible] awCond awCall awLoop awDraw ow retQ retC resQ Keeps
theorem floor_tdiv (a b : Int) (hb : 0 < b) : (if a.tmod b < 0 then a.tdiv b - 1 else a.tdiv b) = a / b := by
  have h3 := Int.mul_tdiv_add_tmod a b
  have h4 := Int.tmod_lt_of_pos a hb
  have h5 := Int.lt_tmod_of_pos a hb
  split
  · rename_i h
    have e : a = (a.tmod b + b) + b * (a.tdiv b - 1) := by rw [Int.mul_sub, Int.mul_one]; omega
    conv => rhs; rw [e]
    rw [Int.add_mul_ediv_left _ _ (by omega), Int.ediv_eq_zero_of_lt (by omega) (by omega)]
    omega
  · rename_i h
    have e : a = a.tmod b + b * a.tdiv b := by omega
    conv => rhs; rw [e]
    rw [Int.add_mul_ediv_left _ _ (by omega), Int.ediv_eq_zero_of_lt (by omega) (by omega)]
    omega
theorem tdiv_in {a b : Int} (ha : -1000000000 ≤ a) (ha2 : a ≤ 1000000000) (hb : 0 < b) : -1000000000 ≤ a.tdiv b ∧ a.tdiv b ≤ 1000000000 := by
  have h : (a.tdiv b).natAbs ≤ a.natAbs := by rw [Int.natAbs_tdiv]; exact Nat.div_le_self _ _
  omega
end Go.Proofs.YtodbjnngkonklaaGreatDoor

namespace Go.Proofs.YtodbjnngkonklaaGreatDoor
open Go.RowKit
set_option linter.unusedVariables false
set_option linter.unusedSimpArgs false
set_option maxRecDepth 100000
attribute [local simp] List.getElem?_cons_zero
attribute [local irreducible] awCond awCall awLoop awDraw ow retQ retC resQ Keeps














































theorem fill_two {k : Nat} {z : List Value} {x y : Array Value} (hk : 0 < k) (hz : z.length = k) (hx : x.size = k) (hy : y.size = k) : Instr.fill (fun i => some (i * k, k)) (zrow z 2).toArray [(0, .agg x), (1, .agg y)] = some (x ++ y) := by
  have := Go.Great.fill_whole hk [.agg x, .agg y] (zrow z 2).toArray (by simp [hx, hy]) (by simp [zrow, hz]; omega)
  have e : (x.toList ++ y.toList).toArray = x ++ y := by apply Array.ext'; simp
  rw [← e]
  simpa using this
theorem fr_two (a b c d : Int) : Instr.fill (fun i => some (i * 2, 2)) (zrow [iv 0, iv 0] 2).toArray [(0, .agg #[iv a, iv b]), (1, .agg #[iv c, iv d])] = some #[iv a, iv b, iv c, iv d] := fill_two (by omega) rfl rfl rfl








































































































































theorem compare_i {M : Mem} (a b : Frac) (ha : fracB a = true) (hb : fracB b = true) : Det Tryz.prog M.length 77 [a.v, b.v] M (iv (cmpF a b)) M := by
  obtain ⟨b1, b2, b3, b4⟩ := frac_bd ha hb
  first | (refine det_fn Tryz.func77 rfl Tryz.ntmps77 Tryz.results77 rfl rfl rfl (by simp) ?_) | (refine det_fnC Tryz.func77 rfl Tryz.ntmps77 Tryz.results77 rfl rfl (by simp) ?_)
  simp (disch := omega) [wrap_in]
  unfold cmpF
  generalize a.n * b.d = x at *
  generalize b.n * a.d = y at *
  rcases Int.lt_trichotomy x y with h | h | h
  · have h1' : x - y < 0 := by omega
    simp [h1', keeps_app]
  · subst h
    simp [keeps_app]
  · have h1 : ¬ x < y := by omega
    have h2 : ¬ x - y < 0 := by omega
    have h3 : 0 < x - y := by omega
    rw [if_neg h2, if_pos h3]
    simp only [decide_eq_false h2, awCond_false]
    simp [h, keeps_app]


















def beatB (f : Frac) : Bool := fracB f && decide (0 ≤ f.n) && decide (f.n ≤ 1000 * f.d)
theorem whole_ok {n : Int} (h1 : -1000000000 ≤ n) (h2 : n ≤ 1000000000) : fracB ⟨n, 1⟩ = true := fracB_iff.2 ⟨by simp only; omega, by simp only; omega, Nat.gcd_one_right _⟩
theorem whole_i {M : Mem} (n : Int) : Det Tryz.prog M.length 78 [iv n] M (Frac.v ⟨n, 1⟩) M := by
  first | (refine det_fn Tryz.func78 rfl Tryz.ntmps78 Tryz.results78 rfl rfl rfl (by simp) ?_) | (refine det_fnC Tryz.func78 rfl Tryz.ntmps78 Tryz.results78 rfl rfl (by simp) ?_)
  simp [fr_build, keeps_app]
theorem isBeat_i {M : Mem} (f : Frac) : Det Tryz.prog M.length 64 [f.v] M (.bool (beatB f)) M := by
  first | (refine det_fn Tryz.func64 rfl Tryz.ntmps64 Tryz.results64 rfl rfl rfl (by simp) ?_) | (refine det_fnC Tryz.func64 rfl Tryz.ntmps64 Tryz.results64 rfl rfl (by simp) ?_)
  simp
  refine awDraw_E 10 [[],[0],[1,0],[2,1,0],[3,2,1,0],[4,3,2,1,0],[2,1,0,5,4,3],[6,2,1,0,5,4,3],[7,6,2,1,0,5,4,3],[7,6,2,1,0,5,4,3],[8,7,6,2,1,0,5,4,3,9],[10,8,7,6,2,1,0,5,4,3,9],[7,6,2,1,0,5,4,3,11,10,8,9],[12,7,6,2,1,0,5,4,3,11,10,8,9]] (by kernel_rfl) (by kernel_rfl) ?_
  simp
  refine awCall_det' (isFrac_i f) (by simp) ?_
  by_cases h1 : fracB f = true
  · have hb := fracB_iff.1 h1
    simp [h1]
    by_cases h2 : 0 ≤ f.n
    · simp [h2]
      refine awCall_det' (whole_i 1000) (by simp) ?_
      simp
      refine awCall_det' (compare_i f ⟨1000, 1⟩ h1 (whole_ok (by omega) (by omega))) (by simp) ?_
      have e : decide (cmpF f ⟨1000, 1⟩ ≤ 0) = decide (f.n ≤ 1000 * f.d) := by
        unfold cmpF
        simp only
        by_cases h3 : f.n ≤ 1000 * f.d
        · rw [decide_eq_true h3]
          split
          · rfl
          · rw [if_neg (by omega)]; rfl
        · rw [decide_eq_false h3, if_neg (by omega), if_pos (by omega)]
          rfl
      simp [e, beatB, h1, h2, keeps_app]
    · have e : beatB f = false := by simp [beatB, h2]
      simp [h2, e, keeps_app]
  · have e : beatB f = false := by simp [beatB, h1]
    simp [h1, e, keeps_app]
theorem l17Beat_a {M : Mem} (f : Frac) (h1 : fracB f = true) : Det Tryz.prog M.length 75 [f.v] M (.bool (beatB f)) M := by
  have hb := fracB_iff.1 h1
  first | (refine det_fn Tryz.func75 rfl Tryz.ntmps75 Tryz.results75 rfl rfl rfl (by simp) ?_) | (refine det_fnC Tryz.func75 rfl Tryz.ntmps75 Tryz.results75 rfl rfl (by simp) ?_)
  simp
  by_cases h2 : 0 ≤ f.n
  · simp (disch := omega) [h2, wrap_in, beatB, h1, keeps_app]
  · have e : beatB f = false := by simp [beatB, h2]
    simp [h2, e, keeps_app]
def floorF (f : Frac) : Int := if fracB f = true then f.n / f.d else 0










end Go.Proofs.YtodbjnngkonklaaGreatDoor
