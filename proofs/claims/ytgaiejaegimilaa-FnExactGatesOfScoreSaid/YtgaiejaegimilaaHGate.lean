/- Gate: records in memory, and the laws' helpers on them. No conditions. -/
import Derived.Test.YtgaiejaegimilaaB0
import Derived.Test.YtgaiejaegimilaaLA
import Derived.Laws.StructEq
namespace Go.Proofs.Ytgaiejaegimilaa
open Go.RowKit
set_option linter.unusedVariables false
set_option linter.unusedSimpArgs false
set_option maxRecDepth 100000
attribute [local simp] List.getElem?_cons_zero
attribute [local irreducible] awCond awCall awLoop awDraw ow retQ retC resQ Keeps
structure Gate where
  (o s e k u : Int)
deriving Inhabited, DecidableEq
def Gate.row (c : Gate) : List Value := [iv c.o, iv c.s, iv c.e, iv c.k, iv c.u]
def gateR : RecV Gate 5 := ⟨Gate.row, fun _ => rfl⟩
abbrev Gate.v (c : Gate) : Value := .agg #[iv c.o, iv c.s, iv c.e, iv c.k, iv c.u]
theorem gate_cells {M : Mem} {id off : Nat} {g : Gate} (h : Cl M id off g.row) : cellAt M id off = some (iv g.o) ∧ cellAt M id (off + 1) = some (iv g.s) ∧ cellAt M id (off + 2) = some (iv g.e) ∧ cellAt M id (off + 3) = some (iv g.k) ∧ cellAt M id (off + 4) = some (iv g.u) :=
  ⟨h 0 _ rfl, h 1 _ rfl, h 2 _ rfl, h 3 _ rfl, h 4 _ rfl⟩
theorem gate_load {M : Mem} {id off : Nat} {g : Gate} (h : Cl M id off g.row) : cellsAt M id off 5 = some [iv g.o, iv g.s, iv g.e, iv g.k, iv g.u] := cellsAt_of h rfl (by omega)
theorem gate_eq {a b : Gate} : a = b ↔ a.o = b.o ∧ a.s = b.s ∧ a.e = b.e ∧ a.k = b.k ∧ a.u = b.u := by
  cases a; cases b; simp
def gateI : Ints gateR := ⟨fun zs => ⟨gi zs 0, gi zs 1, gi zs 2, gi zs 3, gi zs 4⟩, fun zs h => by
  obtain ⟨x0, x1, x2, x3, x4, rfl⟩ : ∃ x0 x1 x2 x3 x4, zs = [x0, x1, x2, x3, x4] := by
    match zs, h with
    | [x0, x1, x2, x3, x4], _ => exact ⟨x0, x1, x2, x3, x4, rfl⟩
  rfl⟩

/-- Equality of records, as the language has it. -/
theorem gate_same (a b : Gate) : aggEq Try.prog 65 #[iv a.o, iv a.s, iv a.e, iv a.k, iv a.u] #[iv b.o, iv b.s, iv b.e, iv b.k, iv b.u] = some (decide (a = b)) := by
  refine aggEq_of (by kernel_rfl) rfl rfl fun w => ?_
  unfold Op.equal
  rw [show Op.maxDepth = 9999 + 1 from rfl]
  rw [run_equalIn_agg _ _ _ _ _ Try.underlying65 (by kernel_rfl)]
  simp [go_sem]
  repeat' split
  all_goals simp_all [gate_eq]
theorem gate_eql (a b : Gate) : binV Try.prog .eql 65 (.agg #[iv a.o, iv a.s, iv a.e, iv a.k, iv a.u]) (.agg #[iv b.o, iv b.s, iv b.e, iv b.k, iv b.u]) = some (.bool (decide (a = b))) := by
  simp only [binV, eqV, Try.underlying65, gate_same, Option.map_some]
theorem gate_neq (a b : Gate) : binV Try.prog .neq 65 (.agg #[iv a.o, iv a.s, iv a.e, iv a.k, iv a.u]) (.agg #[iv b.o, iv b.s, iv b.e, iv b.k, iv b.u]) = some (.bool (!decide (a = b))) := by
  simp only [binV, eqV, Try.underlying65, gate_same, Option.map_some]
@[simp] theorem gate_fill (x0 x1 x2 x3 x4 : Int) : Instr.fill (fun i => some (i * 5, 5)) (zrow [iv 0, iv 0, iv 0, iv 0, iv 0] 1).toArray [(0, .agg #[iv x0, iv x1, iv x2, iv x3, iv x4])] = some #[iv x0, iv x1, iv x2, iv x3, iv x4] := fill_agg (by omega) rfl rfl
theorem eqGate_a {M : Mem} (a b : Gate) : Det Try.prog M.length 59 [a.v, b.v] M (.bool (decide (a = b))) M := by
  first | (refine det_fn Try.func59 rfl Try.ntmps59 Try.results59 rfl rfl rfl (by simp) ?_) | (refine det_fnC Try.func59 rfl Try.ntmps59 Try.results59 rfl rfl (by simp) ?_)
  simp
  repeat' (first | (refine awCond_split ?_ ?_ <;> intro _) | (simp [keeps_app]))
  all_goals (simp_all [gate_eq])
theorem eqGateS_a {M : Mem} {A B : Option Addr} {n c m d : Nat} {x y : List Gate} (hx : Sl gateR M A n x) (hy : Sl gateR M B m y) (hn : n ≤ 1099511627776) : Det Try.prog M.length 19 [.slice A n c, .slice B m d] M (.bool (decide (x = y))) M := by
  have hlx := hx.1
  have hly := hy.1
  first | (refine det_fn Try.func19 rfl Try.ntmps19 Try.results19 rfl rfl rfl (by simp) ?_) | (refine det_fnC Try.func19 rfl Try.ntmps19 Try.results19 rfl rfl (by simp) ?_)
  simp
  refine awCond_split ?_ ?_ <;> intro hnm
  · simp at hnm
    simp
    exact ⟨fun e => by subst e; omega, Keeps.refl _⟩
  · simp at hnm
    obtain rfl : n = m := by omega
    simp
    refine awLoop_T (fun m T M' => ∃ k : Nat, k + m = n ∧ M' = M ∧ look T 5 = some (iv k) ∧ look T 0 = some (.slice A n c) ∧ look T 1 = some (.slice B n d) ∧ x.take k = y.take k) n ⟨0, by omega, rfl, by simp, by simp, by simp, by simp⟩ ?_
    rintro m T M' ⟨k, hm, rfl, h4, h0, h1, hk⟩
    by_cases hlt : k < n
    · obtain ⟨id, off, rfl, he, hc⟩ := hx.at_ hlt
      obtain ⟨id', off', rfl, he', hc'⟩ := hy.at_ hlt
      simp (disch := omega) [h4, h0, h1, hlt, wrap_in]
      refine awDraw_E 8 [[],[],[0,1],[2,0,1],[],[],[4,5],[6,4,5],[3,2,0,1,7,6,4,5],[8,3,2,0,1,7,6,4,5]] (by kernel_rfl) (by kernel_rfl) ?_
      simp (disch := omega) [h4, h0, h1, hlt, wrap_in, gate_load hc, gate_load hc']
      refine awCall_det' (eqGate_a (el x k) (el y k)) (Nat.le_refl _) ?_
      simp
      refine awCond_split ?_ ?_ <;> intro he
      · simp at he
        simp
        exact ⟨fun e => he (by rw [e]), Keeps.refl _⟩
      · simp at he
        simp (disch := omega) [h4, h0, h1, wrap_in]
        refine lpI (m - 1) (by omega) ?_
        exact ⟨k + 1, by omega, rfl, by simp, by simp [h0], by simp [h1], by rw [take_el (by omega), take_el (by omega), hk, he]⟩
    · obtain rfl : k = n := by omega
      rw [List.take_of_length_le (by omega), List.take_of_length_le (by omega)] at hk
      simp [h4, h0, h1, hk, Keeps.refl]
def markGate (z : Int) (i : Nat) : Gate := ⟨z + i * 5, z + i * 5 + 1, z + i * 5 + 1 + 1, z + i * 5 + 1 + 1 + 1, z + i * 5 + 1 + 1 + 1 + 1⟩
def markGateL (z : Int) (n : Nat) : List Gate := (List.range n).map (markGate z)
theorem markGateL_succ (z : Int) (n : Nat) : markGateL z (n + 1) = markGateL z n ++ [markGate z n] := by simp [markGateL, List.range_succ]
theorem markGateS_a {M : Mem} {b : Nat} {A : Option Addr} {n c : Nat} {x : List Gate} (z : Int) (hx : Sl gateR M A n x) (ho : Ownd M A n) (hb : ∀ a, A = some a → 0 < n → b ≤ a.block) (hn : n ≤ 1099511627776) (hz0 : 0 ≤ z) (hz : z ≤ 1152921504606846976) :
    Ctr Try.prog b 23 [.slice A n c, iv z] M fun v M' => v = iv (z + n * 5) ∧ Sl gateR M' A n (markGateL z n) ∧ Ownd M' A n ∧ Turned A n M M' := by
  have hlx := hx.1
  rcases Nat.eq_zero_or_pos n with rfl | hp
  · first | (refine ctr_fn Try.func23 rfl Try.ntmps23 Try.results23 rfl rfl (by simp) ?_) | (refine ctr_fnC Try.func23 rfl Try.ntmps23 Try.results23 rfl (by simp) ?_)
    simp
    refine awLoop_T (fun m T M' => M' = M ∧ look T 1 = some (iv z) ∧ look T 5 = some (iv 0) ∧ look T 0 = some (.slice A 0 c)) 0 ⟨rfl, by simp, by simp, by simp⟩ ?_
    rintro m T M' ⟨rfl, h1, h3, h0⟩
    simp [h1, h3, h0]
    obtain rfl := List.eq_nil_of_length_eq_zero hlx
    exact ⟨hx, ho, rfl, fun i s hs _ => hs⟩
  · obtain ⟨id, off, r, rfl, hr, ho⟩ := ho hp
    have hid := (List.getElem?_eq_some_iff.1 hr).1
    obtain ⟨hz5, hlen⟩ := hx.cells hr hp (by omega)
    have hb' : b ≤ id := hb _ rfl hp
    obtain ⟨cs, own, t, e, esz⟩ := r
    simp only at hz5 hlen ho
    subst hz5 ho
    have hM : M = M.set id (.live ⟨cs.take off ++ cellsL gateR (markGateL z 0) ++ cs.drop (off + 0 * 5), true, t, e, 5⟩) := by
      rw [set_self]
      simp [markGateL, cellsL_nil, hr]
    first | (refine ctr_fn Try.func23 rfl Try.ntmps23 Try.results23 rfl rfl (by simp) ?_) | (refine ctr_fnC Try.func23 rfl Try.ntmps23 Try.results23 rfl (by simp) ?_)
    simp
    refine awLoop_T (fun m T M' => ∃ j : Nat, j + m = n ∧ M' = M.set id (.live ⟨cs.take off ++ cellsL gateR (markGateL z j) ++ cs.drop (off + j * 5), true, t, e, 5⟩) ∧ look T 5 = some (iv j) ∧ look T 1 = some (iv (z + j * 5)) ∧ look T 0 = some (.slice (some ⟨id, off, none⟩) n c)) n ⟨0, by omega, hM, by simp, by simp, by simp⟩ ?_
    rintro m T M' ⟨j, hm, rfl, h5, h1, h0⟩
    have hlm : (markGateL z j).length = j := by simp [markGateL]
    by_cases hlt : j < n
    · have hsp := splice_mid gateR (cs := cs) (off := off) (a := markGate z j) hlm (by omega)
      have hlc : (cs.take off ++ cellsL gateR (markGateL z j) ++ cs.drop (off + j * 5)).length = cs.length := by
        simp only [List.length_append, List.length_take, List.length_drop, cellsL_len, hlm]; omega
      generalize cs.take off ++ cellsL gateR (markGateL z j) ++ cs.drop (off + j * 5) = Cs at hsp hlc ⊢
      simp (disch := first | omega | (simp <;> omega)) [h5, h1, h0, hlt, wrap_in, rowEsz_set hid, put_set hid hb']
      refine lpI (m - 1) (by omega) ?_
      refine ⟨j + 1, by omega, ?_, by simp, by simp; omega, by simp [h0]⟩
      rw [markGateL_succ, ← hsp]
      rfl
    · obtain rfl : j = n := by omega
      have hS := Sl.set (R := gateR) (M := M) (pre := cs.take off) (post := cs.drop (off + j * 5)) (o := true) (t := t) (e := e) hid (List.length_take_of_le (by omega)) hlm
      have hO : Ownd (M.set id (.live ⟨cs.take off ++ cellsL gateR (markGateL z j) ++ cs.drop (off + j * 5), true, t, e, 5⟩)) (some ⟨id, off, none⟩) j := fun _ => ⟨_, _, _, rfl, List.getElem?_set_self hid, rfl⟩
      have hT : Turned (some ⟨id, off, none⟩) j M (M.set id (.live ⟨cs.take off ++ cellsL gateR (markGateL z j) ++ cs.drop (off + j * 5), true, t, e, 5⟩)) := set_turned hp
      generalize M.set id (.live ⟨cs.take off ++ cellsL gateR (markGateL z j) ++ cs.drop (off + j * 5), true, t, e, 5⟩) = M' at hS hO hT ⊢
      simp [h5, h1, h0]
      exact ⟨hS, hO, hT⟩
theorem heldGateS_a {M : Mem} {A : Option Addr} {n c : Nat} (z : Int) (hx : Sl gateR M A n (markGateL z n)) (hn : n ≤ 1099511627776) (hz0 : 0 ≤ z) (hz : z ≤ 1152921504606846976) :
    Det Try.prog M.length 24 [.slice A n c, iv z] M (iv (z + n * 5)) M := by
  first | (refine det_fn Try.func24 rfl Try.ntmps24 Try.results24 rfl rfl rfl (by simp) ?_) | (refine det_fnC Try.func24 rfl Try.ntmps24 Try.results24 rfl rfl (by simp) ?_)
  simp
  refine awLoop_T (fun m T M' => ∃ j : Nat, j + m = n ∧ M' = M ∧ look T 5 = some (iv j) ∧ look T 1 = some (iv (z + j * 5)) ∧ look T 0 = some (.slice A n c)) n ⟨0, by omega, rfl, by simp, by simp, by simp⟩ ?_
  rintro m T M' ⟨j, hm, rfl, h5, h1, h0⟩
  by_cases hlt : j < n
  · obtain ⟨id, off, rfl, he, hc⟩ := hx.at_ hlt
    rw [show el (markGateL z n) j = markGate z j by simp [markGateL, el, hlt]] at hc
    obtain ⟨c0, c1, c2, c3, c4⟩ := gate_cells hc
    simp (disch := omega) [h5, h1, h0, hlt, wrap_in, c0, c1, c2, c3, c4, markGate]
    refine lpI (m - 1) (by omega) ?_
    exact ⟨j + 1, by omega, rfl, by simp, by simp; omega, by simp [h0]⟩
  · obtain rfl : j = n := by omega
    simp [h5, h1, h0, Keeps.refl]
/-! The same, as the laws use them. -/
theorem eq_GateS {M : Mem} {v w : Value} {lo hi lo' hi' : Nat} {x y : List Gate} (hx : OwL gateR lo hi M v x) (hy : RdL gateR lo' hi' M w y) : Det Try.prog M.length 19 [v, w] M (.bool (decide (x = y))) M := by
  obtain ⟨A, n, c, rfl, hn, hS, _⟩ := hx
  obtain ⟨B, m, d, rfl, hm, hT, _⟩ := hy
  exact eqGateS_a hS hT hn
theorem mark_GateS {M : Mem} {b : Nat} {v : Value} {lo hi : Nat} {l : List Gate} {z : Int} (h : OwL gateR lo hi M v l) (hb : b ≤ lo) (hz : 0 ≤ z) (hz1 : z ≤ 1152921504606846976) :
    Ctr Try.prog b 23 [v, iv z] M fun r M' => r = iv (z + l.length * 5) ∧ OwL gateR lo hi M' v (markGateL z l.length) ∧ Turn lo hi M M' := by
  obtain ⟨A, n, c, rfl, hn, hS, hi', ho⟩ := h
  exact (markGateS_a z hS ho (fun a e hp => by have := hi' a e hp; omega) hn hz hz1).mono fun r M' ⟨h1, h2, h3, h4⟩ => ⟨by rw [h1, hS.1], ⟨A, n, c, rfl, hn, by rw [hS.1]; exact h2, hi', h3⟩, Nat.le_of_eq h4.1.symm, fun i s hs hd => h4.2 i s hs fun a e hp => by have := hi' a e hp; omega⟩
theorem held_GateS {M : Mem} {v : Value} {lo hi m : Nat} {z : Int} (h : OwL gateR lo hi M v (markGateL z m)) (hz : 0 ≤ z) (hz1 : z ≤ 1152921504606846976) : Det Try.prog M.length 24 [v, iv z] M (iv (z + m * 5)) M := by
  obtain ⟨A, n, c, rfl, hn, hS, _⟩ := h
  have hm : m = n := by have := hS.1; simpa [markGateL] using this
  subst hm
  exact heldGateS_a z hS hn hz hz1
end Go.Proofs.Ytgaiejaegimilaa
