/- Parts of the proof, together: Gate: records in memory, and the laws' helpers on them. Gates: contracts of the functions on one gate. Gates: are two lists equal. Gates: playable, polyphony. The program's controls of a voice. Controls of a voice: plain, and their lists in memory. No conditions. -/
import Derived.Test.YtimijeeihicohaaGreatZzRv9
import Derived.Laws.StructEq
import Derived.Test.YtimijeeihicohaaGreatZzRv15
import Derived.Test.YtimijeeihicohaaGreatZzRv12
namespace Go.Proofs.YtimijeeihicohaaGreat
open Go.RowKit
set_option linter.unusedVariables false
set_option linter.unusedSimpArgs false
set_option maxRecDepth 100000
attribute [local simp] List.getElem?_cons_zero
attribute [local irreducible] awCond awCall awLoop awDraw ow retQ retC resQ Keeps
structure Gate where
  (o s e k u : Int)
deriving Inhabited, DecidableEq
def Gate.row (c : Gate) : List Value := [iv c.o, iv c.s, iv c.e, iv c.k, iv c.u]
def gateR : RecV Gate 5 := ⟨Gate.row, fun _ => rfl⟩
abbrev Gate.v (c : Gate) : Value := .agg #[iv c.o, iv c.s, iv c.e, iv c.k, iv c.u]
theorem gate_cells {M : Mem} {id off : Nat} {g : Gate} (h : Cl M id off g.row) : cellAt M id off = some (iv g.o) ∧ cellAt M id (off + 1) = some (iv g.s) ∧ cellAt M id (off + 2) = some (iv g.e) ∧ cellAt M id (off + 3) = some (iv g.k) ∧ cellAt M id (off + 4) = some (iv g.u) :=
  ⟨h 0 _ rfl, h 1 _ rfl, h 2 _ rfl, h 3 _ rfl, h 4 _ rfl⟩
theorem gate_load {M : Mem} {id off : Nat} {g : Gate} (h : Cl M id off g.row) : cellsAt M id off 5 = some [iv g.o, iv g.s, iv g.e, iv g.k, iv g.u] := cellsAt_of h rfl (by omega)
theorem gate_eq {a b : Gate} : a = b ↔ a.o = b.o ∧ a.s = b.s ∧ a.e = b.e ∧ a.k = b.k ∧ a.u = b.u := by
  cases a; cases b; simp
def gateI : Ints gateR := ⟨fun zs => ⟨gi zs 0, gi zs 1, gi zs 2, gi zs 3, gi zs 4⟩, fun zs h => by
  obtain ⟨x0, x1, x2, x3, x4, rfl⟩ : ∃ x0 x1 x2 x3 x4, zs = [x0, x1, x2, x3, x4] := by
    match zs, h with
    | [x0, x1, x2, x3, x4], _ => exact ⟨x0, x1, x2, x3, x4, rfl⟩
  rfl⟩

/-- Equality of records, as the language has it. -/
theorem gate_same (a b : Gate) : aggEq Tryz.prog 90 #[iv a.o, iv a.s, iv a.e, iv a.k, iv a.u] #[iv b.o, iv b.s, iv b.e, iv b.k, iv b.u] = some (decide (a = b)) := by
  refine aggEq_of (by kernel_rfl) rfl rfl fun w => ?_
  unfold Op.equal
  rw [show Op.maxDepth = 9999 + 1 from rfl]
  rw [run_equalIn_agg _ _ _ _ _ Tryz.underlying90 (by kernel_rfl)]
  simp [go_sem]
  repeat' split
  all_goals simp_all [gate_eq]
theorem gate_eql (a b : Gate) : binV Tryz.prog .eql 90 (.agg #[iv a.o, iv a.s, iv a.e, iv a.k, iv a.u]) (.agg #[iv b.o, iv b.s, iv b.e, iv b.k, iv b.u]) = some (.bool (decide (a = b))) := by
  simp only [binV, eqV, Tryz.underlying90, gate_same, Option.map_some]
theorem gate_neq (a b : Gate) : binV Tryz.prog .neq 90 (.agg #[iv a.o, iv a.s, iv a.e, iv a.k, iv a.u]) (.agg #[iv b.o, iv b.s, iv b.e, iv b.k, iv b.u]) = some (.bool (!decide (a = b))) := by
  simp only [binV, eqV, Tryz.underlying90, gate_same, Option.map_some]
@[simp] theorem gate_fill (x0 x1 x2 x3 x4 : Int) : Instr.fill (fun i => some (i * 5, 5)) (zrow [iv 0, iv 0, iv 0, iv 0, iv 0] 1).toArray [(0, .agg #[iv x0, iv x1, iv x2, iv x3, iv x4])] = some #[iv x0, iv x1, iv x2, iv x3, iv x4] := fill_agg (by omega) rfl rfl
theorem toGate_a {M : Mem} (g : Gate) : Det Tryz.prog M.length 45 [g.v] M g.v M := by
  first | (refine det_fn Tryz.func45 rfl Tryz.ntmps45 Tryz.results45 rfl rfl rfl (by simp) ?_) | (refine det_fnC Tryz.func45 rfl Tryz.ntmps45 Tryz.results45 rfl rfl (by simp) ?_)
  simp [keeps_app]
theorem eqGate_a {M : Mem} (a b : Gate) : Det Tryz.prog M.length 50 [a.v, b.v] M (.bool (decide (a = b))) M := by
  first | (refine det_fn Tryz.func50 rfl Tryz.ntmps50 Tryz.results50 rfl rfl rfl (by simp) ?_) | (refine det_fnC Tryz.func50 rfl Tryz.ntmps50 Tryz.results50 rfl rfl (by simp) ?_)
  simp
  repeat' (first | (refine awCond_split ?_ ?_ <;> intro _) | (simp [keeps_app]))
  all_goals (simp_all [gate_eq])
theorem szGateS_a {M : Mem} {A : Option Addr} {n c : Nat} (z : Int) (hz : 0 ≤ z) (hz1 : z ≤ 1048576) (hn : n ≤ maxLen) : Det Tryz.prog M.length 8 [.slice A n c, iv z] M (iv (if z - n < 0 then -1 else z - n)) M := by
  unfold maxLen at hn
  first | (refine det_fn Tryz.func8 rfl Tryz.ntmps8 Tryz.results8 rfl rfl rfl (by simp) ?_) | (refine det_fnC Tryz.func8 rfl Tryz.ntmps8 Tryz.results8 rfl rfl (by simp) ?_)
  simp (disch := omega) [wrap_in]
  refine awCond_split ?_ ?_ <;> intro h
  · simp at h
    simp [h, Keeps.refl]
    try omega
  · simp at h
    simp [h, Keeps.refl]
    try omega
theorem toGateS_d {M : Mem} {A : Option Addr} {n c : Nat} {l : List Gate} (h : Sl gateR M A n l) (hn : n ≤ 1099511627776) : Det Tryz.prog M.length 11 [.slice A n c] M (.slice (some ⟨M.length, 0, none⟩) n n) (M ++ [.live ⟨cellsL gateR l, true, true, 90, 5⟩]) := by
  have hl := h.1
  refine Ctr.det ?_
  first | (refine ctr_fn Tryz.func11 rfl Tryz.ntmps11 Tryz.results11 rfl rfl (by simp) ?_) | (refine ctr_fnC Tryz.func11 rfl Tryz.ntmps11 Tryz.results11 rfl (by simp) ?_)
  simp
  refine ⟨by omega, ?_⟩
  refine awLoop_T (fun m T M' => ∃ k : Nat, k + m = n ∧ M' = M ++ [.live ⟨cellsL gateR (l.take k) ++ zrow [iv 0, iv 0, iv 0, iv 0, iv 0] m, true, true, 90, 5⟩] ∧ look T 4 = some (iv k) ∧ look T 0 = some (.slice A n c) ∧ look T 3 = some (.slice (some ⟨M.length, 0, none⟩) n n)) n ⟨0, by omega, by simp [cellsL_nil], by simp, by simp, by simp⟩ ?_
  rintro m T M' ⟨k, hm, rfl, h4, h0, h3⟩
  by_cases hlt : k < n
  · obtain ⟨id, off, rfl, he, hc⟩ := h.at_ hlt
    have hc' := hc.app [.live ⟨cellsL gateR (l.take k) ++ zrow [iv 0, iv 0, iv 0, iv 0, iv 0] m, true, true, 90, 5⟩]
    simp (disch := omega) [h3, h4, h0, hlt, wrap_in, gate_load hc']
    obtain ⟨m, rfl⟩ : ∃ m', m = m' + 1 := ⟨m - 1, by omega⟩
    refine awCall_det' ((toGate_a (el l k))) (by simp) ⟨by simp, ow_iff.2 ⟨_, putCells_rec gateR (a := el l k) (Nat.le_refl _) rfl (List.length_take_of_le (by omega)) rfl, ?_⟩⟩
    refine lpI m (by omega) ?_
    refine ⟨k + 1, by omega, by rw [take_el (by omega)], by simp, by simp [h0], by simp [h3]⟩
  · obtain rfl : k = n := by omega
    obtain rfl : m = 0 := by omega
    simp [h3, h4, h0, List.take_of_length_le (Nat.le_of_eq hl)]
theorem toGateS_a {M : Mem} {A : Option Addr} {n c : Nat} {l : List Gate} (h : Sl gateR M A n l) (hn : n ≤ 1099511627776) : Ctr Tryz.prog M.length 11 [.slice A n c] M fun v M' => Fresh gateR M v M' l :=
  (toGateS_d h hn).ctr (Fresh.new h.1 (by omega))
theorem eqGateS_a {M : Mem} {A B : Option Addr} {n c m d : Nat} {x y : List Gate} (hx : Sl gateR M A n x) (hy : Sl gateR M B m y) (hn : n ≤ 1099511627776) : Det Tryz.prog M.length 15 [.slice A n c, .slice B m d] M (.bool (decide (x = y))) M := by
  have hlx := hx.1
  have hly := hy.1
  first | (refine det_fn Tryz.func15 rfl Tryz.ntmps15 Tryz.results15 rfl rfl rfl (by simp) ?_) | (refine det_fnC Tryz.func15 rfl Tryz.ntmps15 Tryz.results15 rfl rfl (by simp) ?_)
  simp
  refine awCond_split ?_ ?_ <;> intro hnm
  · simp at hnm
    simp
    exact ⟨fun e => by subst e; omega, Keeps.refl _⟩
  · simp at hnm
    obtain rfl : n = m := by omega
    simp
    refine awLoop_T (fun m T M' => ∃ k : Nat, k + m = n ∧ M' = M ∧ look T 5 = some (iv k) ∧ look T 0 = some (.slice A n c) ∧ look T 1 = some (.slice B n d) ∧ x.take k = y.take k) n ⟨0, by omega, rfl, by simp, by simp, by simp, by simp⟩ ?_
    rintro m T M' ⟨k, hm, rfl, h4, h0, h1, hk⟩
    by_cases hlt : k < n
    · obtain ⟨id, off, rfl, he, hc⟩ := hx.at_ hlt
      obtain ⟨id', off', rfl, he', hc'⟩ := hy.at_ hlt
      simp (disch := omega) [h4, h0, h1, hlt, wrap_in]
      refine awDraw_E 8 [[],[],[0,1],[2,0,1],[],[],[4,5],[6,4,5],[3,2,0,1,7,6,4,5],[8,3,2,0,1,7,6,4,5]] (by kernel_rfl) (by kernel_rfl) ?_
      simp (disch := omega) [h4, h0, h1, hlt, wrap_in, gate_load hc, gate_load hc']
      refine awCall_det' (eqGate_a (el x k) (el y k)) (Nat.le_refl _) ?_
      simp
      refine awCond_split ?_ ?_ <;> intro he
      · simp at he
        simp
        exact ⟨fun e => he (by rw [e]), Keeps.refl _⟩
      · simp at he
        simp (disch := omega) [h4, h0, h1, wrap_in]
        refine lpI (m - 1) (by omega) ?_
        exact ⟨k + 1, by omega, rfl, by simp, by simp [h0], by simp [h1], by rw [take_el (by omega), take_el (by omega), hk, he]⟩
    · obtain rfl : k = n := by omega
      rw [List.take_of_length_le (by omega), List.take_of_length_le (by omega)] at hk
      simp [h4, h0, h1, hk, Keeps.refl]
def markGate (z : Int) (i : Nat) : Gate := ⟨z + i * 5, z + i * 5 + 1, z + i * 5 + 1 + 1, z + i * 5 + 1 + 1 + 1, z + i * 5 + 1 + 1 + 1 + 1⟩
def markGateL (z : Int) (n : Nat) : List Gate := (List.range n).map (markGate z)
theorem markGateL_succ (z : Int) (n : Nat) : markGateL z (n + 1) = markGateL z n ++ [markGate z n] := by simp [markGateL, List.range_succ]
theorem markGateS_a {M : Mem} {b : Nat} {A : Option Addr} {n c : Nat} {x : List Gate} (z : Int) (hx : Sl gateR M A n x) (ho : Ownd M A n) (hb : ∀ a, A = some a → 0 < n → b ≤ a.block) (hn : n ≤ 1099511627776) (hz0 : 0 ≤ z) (hz : z ≤ 1152921504606846976) :
    Ctr Tryz.prog b 17 [.slice A n c, iv z] M fun v M' => v = iv (z + n * 5) ∧ Sl gateR M' A n (markGateL z n) ∧ Ownd M' A n ∧ Turned A n M M' := by
  have hlx := hx.1
  rcases Nat.eq_zero_or_pos n with rfl | hp
  · first | (refine ctr_fn Tryz.func17 rfl Tryz.ntmps17 Tryz.results17 rfl rfl (by simp) ?_) | (refine ctr_fnC Tryz.func17 rfl Tryz.ntmps17 Tryz.results17 rfl (by simp) ?_)
    simp
    refine awLoop_T (fun m T M' => M' = M ∧ look T 1 = some (iv z) ∧ look T 5 = some (iv 0) ∧ look T 0 = some (.slice A 0 c)) 0 ⟨rfl, by simp, by simp, by simp⟩ ?_
    rintro m T M' ⟨rfl, h1, h3, h0⟩
    simp [h1, h3, h0]
    obtain rfl := List.eq_nil_of_length_eq_zero hlx
    exact ⟨hx, ho, rfl, fun i s hs _ => hs⟩
  · obtain ⟨id, off, r, rfl, hr, ho⟩ := ho hp
    have hid := (List.getElem?_eq_some_iff.1 hr).1
    obtain ⟨hz5, hlen⟩ := hx.cells hr hp (by omega)
    have hb' : b ≤ id := hb _ rfl hp
    obtain ⟨cs, own, t, e, esz⟩ := r
    simp only at hz5 hlen ho
    subst hz5 ho
    have hM : M = M.set id (.live ⟨cs.take off ++ cellsL gateR (markGateL z 0) ++ cs.drop (off + 0 * 5), true, t, e, 5⟩) := by
      rw [set_self]
      simp [markGateL, cellsL_nil, hr]
    first | (refine ctr_fn Tryz.func17 rfl Tryz.ntmps17 Tryz.results17 rfl rfl (by simp) ?_) | (refine ctr_fnC Tryz.func17 rfl Tryz.ntmps17 Tryz.results17 rfl (by simp) ?_)
    simp
    refine awLoop_T (fun m T M' => ∃ j : Nat, j + m = n ∧ M' = M.set id (.live ⟨cs.take off ++ cellsL gateR (markGateL z j) ++ cs.drop (off + j * 5), true, t, e, 5⟩) ∧ look T 5 = some (iv j) ∧ look T 1 = some (iv (z + j * 5)) ∧ look T 0 = some (.slice (some ⟨id, off, none⟩) n c)) n ⟨0, by omega, hM, by simp, by simp, by simp⟩ ?_
    rintro m T M' ⟨j, hm, rfl, h5, h1, h0⟩
    have hlm : (markGateL z j).length = j := by simp [markGateL]
    by_cases hlt : j < n
    · have hsp := splice_mid gateR (cs := cs) (off := off) (a := markGate z j) hlm (by omega)
      have hlc : (cs.take off ++ cellsL gateR (markGateL z j) ++ cs.drop (off + j * 5)).length = cs.length := by
        simp only [List.length_append, List.length_take, List.length_drop, cellsL_len, hlm]; omega
      generalize cs.take off ++ cellsL gateR (markGateL z j) ++ cs.drop (off + j * 5) = Cs at hsp hlc ⊢
      simp (disch := first | omega | (simp <;> omega)) [h5, h1, h0, hlt, wrap_in, rowEsz_set hid, put_set hid hb']
      refine lpI (m - 1) (by omega) ?_
      refine ⟨j + 1, by omega, ?_, by simp, by simp; omega, by simp [h0]⟩
      rw [markGateL_succ, ← hsp]
      rfl
    · obtain rfl : j = n := by omega
      have hS := Sl.set (R := gateR) (M := M) (pre := cs.take off) (post := cs.drop (off + j * 5)) (o := true) (t := t) (e := e) hid (List.length_take_of_le (by omega)) hlm
      have hO : Ownd (M.set id (.live ⟨cs.take off ++ cellsL gateR (markGateL z j) ++ cs.drop (off + j * 5), true, t, e, 5⟩)) (some ⟨id, off, none⟩) j := fun _ => ⟨_, _, _, rfl, List.getElem?_set_self hid, rfl⟩
      have hT : Turned (some ⟨id, off, none⟩) j M (M.set id (.live ⟨cs.take off ++ cellsL gateR (markGateL z j) ++ cs.drop (off + j * 5), true, t, e, 5⟩)) := set_turned hp
      generalize M.set id (.live ⟨cs.take off ++ cellsL gateR (markGateL z j) ++ cs.drop (off + j * 5), true, t, e, 5⟩) = M' at hS hO hT ⊢
      simp [h5, h1, h0]
      exact ⟨hS, hO, hT⟩
/-! The same, as the laws use them. -/
theorem sz_GateS_over {M : Mem} {v : Value} {lo hi : Nat} {l : List Gate} {z : Int} (h : RdL gateR lo hi M v l) (hz : 0 ≤ z) (hz1 : z ≤ 1048576) (hl : z < l.length) : Det Tryz.prog M.length 8 [v, iv z] M (iv (-1)) M := by
  obtain ⟨A, n, c, rfl, hn, hS, _⟩ := h
  have := szGateS_a (M := M) (A := A) (n := n) (c := c) z hz hz1 (by unfold maxLen; omega)
  rwa [if_pos (by have := hS.1; omega)] at this
theorem sz_GateS {M : Mem} {v : Value} {lo hi : Nat} {l : List Gate} {z : Int} (h : RdL gateR lo hi M v l) (hz : 0 ≤ z) (hz1 : z ≤ 1048576) (hl : l.length ≤ z) : Det Tryz.prog M.length 8 [v, iv z] M (iv (z - l.length)) M := by
  obtain ⟨A, n, c, rfl, hn, hS, _⟩ := h
  have := szGateS_a (M := M) (A := A) (n := n) (c := c) z hz hz1 (by unfold maxLen; omega)
  rw [if_neg (by have := hS.1; omega)] at this
  rwa [hS.1]
theorem to_GateS {M : Mem} {v : Value} {lo hi : Nat} {l : List Gate} (h : RdL gateR lo hi M v l) (hl : l.length ≤ 1048576) : Ctr Tryz.prog M.length 11 [v] M fun v' M' => OwL gateR M.length M'.length M' v' l ∧ Keeps M M' := by
  obtain ⟨A, n, c, rfl, hn, hS, _⟩ := h
  exact (toGateS_a hS (by have := hS.1; omega)).mono fun v' M' h => h.ow
theorem eq_GateS {M : Mem} {v w : Value} {lo hi lo' hi' : Nat} {x y : List Gate} (hx : OwL gateR lo hi M v x) (hy : RdL gateR lo' hi' M w y) : Det Tryz.prog M.length 15 [v, w] M (.bool (decide (x = y))) M := by
  obtain ⟨A, n, c, rfl, hn, hS, _⟩ := hx
  obtain ⟨B, m, d, rfl, hm, hT, _⟩ := hy
  exact eqGateS_a hS hT hn
theorem mark_GateS {M : Mem} {b : Nat} {v : Value} {lo hi : Nat} {l : List Gate} {z : Int} (h : OwL gateR lo hi M v l) (hb : b ≤ lo) (hz : 0 ≤ z) (hz1 : z ≤ 1152921504606846976) :
    Ctr Tryz.prog b 17 [v, iv z] M fun r M' => r = iv (z + l.length * 5) ∧ OwL gateR lo hi M' v (markGateL z l.length) ∧ Turn lo hi M M' := by
  obtain ⟨A, n, c, rfl, hn, hS, hi', ho⟩ := h
  exact (markGateS_a z hS ho (fun a e hp => by have := hi' a e hp; omega) hn hz hz1).mono fun r M' ⟨h1, h2, h3, h4⟩ => ⟨by rw [h1, hS.1], ⟨A, n, c, rfl, hn, by rw [hS.1]; exact h2, hi', h3⟩, Nat.le_of_eq h4.1.symm, fun i s hs hd => h4.2 i s hs fun a e hp => by have := hi' a e hp; omega⟩
end Go.Proofs.YtimijeeihicohaaGreat

namespace Go.Proofs.YtimijeeihicohaaGreat
open Go.RowKit
set_option linter.unusedVariables false
set_option linter.unusedSimpArgs false
set_option maxRecDepth 100000
attribute [local simp] List.getElem?_cons_zero
attribute [local irreducible] awCond awCall awLoop awDraw ow retQ retC resQ Keeps
def gateB (g : Gate) : Bool := inB g.o 0 3 && decide (0 ≤ g.s) && decide (g.s < g.e) && decide (g.e ≤ 4000) && inB g.k 0 127 && inB g.u 1 127
theorem l21Gate_a {M : Mem} {id off : Nat} {g : Gate} (h : Cl M id off g.row) : Det Tryz.prog M.length 134 [.pointer (some ⟨id, off, none⟩)] M (.bool (gateB g)) M := by
  obtain ⟨h0, h1, h2, h3, h4⟩ := gate_cells h
  first | (refine det_fn Tryz.func134 rfl Tryz.ntmps134 Tryz.results134 rfl rfl rfl (by simp) ?_) | (refine det_fnC Tryz.func134 rfl Tryz.ntmps134 Tryz.results134 rfl rfl (by simp) ?_)
  simp
  refine awDraw_E 21 [[],[0],[1,0],[2,1,0],[3,2,1,0],[4,3,2,1,0],[5,4,3,2,1,0],[6,5,4,3,2,1,0],[7,6,5,4,3,2,1,0],[8,7,6,5,4,3,2,1,0],[9,8,7,6,5,4,3,2,1,0],[5,4,3,2,1,0,10,9,8,7,6],[11,5,4,3,2,1,0,10,9,8,7,6],[12,11,5,4,3,2,1,0,10,9,8,7,6],[13,12,11,5,4,3,2,1,0,10,9,8,7,6],[14,13,12,11,5,4,3,2,1,0,10,9,8,7,6],[15,14,13,12,11,5,4,3,2,1,0,10,9,8,7,6],[12,11,5,4,3,2,1,0,10,9,8,7,6],[17,12,11,5,4,3,2,1,0,10,9,8,7,6],[18,17,12,11,5,4,3,2,1,0,10,9,8,7,6],[19,18,17,12,11,5,4,3,2,1,0,10,9,8,7,6],[16,15,14,13,12,11,5,4,3,2,1,0,10,9,8,7,6,20,19,18,17],[12,11,5,4,3,2,1,0,10,9,8,7,6,21,16,15,14,13,20,19,18,17],[22,12,11,5,4,3,2,1,0,10,9,8,7,6,21,16,15,14,13,20,19,18,17],[23,22,12,11,5,4,3,2,1,0,10,9,8,7,6,21,16,15,14,13,20,19,18,17],[24,23,22,12,11,5,4,3,2,1,0,10,9,8,7,6,21,16,15,14,13,20,19,18,17],[25,24,23,22,12,11,5,4,3,2,1,0,10,9,8,7,6,21,16,15,14,13,20,19,18,17],[26,25,24,23,22,12,11,5,4,3,2,1,0,10,9,8,7,6,21,16,15,14,13,20,19,18,17],[27,26,25,24,23,22,12,11,5,4,3,2,1,0,10,9,8,7,6,21,16,15,14,13,20,19,18,17],[23,22,12,11,5,4,3,2,1,0,10,9,8,7,6,21,16,15,14,13,20,19,18,17,28,27,26,25,24],[29,23,22,12,11,5,4,3,2,1,0,10,9,8,7,6,21,16,15,14,13,20,19,18,17,28,27,26,25,24],[30,29,23,22,12,11,5,4,3,2,1,0,10,9,8,7,6,21,16,15,14,13,20,19,18,17,28,27,26,25,24],[31,30,29,23,22,12,11,5,4,3,2,1,0,10,9,8,7,6,21,16,15,14,13,20,19,18,17,28,27,26,25,24],[32,31,30,29,23,22,12,11,5,4,3,2,1,0,10,9,8,7,6,21,16,15,14,13,20,19,18,17,28,27,26,25,24],[33,32,31,30,29,23,22,12,11,5,4,3,2,1,0,10,9,8,7,6,21,16,15,14,13,20,19,18,17,28,27,26,25,24],[34,33,32,31,30,29,23,22,12,11,5,4,3,2,1,0,10,9,8,7,6,21,16,15,14,13,20,19,18,17,28,27,26,25,24],[30,29,23,22,12,11,5,4,3,2,1,0,10,9,8,7,6,21,16,15,14,13,20,19,18,17,28,27,26,25,24,35,34,33,32,31],[36,30,29,23,22,12,11,5,4,3,2,1,0,10,9,8,7,6,21,16,15,14,13,20,19,18,17,28,27,26,25,24,35,34,33,32,31],[37,36,30,29,23,22,12,11,5,4,3,2,1,0,10,9,8,7,6,21,16,15,14,13,20,19,18,17,28,27,26,25,24,35,34,33,32,31],[38,37,36,30,29,23,22,12,11,5,4,3,2,1,0,10,9,8,7,6,21,16,15,14,13,20,19,18,17,28,27,26,25,24,35,34,33,32,31],[39,38,37,36,30,29,23,22,12,11,5,4,3,2,1,0,10,9,8,7,6,21,16,15,14,13,20,19,18,17,28,27,26,25,24,35,34,33,32,31],[40,39,38,37,36,30,29,23,22,12,11,5,4,3,2,1,0,10,9,8,7,6,21,16,15,14,13,20,19,18,17,28,27,26,25,24,35,34,33,32,31],[41,40,39,38,37,36,30,29,23,22,12,11,5,4,3,2,1,0,10,9,8,7,6,21,16,15,14,13,20,19,18,17,28,27,26,25,24,35,34,33,32,31],[37,36,30,29,23,22,12,11,5,4,3,2,1,0,10,9,8,7,6,21,16,15,14,13,20,19,18,17,28,27,26,25,24,35,34,33,32,31,42,41,40,39,38],[43,37,36,30,29,23,22,12,11,5,4,3,2,1,0,10,9,8,7,6,21,16,15,14,13,20,19,18,17,28,27,26,25,24,35,34,33,32,31,42,41,40,39,38]] (by kernel_rfl) (by kernel_rfl) ?_
  simp [h0]
  refine awCall_det' (l00In_a _ _ _) (by simp) ?_
  simp
  repeat' (first | (refine guardV_split ?_ ?_ <;> intro _) | (refine awCall_det' (l00In_a _ _ _) (by simp) ?_) | (simp [*]))
  all_goals (simp_all [gateB, Keeps.refl] <;> omega)
theorem isGate_a {M : Mem} (g : Gate) : Det Tryz.prog M.length 140 [g.v] M (.bool (gateB g)) M := by
  first | (refine det_fn Tryz.func140 rfl Tryz.ntmps140 Tryz.results140 rfl rfl rfl (by simp) ?_) | (refine det_fnC Tryz.func140 rfl Tryz.ntmps140 Tryz.results140 rfl rfl (by simp) ?_)
  simp
  repeat' (first | (refine guardV_split ?_ ?_ <;> intro _) | (refine awCall_det' (isVoice_a _) (by simp) ?_) | (refine awCall_det' (isKey_a _) (by simp) ?_) | (refine awCall_det' (within_a _ _ _) (by simp) ?_) | (simp [*]))
  all_goals (simp_all [gateB, keeps_app] <;> omega)
def okG (l : List Gate) : Bool := decide (∀ i, i < l.length → gateB (el l i) = true ∧ (0 < i → (el l (i - 1)).s ≤ (el l i).s)) && decide (l.length ≤ 60)
theorem okG_of {l : List Gate} (h : ∀ i, i < l.length → gateB (el l i) = true ∧ (0 < i → (el l (i - 1)).s ≤ (el l i).s)) : okG l = decide (l.length ≤ 60) := by
  unfold okG; rw [decide_eq_true h, Bool.true_and]
theorem okG_not {l : List Gate} {i : Nat} (hi : i < l.length) (h : ¬ (gateB (el l i) = true ∧ (0 < i → (el l (i - 1)).s ≤ (el l i).s))) : okG l = false := by
  unfold okG; rw [decide_eq_false (fun h' => h (h' i hi)), Bool.false_and]
theorem l21Ok_a {M : Mem} {A : Option Addr} {n c : Nat} {l : List Gate} (h : Sl gateR M A n l) (hn : n ≤ 4611686018427387904) : Det Tryz.prog M.length 81 [.slice A n c] M (.bool (okG l)) M := by
  have hl := h.1
  first | (refine det_fn Tryz.func81 rfl Tryz.ntmps81 Tryz.results81 rfl rfl rfl (by simp) ?_) | (refine det_fnC Tryz.func81 rfl Tryz.ntmps81 Tryz.results81 rfl rfl (by simp) ?_)
  simp
  refine awLoop_T (fun m T M' => ∃ k : Nat, k + m = n ∧ M' = M ∧ look T 3 = some (iv k) ∧ look T 0 = some (.slice A n c) ∧ ∀ i, i < k → gateB (el l i) = true ∧ (0 < i → (el l (i - 1)).s ≤ (el l i).s)) n ⟨0, by omega, rfl, by simp, by simp, by omega⟩ ?_
  rintro m T M' ⟨k, hm, rfl, h3, h0, hk⟩
  by_cases hlt : k < n
  · obtain ⟨id, off, rfl, he, hc⟩ := h.at_ hlt
    obtain ⟨c0, c1, c2, c3, c4⟩ := gate_cells hc
    simp (disch := omega) [h3, h0, hlt, wrap_in]
    refine awDraw_E 20 [[],[],[0,1],[2,0,1],[3,2,0,1],[4,3,2,0,1],[5,4,3,2,0,1],[6,5,4,3,2,0,1],[7,6,5,4,3,2,0,1],[8,7,6,5,4,3,2,0,1],[8,7,6,5,4,3,2,0,1],[10,8,7,6,5,4,3,2,0,1],[9,8,7,6,5,4,3,2,0,1,11,10],[12,9,8,7,6,5,4,3,2,0,1,11,10],[13,12,9,8,7,6,5,4,3,2,0,1,11,10],[8,7,6,5,4,3,2,0,1],[8,7,6,5,4,3,2,0,1],[15,8,7,6,5,4,3,2,0,1,16],[17,15,8,7,6,5,4,3,2,0,1,16],[18,17,15,8,7,6,5,4,3,2,0,1,16],[14,13,12,9,8,7,6,5,4,3,2,0,1,11,10,19,18,17,15,16],[8,7,6,5,4,3,2,0,1,20,14,13,12,9,11,10,19,18,17,15,16],[5,4,3,2,0,1,21,8,7,6,20,14,13,12,9,11,10,19,18,17,15,16]] (by kernel_rfl) (by kernel_rfl) ?_
    simp (disch := omega) [h3, h0, hlt, wrap_in]
    refine awCall_det' (l21Gate_a hc) (by simp) ?_
    have hkl : k < l.length := by omega
    simp
    cases hg : gateB (el l k)
    · simp (disch := omega) [h3, hg]
      rw [okG_not hkl (by simp [hg])]
      simp [Keeps.refl]
    · simp (disch := omega) [h3, hg]
      rcases k with _ | j
      · simp (disch := omega) [h3, h0, wrap_in]
        refine lpI (m - 1) (by omega) ?_
        refine ⟨1, by omega, rfl, by simp, by simp [h0], ?_⟩
        intro i hi
        obtain rfl : i = 0 := by omega
        simp [hg]
      · obtain ⟨_, _, he', _, hc'⟩ := h.at_ (i := j) (by omega)
        cases he'
        obtain ⟨_, d1, _⟩ := gate_cells hc'
        simp (disch := omega) [h0, h3, wrap_in, c1, d1]
        refine ⟨by omega, by omega, ?_⟩
        refine awCond_split ?_ ?_ <;> intro hs
        · simp at hs
          simp
          rw [okG_not hkl (by simp; omega)]
          simp [Keeps.refl]
        · simp at hs
          simp (disch := omega) [h3, h0, wrap_in]
          refine lpI (m - 1) (by omega) ?_
          refine ⟨j + 1 + 1, by omega, rfl, by simp, by simp [h0], ?_⟩
          intro i hi
          by_cases hi' : i < j + 1
          · exact hk i hi'
          · obtain rfl : i = j + 1 := by omega
            simp [hg, hs]
  · obtain rfl : k = n := by omega
    simp [h3, h0]
    rw [okG_of (by rw [hl]; exact hk), hl]
    simp [Keeps.refl]
    omega
theorem areGates_a {M : Mem} {A : Option Addr} {n c : Nat} {l : List Gate} (h : Sl gateR M A n l) (hn : n ≤ 4611686018427387904) : Det Tryz.prog M.length 90 [.slice A n c] M (.bool (okG l)) M := by
  have hl := h.1
  first | (refine det_fn Tryz.func90 rfl Tryz.ntmps90 Tryz.results90 rfl rfl rfl (by simp) ?_) | (refine det_fnC Tryz.func90 rfl Tryz.ntmps90 Tryz.results90 rfl rfl (by simp) ?_)
  simp
  refine awLoop_T (fun m T M' => ∃ k : Nat, k + m = n ∧ Keeps M M' ∧ look T 7 = some (iv k) ∧ look T 6 = some (iv n) ∧ look T 5 = some (.slice A n c) ∧ look T 0 = some (.slice A n c) ∧ ∀ i, i < k → gateB (el l i) = true ∧ (0 < i → (el l (i - 1)).s ≤ (el l i).s)) n ⟨0, by omega, Keeps.refl _, by simp, by simp, by simp, by simp, by omega⟩ ?_
  rintro m T M' ⟨k, hm, hK, h7, h6, h5, h0, hk⟩
  by_cases hlt : k < n
  · have h' := h.keeps hK
    have hKl := hK.len
    obtain ⟨id, off, rfl, he, hc⟩ := h'.at_ hlt
    obtain ⟨c0, c1, c2, c3, c4⟩ := gate_cells hc
    have hkl : k < l.length := by omega
    simp (disch := omega) [h7, h6, h5, h0, hlt, wrap_in, gate_load hc]
    refine awDraw_E 15 [[],[0],[1,0],[2,1,0],[3,2,1,0],[4,3,2,1,0],[5,4,3,2,1,0],[6,5,4,3,2,1,0],[7,6,5,4,3,2,1,0],[6,5,4,3,2,1,0],[6,5,4,3,2,1,0],[10,6,5,4,3,2,1,0],[9,6,5,4,3,2,1,0,11,10],[12,9,6,5,4,3,2,1,0,11,10],[13,12,9,6,5,4,3,2,1,0,11,10],[8,7,6,5,4,3,2,1,0,14,13,12,9,11,10],[6,5,4,3,2,1,0,15,8,7,14,13,12,9,11,10],[3,2,1,0,16,6,5,4,15,8,7,14,13,12,9,11,10]] (by kernel_rfl) (by kernel_rfl) ?_
    simp (disch := omega) [h7, h6, h5, h0, hlt, wrap_in]
    refine awCall_det' (isGate_a (el l k)) (by simp <;> omega) ?_
    simp
    cases hg : gateB (el l k)
    · simp (disch := omega) [h0, h7, hg]
      rw [okG_not hkl (by simp [hg])]
      simp [hK.app]
    · simp (disch := omega) [h0, h7, hg]
      rcases k with _ | j
      · simp (disch := omega) [h7, h6, h5, h0, wrap_in]
        refine lpI (m - 1) (by omega) ?_
        refine ⟨1, by omega, hK.app _, by simp, by simp [h6], by simp [h5], by simp [h0], ?_⟩
        intro i hi
        obtain rfl : i = 0 := by omega
        simp [hg]
      · obtain ⟨_, _, he', _, hc'⟩ := h'.at_ (i := j) (by omega)
        cases he'
        obtain ⟨_, d1, _⟩ := gate_cells hc'
        simp (disch := omega) [h0, h7, wrap_in, cellAt_app c1, cellAt_app d1, rowEsz_keeps (keeps_app _) he]
        refine ⟨by omega, ?_⟩
        refine awCond_split ?_ ?_ <;> intro hs
        · simp at hs
          simp
          rw [okG_not hkl (by simp; omega)]
          simp [hK.app]
        · simp at hs
          simp (disch := omega) [h7, h6, h5, h0, wrap_in]
          refine lpI (m - 1) (by omega) ?_
          refine ⟨j + 1 + 1, by omega, hK.app _, by simp, by simp [h6], by simp [h5], by simp [h0], ?_⟩
          intro i hi
          by_cases hi' : i < j + 1
          · exact hk i hi'
          · obtain rfl : i = j + 1 := by omega
            simp [hg, hs]
  · obtain rfl : k = n := by omega
    simp [h7, h6, h5, h0]
    rw [okG_of (by rw [hl]; exact hk), hl]
    simp [hK]
    try omega
















end Go.Proofs.YtimijeeihicohaaGreat

namespace Go.Proofs.YtimijeeihicohaaGreat
open Go.RowKit
set_option linter.unusedVariables false
set_option linter.unusedSimpArgs false
set_option maxRecDepth 100000
attribute [local simp] List.getElem?_cons_zero
attribute [local irreducible] awCond awCall awLoop awDraw ow retQ retC resQ Keeps











































































end Go.Proofs.YtimijeeihicohaaGreat

namespace Go.Proofs.YtimijeeihicohaaGreat
open Go.RowKit
set_option linter.unusedVariables false
set_option linter.unusedSimpArgs false
set_option maxRecDepth 100000
attribute [local simp] List.getElem?_cons_zero
attribute [local irreducible] awCond awCall awLoop awDraw ow retQ retC resQ Keeps
def playB (l : List Gate) : Bool := decide (∀ i, i < l.length → ∀ k, k < i → ¬ ((el l k).o = (el l i).o ∧ (el l i).s < (el l k).e))
theorem playB_not {l : List Gate} {i k : Nat} (hi : i < l.length) (hk : k < i) (h : (el l k).o = (el l i).o ∧ (el l i).s < (el l k).e) : playB l = false := decide_eq_false fun h' => h' i hi k hk h
theorem l21Playable_a {M : Mem} {A : Option Addr} {n c : Nat} {l : List Gate} (h : Sl gateR M A n l) (hn : n ≤ 1099511627776) : Det Tryz.prog M.length 82 [.slice A n c] M (.bool (playB l)) M := by
  have hl := h.1
  first | (refine det_fn Tryz.func82 rfl Tryz.ntmps82 Tryz.results82 rfl rfl rfl (by simp) ?_) | (refine det_fnC Tryz.func82 rfl Tryz.ntmps82 Tryz.results82 rfl rfl (by simp) ?_)
  simp
  refine awLoop_T (fun m T M' => ∃ i : Nat, i + m = n ∧ M = M' ∧ look T 3 = some (iv i) ∧ look T 0 = some (.slice A n c) ∧ ∀ j, j < i → ∀ k, k < j → ¬ ((el l k).o = (el l j).o ∧ (el l j).s < (el l k).e)) n ⟨0, by omega, rfl, by simp, by simp, by omega⟩ ?_
  rintro m T M' ⟨i, hm, rfl, h3, h0, hi⟩
  by_cases hlt : i < n
  · simp (disch := omega) [h3, h0, hlt, wrap_in]
    refine awLoop_T (fun m T M' => ∃ k : Nat, k + m = i ∧ M = M' ∧ look T 4 = some (iv k) ∧ look T 3 = some (iv i) ∧ look T 0 = some (.slice A n c) ∧ ∀ j, j < k → ¬ ((el l j).o = (el l i).o ∧ (el l i).s < (el l j).e)) i ⟨0, by omega, rfl, by simp, by simp [h3], by simp [h0], by omega⟩ ?_
    rintro m2 T2 M' ⟨k, hm2, rfl, g4, g3, g0, hk⟩
    obtain ⟨id, off, rfl, he, hc⟩ := h.at_ hlt
    obtain ⟨c0, c1, c2, c3, c4⟩ := gate_cells hc
    by_cases hki : k < i
    · obtain ⟨_, _, e, _, hc'⟩ := h.at_ (i := k) (by omega)
      cases e
      obtain ⟨d0, d1, d2, d3, d4⟩ := gate_cells hc'
      have hkn : k < n := by omega
      simp (disch := omega) [g4, g3, g0, hki, wrap_in]
      refine awDraw_E 22 [[],[],[0,1],[2,0,1],[3,2,0,1],[],[],[5,6],[7,5,6],[8,7,5,6],[4,3,2,0,1,9,8,7,5,6],[10,4,3,2,0,1,9,8,7,5,6],[11,10,4,3,2,0,1,9,8,7,5,6],[11,10,4,3,2,0,1,9,8,7,5,6],[12,11,10,4,3,2,0,1,9,8,7,5,6,13],[14,12,11,10,4,3,2,0,1,9,8,7,5,6,13],[15,14,12,11,10,4,3,2,0,1,9,8,7,5,6,13],[11,10,4,3,2,0,1,9,8,7,5,6],[11,10,4,3,2,0,1,9,8,7,5,6],[17,11,10,4,3,2,0,1,9,8,7,5,6,18],[19,17,11,10,4,3,2,0,1,9,8,7,5,6,18],[20,19,17,11,10,4,3,2,0,1,9,8,7,5,6,18],[16,15,14,12,11,10,4,3,2,0,1,9,8,7,5,6,13,21,20,19,17,18],[11,10,4,3,2,0,1,9,8,7,5,6,22,16,15,14,12,13,21,20,19,17,18]] (by kernel_rfl) (by kernel_rfl) ?_
      simp (disch := omega) [g4, g3, g0, hki, hkn, hlt, wrap_in, c0, c1, d0, d2]
      refine guardV_split ?_ ?_ <;> intro hp <;> simp at hp
      · simp (disch := omega) [g4, g3, g0, hki, hkn, hlt, wrap_in, c0, c1, d0, d2, hp]
        refine awCond_split ?_ ?_ <;> intro hq <;> simp at hq
        · simp
          exact ⟨(playB_not (i := i) (k := k) (by omega) hki ⟨hp, hq⟩), Keeps.refl _⟩
        · simp (disch := omega) [g4, g3, g0, wrap_in]
          refine lpI (m2 - 1) (by omega) ?_
          refine ⟨k + 1, by omega, rfl, by simp, by simp [g3], by simp [g0], fun j hj => ?_⟩
          by_cases hjk : j < k
          · exact hk j hjk
          · obtain rfl : j = k := by omega
            omega
      · simp (disch := omega) [g4, g3, g0, wrap_in, hp]
        refine lpI (m2 - 1) (by omega) ?_
        refine ⟨k + 1, by omega, rfl, by simp, by simp [g3], by simp [g0], fun j hj => ?_⟩
        by_cases hjk : j < k
        · exact hk j hjk
        · obtain rfl : j = k := by omega
          omega
    · obtain rfl : k = i := by omega
      simp (disch := omega) [g4, g3, g0, wrap_in]
      refine lpI (m - 1) (by omega) ?_
      refine ⟨k + 1, by omega, rfl, by simp, by simp [g0], fun j hj => ?_⟩
      by_cases hjk : j < k
      · exact hi j hjk
      · obtain rfl : j = k := by omega
        exact hk
  · obtain rfl : i = n := by omega
    simp [h3, h0]
    have : playB l = true := decide_eq_true (by rw [hl]; exact hi)
    exact ⟨this, Keeps.refl _⟩
theorem arePlayable_a {M : Mem} {A : Option Addr} {n c : Nat} {l : List Gate} (h : Sl gateR M A n l) (hn : n ≤ 1099511627776) : Det Tryz.prog M.length 91 [.slice A n c] M (.bool (playB l && okG l)) M := by
  have hl := h.1
  first | (refine det_fn Tryz.func91 rfl Tryz.ntmps91 Tryz.results91 rfl rfl rfl (by simp) ?_) | (refine det_fnC Tryz.func91 rfl Tryz.ntmps91 Tryz.results91 rfl rfl (by simp) ?_)
  simp
  refine awLoop_T (fun m T M' => ∃ i : Nat, i + m = n ∧ Keeps M M' ∧ look T 9 = some (iv i) ∧ look T 8 = some (iv n) ∧ look T 7 = some (.slice A n c) ∧ look T 0 = some (.slice A n c) ∧ ∀ j, j < i → ∀ k, j < k → k < n → ¬ ((el l j).o = (el l k).o ∧ (el l k).s < (el l j).e)) n ⟨0, by omega, Keeps.refl _, by simp, by simp, by simp, by simp, by omega⟩ ?_
  rintro m T M' ⟨i, hm, hK, h9, h8, h7, h0, hi⟩
  by_cases hlt : i < n
  · have h' := h.keeps hK
    have hKl := hK.len
    obtain ⟨id, off, rfl, he, hc⟩ := h'.at_ hlt
    simp (disch := omega) [h9, h8, h7, h0, hlt, wrap_in, gate_load hc]
    refine ⟨by omega, rowEsz_keeps (keeps_app _) he, ?_⟩
    have hB := keeps_app (M := M') [.live ⟨[iv (el l i).o, iv (el l i).s, iv (el l i).e, iv (el l i).k, iv (el l i).u], true, true, 90, 5⟩]
    refine awLoop_T (fun m T M2 => ∃ k : Nat, k + m = n - (i + 1) ∧ Keeps M M2 ∧ Keeps (M' ++ [.live ⟨[iv (el l i).o, iv (el l i).s, iv (el l i).e, iv (el l i).k, iv (el l i).u], true, true, 90, 5⟩]) M2 ∧ look T 19 = some (iv k) ∧ look T 18 = some (iv ((n - (i + 1) : Nat) : Int)) ∧ look T 17 = some (.slice (some ⟨id, off + (i + 1) * 5, none⟩) (n - (i + 1)) (n - (i + 1))) ∧ look T 4 = some (.pointer (some ⟨M'.length, 0, none⟩)) ∧
      look T 9 = some (iv i) ∧ look T 8 = some (iv n) ∧ look T 7 = some (.slice (some ⟨id, off, none⟩) n c) ∧ look T 0 = some (.slice (some ⟨id, off, none⟩) n c) ∧ ∀ j, i < j → j ≤ i + k → ¬ ((el l i).o = (el l j).o ∧ (el l j).s < (el l i).e)) (n - (i + 1)) ⟨0, by omega, hK.trans hB, Keeps.refl _, by simp, by simp, by simp, by simp, by simp [h9], by simp [h8], by simp [h7], by simp [h0], by omega⟩ ?_
    rintro m2 T2 M2 ⟨k, hm2, hK2, hK3, g19, g18, g17, g4, g9, g8, g7, g0, hk⟩
    have hKl2 := hK2.len
    have hKl3 := hK3.len
    by_cases hki : k < n - (i + 1)
    · obtain ⟨_, _, e, he2, hc2⟩ := (h.keeps hK2).at_ (i := i + 1 + k) (by omega)
      cases e
      have c0 : cellAt M2 M'.length 0 = some (iv (el l i).o) := cellAt_keeps hK3 (by simp)
      have c2 : cellAt M2 M'.length 2 = some (iv (el l i).e) := cellAt_keeps hK3 (by simp)
      rw [Nat.add_mul, ← Nat.add_assoc] at hc2
      simp (disch := omega) [g19, g18, g17, g4, g9, g8, g7, g0, hki, wrap_in, gate_load hc2, he2, cellAt_app c0, cellAt_app c2]
      refine guardV_split ?_ ?_ <;> intro hp <;> simp at hp
      · simp (disch := omega) [g4, cellAt_app c0, cellAt_app c2, hp]
        refine awCond_split ?_ ?_ <;> intro hq <;> simp at hq
        · simp
          rw [playB_not (i := i + 1 + k) (k := i) (by omega) (by omega) ⟨hp, hq⟩]
          exact ⟨by simp, hK2.app _⟩
        · simp (disch := omega) [g19, g18, g17, g4, g9, g8, g7, g0, wrap_in]
          refine lpI (m2 - 1) (by omega) ?_
          refine ⟨k + 1, by omega, hK2.app _, hK3.app _, by simp, by simp [g18], by simp [g17], by simp [g4], by simp [g9], by simp [g8], by simp [g7], by simp [g0], fun j hj hj2 => ?_⟩
          by_cases hjk : j ≤ i + k
          · exact hk j hj hjk
          · obtain rfl : j = i + 1 + k := by omega
            omega
      · simp (disch := omega) [g19, g18, g17, g4, g9, g8, g7, g0, wrap_in, hp]
        refine lpI (m2 - 1) (by omega) ?_
        refine ⟨k + 1, by omega, hK2.app _, hK3.app _, by simp, by simp [g18], by simp [g17], by simp [g4], by simp [g9], by simp [g8], by simp [g7], by simp [g0], fun j hj hj2 => ?_⟩
        by_cases hjk : j ≤ i + k
        · exact hk j hj hjk
        · obtain rfl : j = i + 1 + k := by omega
          omega
    · obtain rfl : k = n - (i + 1) := by omega
      simp (disch := omega) [g19, g18, g17, g4, g9, g8, g7, g0, wrap_in]
      refine lpI (m - 1) (by omega) ?_
      refine ⟨i + 1, by omega, hK2, by simp, by simp [g8], by simp [g7], by simp [g0], fun j hj k hk1 hk2 => ?_⟩
      by_cases hji : j < i
      · exact hi j hji k hk1 hk2
      · obtain rfl : j = i := by omega
        exact hk k hk1 (by omega)
  · obtain rfl : i = n := by omega
    simp [h9, h8, h7, h0]
    refine awCall_det' (areGates_a (h.keeps hK) (by omega)) hK.len ?_
    have : playB l = true := decide_eq_true fun i hi' k hk => hi k (by omega) i hk (by omega)
    simp [this, hK]




















end Go.Proofs.YtimijeeihicohaaGreat

namespace Go.Proofs.YtimijeeihicohaaGreat
open Go.RowKit
set_option linter.unusedVariables false
set_option linter.unusedSimpArgs false
set_option maxRecDepth 100000
attribute [local simp] List.getElem?_cons_zero
attribute [local irreducible] awCond awCall awLoop awDraw ow retQ retC resQ Keeps
def oneB (l : List Gate) : Bool := l.all fun g => decide (g.o = (el l 0).o)
def codeV (x : Inst) (l : List Gate) (n : Int) (one : Bool) : Int :=
  if instB x && okG l then (if inB n 0 4000 then (if (one && !oneB l) || !playB l then 6 else 0) else 2) else 1
theorem gatesCode_i {M : Mem} {lo hi : Nat} {us : List Value} {x : Inst} {A : Option Addr} {n c : Nat} {l : List Gate} (N : Int) (one : Bool) (h : instP.rd lo hi M x us) (hg : Sl gateR M A n l) (hn : n ≤ 1099511627776) : Det Tryz.prog M.length 46 [.agg us.toArray, .slice A n c, iv N, .bool one] M (iv (codeV x l N one)) M := by
  have hl := instP.len h
  have ht : us.take 8 = us := List.take_of_length_le (by omega)
  have hgl := hg.1
  first | (refine det_fn Tryz.func46 rfl Tryz.ntmps46 Tryz.results46 rfl rfl rfl (by simp) ?_) | (refine det_fnC Tryz.func46 rfl Tryz.ntmps46 Tryz.results46 rfl rfl (by simp) ?_)
  simp [hl, ht]
  refine awCall_det' (isInstrument_i (instP.app h _)) (by simp) ?_
  cases e1 : instB x
  · simp [codeV, e1, keeps_app]
  simp
  refine awCall_det' (areGates_a (hg.keeps (keeps_app _)) (by omega)) (by simp) ?_
  cases e2 : okG l
  · simp [codeV, e1, e2, keeps_app]
  simp
  refine awCall_det' (isCount_a N) (by simp) ?_
  cases e3 : inB N 0 4000
  · simp [codeV, e1, e2, e3, keeps_app]
  simp
  refine awLoop_T (fun m T M' => ∃ k : Nat, k + m = n ∧ Keeps M M' ∧ look T 24 = some (iv k) ∧ look T 23 = some (iv n) ∧ look T 22 = some (.slice A n c) ∧ look T 1 = some (.slice A n c) ∧ look T 3 = some (.bool one) ∧ ∀ i, i < k → one = true → (el l i).o = (el l 0).o) n ⟨0, by omega, keeps_app _, by simp, by simp, by simp, by simp, by simp, fun i hi => by omega⟩ ?_
  rintro m T M' ⟨k, hm, hK, t24, t23, t22, t1, t3, hk⟩
  have hKl := hK.len
  by_cases hlt : k < n
  · have hgk := hg.keeps hK
    obtain ⟨id, off, rfl, he, hc⟩ := hgk.at_ hlt
    obtain ⟨_, _, e0, _, hc0⟩ := hgk.at_ (show 0 < n by omega)
    cases e0
    obtain ⟨z0, z1, z2, z3, z4⟩ := gate_cells hc0
    simp only [Nat.zero_mul, Nat.add_zero] at z0 z1 z2 z3 z4
    have hcl := gate_load hc
    simp (disch := omega) [t24, t23, t22, hlt, wrap_in, he, hcl]
    refine awDraw_E 8 [[],[0],[1,0],[2,1,0],[1,0],[4,1,0],[5,4,1,0],[6,5,4,1,0],[3,2,1,0,7,6,5,4],[1,0,8,3,2,7,6,5,4]] (by kernel_rfl) (by kernel_rfl) ?_
    cases one
    · simp (disch := omega) [t24, t23, t22, t1, t3, hlt, wrap_in, rowEsz_keeps (keeps_app _) he, cellAt_app z0]
      refine lpI (m - 1) (by omega) ⟨k + 1, by omega, hK.app _, by simp, by simp [t23], by simp [t22], by simp [t1], by simp [t3], fun i hi h1 => by cases h1⟩
    · simp (disch := omega) [t24, t23, t22, t1, t3, hlt, wrap_in, rowEsz_keeps (keeps_app _) he, cellAt_app z0]
      refine ⟨by omega, ?_⟩
      by_cases hv : (el l k).o = (el l 0).o
      · simp (disch := omega) [hv, t24, wrap_in]
        refine lpI (m - 1) (by omega) ⟨k + 1, by omega, hK.app _, by simp, by simp [t23], by simp [t22], by simp [t1], by simp [t3], fun i hi h1 => ?_⟩
        by_cases hik : i < k
        · exact hk i hik h1
        · obtain rfl : i = k := by omega
          exact hv
      · have e4 : oneB l = false := all_no (k := k) (by omega) (decide_eq_false hv)
        simp (disch := omega) [hv]
        simp [codeV, e1, e2, e3, e4, hK.app]
  · obtain rfl : k = n := by omega
    simp [t24, t23, t22, t1]
    refine awCall_det' (arePlayable_a (hg.keeps hK) hn) (by omega) ?_
    have e4 : (one && !oneB l) = false := by
      cases one
      · rfl
      · have : oneB l = true := all_yes fun i hi => by simp [hk i (by omega) rfl]
        simp [this]
    cases e5 : playB l
    · simp [codeV, e1, e2, e3, e5, hK]
    · simp [codeV, e1, e2, e3, e4, e5, hK]
end Go.Proofs.YtimijeeihicohaaGreat

namespace Go.Proofs.YtimijeeihicohaaGreat
open Go.RowKit
set_option linter.unusedVariables false
set_option linter.unusedSimpArgs false
set_option maxRecDepth 100000
attribute [local simp] List.getElem?_cons_zero
attribute [local irreducible] awCond awCall awLoop awDraw ow retQ retC resQ Keeps
def cidx (l : List Gate) (t : Int) : Nat := l.findIdx fun g => decide (t < g.s)
def gateL (l : List Gate) (t : Int) : Gate := el l (cidx l t - 1)
def ctl0 (x : Inst) (l : List Gate) (t : Nat) : Int := incr x.steps (gateL l t).k
def ctl1 (x : Inst) (l : List Gate) (t : Nat) : Int := (gateL l t).u
def ctl2 (x : Inst) (l : List Gate) (t : Nat) : Int := levelV x.env ((gateL l t).e - (gateL l t).s) (t - (gateL l t).s)
def Sorted (l : List Gate) : Prop := ∀ i j, i ≤ j → j < l.length → (el l i).s ≤ (el l j).s
theorem okG_sorted {l : List Gate} (h : okG l = true) : Sorted l := by
  unfold okG at h
  simp only [Bool.and_eq_true, decide_eq_true_eq] at h
  intro i j hij
  induction j with
  | zero =>
    intro hj
    obtain rfl : i = 0 := by omega
    exact Int.le_refl _
  | succ j ih =>
    intro hj
    by_cases e : i = j + 1
    · subst e; exact Int.le_refl _
    · have := ih (by omega) (by omega)
      have := (h.1 (j + 1) hj).2 (by omega)
      rw [Nat.add_sub_cancel] at this
      omega
theorem cidx_lt {l : List Gate} (hs : Sorted l) {t : Int} {k : Nat} (hk : k < l.length) : k < cidx l t ↔ (el l k).s ≤ t := by
  constructor
  · intro h
    have := List.not_of_lt_findIdx h
    rw [el_eq hk] at this
    simpa using this
  · intro h
    apply Classical.byContradiction
    intro hn
    have hlt : cidx l t < l.length := by omega
    have hw : decide (t < (l[cidx l t]'hlt).s) = true := List.findIdx_getElem (w := hlt)
    rw [el_eq hlt] at hw
    have h2 : t < (el l (cidx l t)).s := by simpa using hw
    have := hs (cidx l t) k (by omega) hk
    omega
theorem cidx_le (l : List Gate) (t : Int) : cidx l t ≤ l.length := List.findIdx_le_length
def mkC (n : Nat) (p : Nat → Bool) (f : Nat → Int) : List Int := (List.range n).map fun t => if p t = true then f t else 0
theorem mkC_len {n : Nat} {p : Nat → Bool} {f : Nat → Int} : (mkC n p f).length = n := by simp [mkC]
theorem mkC_congr {n : Nat} {p q : Nat → Bool} {f : Nat → Int} (h : ∀ t, t < n → p t = q t) : mkC n p f = mkC n q f := by
  unfold mkC
  apply List.map_congr_left
  intro t ht
  rw [h t (List.mem_range.1 ht)]
theorem mkC_set {n : Nat} {p q : Nat → Bool} {f : Nat → Int} {t : Nat} (h : ∀ u, u < n → q u = (p u || decide (u = t))) : (mkC n p f).set t (f t) = mkC n q f := by
  apply List.ext_getElem
  · simp [mkC]
  · intro i h1 h2
    have hi : i < n := by simpa [mkC] using h2
    rw [List.getElem_set]
    by_cases e : t = i
    · subst e
      simp [mkC, h t hi]
    · simp only [e, if_false, mkC, List.getElem_map, List.getElem_range, h i hi]
      have : ¬ i = t := fun h => e h.symm
      simp [this]
theorem mkC_none {n : Nat} {p : Nat → Bool} {f : Nat → Int} (h : ∀ t, t < n → p t = false) : mkC n p f = List.replicate n 0 := by
  apply List.ext_getElem
  · simp [mkC]
  · intro i h1 h2
    have hi : i < n := by simpa [mkC] using h1
    simp [mkC, h i hi]
/-- What is set when k gates are done and the next one is done up to position u. -/
def doneP (l : List Gate) (k : Nat) (u t : Nat) : Bool := decide (0 < cidx l t) && (decide (cidx l t ≤ k) || (decide (cidx l t = k + 1) && decide (t < u)))
def allP (l : List Gate) (t : Nat) : Bool := decide (0 < cidx l t)
theorem doneP_zero {l : List Gate} (hs : Sorted l) (hl : 0 < l.length) {u : Nat} (hu : (u : Int) = (el l 0).s) (t : Nat) : doneP l 0 u t = false := by
  unfold doneP
  by_cases h : 0 < cidx l t
  · have := (cidx_lt hs hl).1 h
    have h1 : ¬ cidx l t ≤ 0 := by omega
    have h2 : ¬ t < u := by omega
    simp [h, h1, h2]
  · simp [h]
theorem doneP_next {l : List Gate} (hs : Sorted l) {k u v : Nat} (hk : k + 1 < l.length) {n : Nat} (hu : u = n ∨ ((u : Int) = (el l (k + 1)).s)) (hun : u ≤ n) (hv : (v : Int) = (el l (k + 1)).s) {t : Nat} (ht : t < n) : doneP l k u t = doneP l (k + 1) v t := by
  unfold doneP
  have h := cidx_lt hs (t := t) hk
  by_cases c0 : 0 < cidx l t
  · by_cases c1 : k + 1 < cidx l t
    · have := h.1 c1
      have e1 : ¬ cidx l t ≤ k := by omega
      have e2 : ¬ cidx l t = k + 1 := by omega
      have e3 : ¬ cidx l t ≤ k + 1 := by omega
      have e4 : ¬ t < v := by omega
      simp [e1, e2, e3, e4]
    · have h' : ¬ (el l (k + 1)).s ≤ t := fun hh => c1 (h.2 hh)
      have e3 : cidx l t ≤ k + 1 := by omega
      have e4 : t < u := by omega
      by_cases e1 : cidx l t ≤ k
      · simp [e1, e3]
      · have e2 : cidx l t = k + 1 := by omega
        simp [e2, e4]
  · simp [c0]
theorem doneP_last {l : List Gate} {k n : Nat} (hk : k + 1 = l.length) {t : Nat} (ht : t < n) : doneP l k n t = allP l t := by
  unfold doneP allP
  have := cidx_le l t
  by_cases c0 : 0 < cidx l t
  · by_cases e1 : cidx l t ≤ k
    · simp [e1]
    · have e2 : cidx l t = k + 1 := by omega
      simp [e2, ht]
  · simp [c0]
theorem doneP_step {l : List Gate} {k u : Nat} (h : cidx l u = k + 1) (t : Nat) : doneP l k (u + 1) t = (doneP l k u t || decide (t = u)) := by
  unfold doneP
  by_cases e : t = u
  · subst e
    simp [h]
  · by_cases e1 : t < u
    · have : t < u + 1 := by omega
      simp [e, e1, this]
    · have : ¬ t < u + 1 := by omega
      simp [e, e1, this]
theorem cidx_at {l : List Gate} (hs : Sorted l) {k : Nat} (hk : k < l.length) {t : Int} (h1 : (el l k).s ≤ t) (h2 : k + 1 < l.length → t < (el l (k + 1)).s) : cidx l t = k + 1 := by
  have a := (cidx_lt hs hk).2 h1
  have := cidx_le l t
  by_cases hk' : k + 1 < l.length
  · have b : ¬ k + 1 < cidx l t := fun h => by
      have := (cidx_lt hs hk').1 h
      have := h2 hk'
      omega
    omega
  · omega
/-- Three lists in rows of one's own, and the row that holds them. -/
structure Row1 (M : Mem) (B : Nat) (v : Value) (id : Nat) (l : List Int) : Prop where
  low : B ≤ id
  row : ∃ t c, v = .slice (some ⟨id, 0, none⟩) l.length c ∧ M[id]? = some (.live ⟨cellsL intR l, true, t, 2, 1⟩)
theorem Row1.keep {M M' : Mem} {B : Nat} {v : Value} {id : Nat} {l : List Int} (h : Row1 M B v id l) (hk : ∀ s, M[id]? = some s → M'[id]? = some s) : Row1 M' B v id l := by
  obtain ⟨h1, t, c, h2, h3⟩ := h
  exact ⟨h1, t, c, h2, hk _ h3⟩
theorem Row1.put {M : Mem} {B b : Nat} {v : Value} {id : Nat} {l : List Int} (h : Row1 M B v id l) (hb : b ≤ B) {i : Nat} (hi : i < l.length) (y : Int) :
    ∃ M', putCells b M id i [iv y] = some M' ∧ Row1 M' B v id (l.set i y) ∧ M'.length = M.length ∧ ∀ (q : Nat) s, q ≠ id → M[q]? = some s → M'[q]? = some s := by
  obtain ⟨h1, t, c, h2, h3⟩ := h
  have hp := put_rec (R := intR) (b := b) (a := y) (off := i) h3 (by omega) hi (by omega) rfl
  refine ⟨_, hp, ⟨h1, t, c, by rw [h2, List.length_set], List.getElem?_set_self (List.getElem?_eq_some_iff.1 h3).1⟩, by simp, fun q s hq hs => by rw [List.getElem?_set_ne (Ne.symm hq)]; exact hs⟩
structure Ctl (M : Mem) (B oid i0 i1 i2 : Nat) (v0 v1 v2 : Value) (l0 l1 l2 : List Int) : Prop where
  low : B ≤ oid
  orow : ∃ e, M[oid]? = some (.live ⟨[v0, v1, v2], true, true, e, 1⟩)
  r0 : Row1 M B v0 i0 l0
  r1 : Row1 M B v1 i1 l1
  r2 : Row1 M B v2 i2 l2
  apart : i0 ≠ i1 ∧ i0 ≠ i2 ∧ i1 ≠ i2 ∧ i0 ≠ oid ∧ i1 ≠ oid ∧ i2 ≠ oid
theorem Ctl.keeps {M M' : Mem} {B oid i0 i1 i2 : Nat} {v0 v1 v2 : Value} {l0 l1 l2 : List Int} (h : Ctl M B oid i0 i1 i2 v0 v1 v2 l0 l1 l2) (hk : Keeps M M') : Ctl M' B oid i0 i1 i2 v0 v1 v2 l0 l1 l2 :=
  ⟨h.low, ⟨h.orow.choose, hk.get h.orow.choose_spec⟩, h.r0.keep fun s hs => hk.get hs, h.r1.keep fun s hs => hk.get hs, h.r2.keep fun s hs => hk.get hs, h.apart⟩
theorem Ctl.cells {M : Mem} {B oid i0 i1 i2 : Nat} {v0 v1 v2 : Value} {l0 l1 l2 : List Int} (h : Ctl M B oid i0 i1 i2 v0 v1 v2 l0 l1 l2) : cellAt M oid 0 = some v0 ∧ cellAt M oid 1 = some v1 ∧ cellAt M oid 2 = some v2 ∧ rowEsz M oid = some 1 := by
  obtain ⟨e, he⟩ := h.orow
  simp [cellAt, rowEsz, he]
theorem Ctl.put0 {M : Mem} {B b oid i0 i1 i2 : Nat} {v0 v1 v2 : Value} {l0 l1 l2 : List Int} (h : Ctl M B oid i0 i1 i2 v0 v1 v2 l0 l1 l2) (hb : b ≤ B) {i : Nat} (hi : i < l0.length) (y : Int) :
    ∃ M', putCells b M i0 i [iv y] = some M' ∧ Ctl M' B oid i0 i1 i2 v0 v1 v2 (l0.set i y) l1 l2 ∧ M'.length = M.length ∧ ∀ (q : Nat) s, q ≠ i0 → M[q]? = some s → M'[q]? = some s := by
  obtain ⟨M', p1, p2, p3, p4⟩ := h.r0.put hb hi y
  have ha := h.apart
  exact ⟨M', p1, ⟨h.low, ⟨h.orow.choose, p4 _ _ (Ne.symm ha.2.2.2.1) h.orow.choose_spec⟩, p2, h.r1.keep fun s hs => p4 _ _ (Ne.symm ha.1) hs, h.r2.keep fun s hs => p4 _ _ (Ne.symm ha.2.1) hs, ha⟩, p3, p4⟩
theorem Ctl.put1 {M : Mem} {B b oid i0 i1 i2 : Nat} {v0 v1 v2 : Value} {l0 l1 l2 : List Int} (h : Ctl M B oid i0 i1 i2 v0 v1 v2 l0 l1 l2) (hb : b ≤ B) {i : Nat} (hi : i < l1.length) (y : Int) :
    ∃ M', putCells b M i1 i [iv y] = some M' ∧ Ctl M' B oid i0 i1 i2 v0 v1 v2 l0 (l1.set i y) l2 ∧ M'.length = M.length ∧ ∀ (q : Nat) s, q ≠ i1 → M[q]? = some s → M'[q]? = some s := by
  obtain ⟨M', p1, p2, p3, p4⟩ := h.r1.put hb hi y
  have ha := h.apart
  exact ⟨M', p1, ⟨h.low, ⟨h.orow.choose, p4 _ _ (Ne.symm ha.2.2.2.2.1) h.orow.choose_spec⟩, h.r0.keep fun s hs => p4 _ _ ha.1 hs, p2, h.r2.keep fun s hs => p4 _ _ (Ne.symm ha.2.2.1) hs, ha⟩, p3, p4⟩
theorem Ctl.put2 {M : Mem} {B b oid i0 i1 i2 : Nat} {v0 v1 v2 : Value} {l0 l1 l2 : List Int} (h : Ctl M B oid i0 i1 i2 v0 v1 v2 l0 l1 l2) (hb : b ≤ B) {i : Nat} (hi : i < l2.length) (y : Int) :
    ∃ M', putCells b M i2 i [iv y] = some M' ∧ Ctl M' B oid i0 i1 i2 v0 v1 v2 l0 l1 (l2.set i y) ∧ M'.length = M.length ∧ ∀ (q : Nat) s, q ≠ i2 → M[q]? = some s → M'[q]? = some s := by
  obtain ⟨M', p1, p2, p3, p4⟩ := h.r2.put hb hi y
  have ha := h.apart
  exact ⟨M', p1, ⟨h.low, ⟨h.orow.choose, p4 _ _ (Ne.symm ha.2.2.2.2.2) h.orow.choose_spec⟩, h.r0.keep fun s hs => p4 _ _ ha.2.1 hs, h.r1.keep fun s hs => p4 _ _ ha.2.2.1 hs, p2, ha⟩, p3, p4⟩
end Go.Proofs.YtimijeeihicohaaGreat
