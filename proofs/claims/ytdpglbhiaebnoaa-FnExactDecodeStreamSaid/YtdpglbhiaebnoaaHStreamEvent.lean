/- StreamEvent: records in memory, and the laws' helpers on them. No conditions. -/
import Derived.Test.YtdpglbhiaebnoaaB0
import Derived.Test.YtdpglbhiaebnoaaLA
import Derived.Laws.StructEq
namespace Go.Proofs.Ytdpglbhiaebnoaa
open Go.RowKit
set_option linter.unusedVariables false
set_option linter.unusedSimpArgs false
set_option maxRecDepth 100000
attribute [local simp] List.getElem?_cons_zero
attribute [local irreducible] awCond awCall awLoop awDraw ow retQ retC resQ Keeps
structure StreamEvent where
  (d j o k u : Int)
deriving Inhabited, DecidableEq
def StreamEvent.row (c : StreamEvent) : List Value := [iv c.d, iv c.j, iv c.o, iv c.k, iv c.u]
def streamEventR : RecV StreamEvent 5 := ⟨StreamEvent.row, fun _ => rfl⟩
abbrev StreamEvent.v (c : StreamEvent) : Value := .agg #[iv c.d, iv c.j, iv c.o, iv c.k, iv c.u]
theorem streamEvent_cells {M : Mem} {id off : Nat} {g : StreamEvent} (h : Cl M id off g.row) : cellAt M id off = some (iv g.d) ∧ cellAt M id (off + 1) = some (iv g.j) ∧ cellAt M id (off + 2) = some (iv g.o) ∧ cellAt M id (off + 3) = some (iv g.k) ∧ cellAt M id (off + 4) = some (iv g.u) :=
  ⟨h 0 _ rfl, h 1 _ rfl, h 2 _ rfl, h 3 _ rfl, h 4 _ rfl⟩
theorem streamEvent_load {M : Mem} {id off : Nat} {g : StreamEvent} (h : Cl M id off g.row) : cellsAt M id off 5 = some [iv g.d, iv g.j, iv g.o, iv g.k, iv g.u] := cellsAt_of h rfl (by omega)
theorem streamEvent_eq {a b : StreamEvent} : a = b ↔ a.d = b.d ∧ a.j = b.j ∧ a.o = b.o ∧ a.k = b.k ∧ a.u = b.u := by
  cases a; cases b; simp
def streamEventI : Ints streamEventR := ⟨fun zs => ⟨gi zs 0, gi zs 1, gi zs 2, gi zs 3, gi zs 4⟩, fun zs h => by
  obtain ⟨x0, x1, x2, x3, x4, rfl⟩ : ∃ x0 x1 x2 x3 x4, zs = [x0, x1, x2, x3, x4] := by
    match zs, h with
    | [x0, x1, x2, x3, x4], _ => exact ⟨x0, x1, x2, x3, x4, rfl⟩
  rfl⟩

/-- Equality of records, as the language has it. -/
theorem streamEvent_same (a b : StreamEvent) : aggEq Try.prog 46 #[iv a.d, iv a.j, iv a.o, iv a.k, iv a.u] #[iv b.d, iv b.j, iv b.o, iv b.k, iv b.u] = some (decide (a = b)) := by
  refine aggEq_of (by kernel_rfl) rfl rfl fun w => ?_
  unfold Op.equal
  rw [show Op.maxDepth = 9999 + 1 from rfl]
  rw [run_equalIn_agg _ _ _ _ _ Try.underlying46 (by kernel_rfl)]
  simp [go_sem]
  repeat' split
  all_goals simp_all [streamEvent_eq]
theorem streamEvent_eql (a b : StreamEvent) : binV Try.prog .eql 46 (.agg #[iv a.d, iv a.j, iv a.o, iv a.k, iv a.u]) (.agg #[iv b.d, iv b.j, iv b.o, iv b.k, iv b.u]) = some (.bool (decide (a = b))) := by
  simp only [binV, eqV, Try.underlying46, streamEvent_same, Option.map_some]
theorem streamEvent_neq (a b : StreamEvent) : binV Try.prog .neq 46 (.agg #[iv a.d, iv a.j, iv a.o, iv a.k, iv a.u]) (.agg #[iv b.d, iv b.j, iv b.o, iv b.k, iv b.u]) = some (.bool (!decide (a = b))) := by
  simp only [binV, eqV, Try.underlying46, streamEvent_same, Option.map_some]
@[simp] theorem streamEvent_fill (x0 x1 x2 x3 x4 : Int) : Instr.fill (fun i => some (i * 5, 5)) (zrow [iv 0, iv 0, iv 0, iv 0, iv 0] 1).toArray [(0, .agg #[iv x0, iv x1, iv x2, iv x3, iv x4])] = some #[iv x0, iv x1, iv x2, iv x3, iv x4] := fill_agg (by omega) rfl rfl
theorem toStreamEvent_a {M : Mem} (g : StreamEvent) : Det Try.prog M.length 30 [g.v] M g.v M := by
  first | (refine det_fn Try.func30 rfl Try.ntmps30 Try.results30 rfl rfl rfl (by simp) ?_) | (refine det_fnC Try.func30 rfl Try.ntmps30 Try.results30 rfl rfl (by simp) ?_)
  simp [keeps_app]
theorem eqStreamEvent_a {M : Mem} (a b : StreamEvent) : Det Try.prog M.length 32 [a.v, b.v] M (.bool (decide (a = b))) M := by
  first | (refine det_fn Try.func32 rfl Try.ntmps32 Try.results32 rfl rfl rfl (by simp) ?_) | (refine det_fnC Try.func32 rfl Try.ntmps32 Try.results32 rfl rfl (by simp) ?_)
  simp
  repeat' (first | (refine awCond_split ?_ ?_ <;> intro _) | (simp [keeps_app]))
  all_goals (simp_all [streamEvent_eq])
theorem szStreamEventS_a {M : Mem} {A : Option Addr} {n c : Nat} (z : Int) (hz : 0 ≤ z) (hz1 : z ≤ 1048576) (hn : n ≤ maxLen) : Det Try.prog M.length 9 [.slice A n c, iv z] M (iv (if z - n < 0 then -1 else z - n)) M := by
  unfold maxLen at hn
  first | (refine det_fn Try.func9 rfl Try.ntmps9 Try.results9 rfl rfl rfl (by simp) ?_) | (refine det_fnC Try.func9 rfl Try.ntmps9 Try.results9 rfl rfl (by simp) ?_)
  simp (disch := omega) [wrap_in]
  refine awCond_split ?_ ?_ <;> intro h
  · simp at h
    simp [h, Keeps.refl]
    try omega
  · simp at h
    simp [h, Keeps.refl]
    try omega
theorem toStreamEventS_d {M : Mem} {A : Option Addr} {n c : Nat} {l : List StreamEvent} (h : Sl streamEventR M A n l) (hn : n ≤ 1099511627776) : Det Try.prog M.length 11 [.slice A n c] M (.slice (some ⟨M.length, 0, none⟩) n n) (M ++ [.live ⟨cellsL streamEventR l, true, true, 46, 5⟩]) := by
  have hl := h.1
  refine Ctr.det ?_
  first | (refine ctr_fn Try.func11 rfl Try.ntmps11 Try.results11 rfl rfl (by simp) ?_) | (refine ctr_fnC Try.func11 rfl Try.ntmps11 Try.results11 rfl (by simp) ?_)
  simp
  refine ⟨by omega, ?_⟩
  refine awLoop_T (fun m T M' => ∃ k : Nat, k + m = n ∧ M' = M ++ [.live ⟨cellsL streamEventR (l.take k) ++ zrow [iv 0, iv 0, iv 0, iv 0, iv 0] m, true, true, 46, 5⟩] ∧ look T 4 = some (iv k) ∧ look T 0 = some (.slice A n c) ∧ look T 3 = some (.slice (some ⟨M.length, 0, none⟩) n n)) n ⟨0, by omega, by simp [cellsL_nil], by simp, by simp, by simp⟩ ?_
  rintro m T M' ⟨k, hm, rfl, h4, h0, h3⟩
  by_cases hlt : k < n
  · obtain ⟨id, off, rfl, he, hc⟩ := h.at_ hlt
    have hc' := hc.app [.live ⟨cellsL streamEventR (l.take k) ++ zrow [iv 0, iv 0, iv 0, iv 0, iv 0] m, true, true, 46, 5⟩]
    simp (disch := omega) [h3, h4, h0, hlt, wrap_in, streamEvent_load hc']
    obtain ⟨m, rfl⟩ : ∃ m', m = m' + 1 := ⟨m - 1, by omega⟩
    refine awCall_det' ((toStreamEvent_a (el l k))) (by simp) ⟨by simp, ow_iff.2 ⟨_, putCells_rec streamEventR (a := el l k) (Nat.le_refl _) rfl (List.length_take_of_le (by omega)) rfl, ?_⟩⟩
    refine lpI m (by omega) ?_
    refine ⟨k + 1, by omega, by rw [take_el (by omega)], by simp, by simp [h0], by simp [h3]⟩
  · obtain rfl : k = n := by omega
    obtain rfl : m = 0 := by omega
    simp [h3, h4, h0, List.take_of_length_le (Nat.le_of_eq hl)]
theorem toStreamEventS_a {M : Mem} {A : Option Addr} {n c : Nat} {l : List StreamEvent} (h : Sl streamEventR M A n l) (hn : n ≤ 1099511627776) : Ctr Try.prog M.length 11 [.slice A n c] M fun v M' => Fresh streamEventR M v M' l :=
  (toStreamEventS_d h hn).ctr (Fresh.new h.1 (by omega))
theorem eqStreamEventS_a {M : Mem} {A B : Option Addr} {n c m d : Nat} {x y : List StreamEvent} (hx : Sl streamEventR M A n x) (hy : Sl streamEventR M B m y) (hn : n ≤ 1099511627776) : Det Try.prog M.length 13 [.slice A n c, .slice B m d] M (.bool (decide (x = y))) M := by
  have hlx := hx.1
  have hly := hy.1
  first | (refine det_fn Try.func13 rfl Try.ntmps13 Try.results13 rfl rfl rfl (by simp) ?_) | (refine det_fnC Try.func13 rfl Try.ntmps13 Try.results13 rfl rfl (by simp) ?_)
  simp
  refine awCond_split ?_ ?_ <;> intro hnm
  · simp at hnm
    simp
    exact ⟨fun e => by subst e; omega, Keeps.refl _⟩
  · simp at hnm
    obtain rfl : n = m := by omega
    simp
    refine awLoop_T (fun m T M' => ∃ k : Nat, k + m = n ∧ M' = M ∧ look T 5 = some (iv k) ∧ look T 0 = some (.slice A n c) ∧ look T 1 = some (.slice B n d) ∧ x.take k = y.take k) n ⟨0, by omega, rfl, by simp, by simp, by simp, by simp⟩ ?_
    rintro m T M' ⟨k, hm, rfl, h4, h0, h1, hk⟩
    by_cases hlt : k < n
    · obtain ⟨id, off, rfl, he, hc⟩ := hx.at_ hlt
      obtain ⟨id', off', rfl, he', hc'⟩ := hy.at_ hlt
      simp (disch := omega) [h4, h0, h1, hlt, wrap_in]
      refine awDraw_E 8 [[],[],[0,1],[2,0,1],[],[],[4,5],[6,4,5],[3,2,0,1,7,6,4,5],[8,3,2,0,1,7,6,4,5]] (by kernel_rfl) (by kernel_rfl) ?_
      simp (disch := omega) [h4, h0, h1, hlt, wrap_in, streamEvent_load hc, streamEvent_load hc']
      refine awCall_det' (eqStreamEvent_a (el x k) (el y k)) (Nat.le_refl _) ?_
      simp
      refine awCond_split ?_ ?_ <;> intro he
      · simp at he
        simp
        exact ⟨fun e => he (by rw [e]), Keeps.refl _⟩
      · simp at he
        simp (disch := omega) [h4, h0, h1, wrap_in]
        refine lpI (m - 1) (by omega) ?_
        exact ⟨k + 1, by omega, rfl, by simp, by simp [h0], by simp [h1], by rw [take_el (by omega), take_el (by omega), hk, he]⟩
    · obtain rfl : k = n := by omega
      rw [List.take_of_length_le (by omega), List.take_of_length_le (by omega)] at hk
      simp [h4, h0, h1, hk, Keeps.refl]
def markStreamEvent (z : Int) (i : Nat) : StreamEvent := ⟨z + i * 5, z + i * 5 + 1, z + i * 5 + 1 + 1, z + i * 5 + 1 + 1 + 1, z + i * 5 + 1 + 1 + 1 + 1⟩
def markStreamEventL (z : Int) (n : Nat) : List StreamEvent := (List.range n).map (markStreamEvent z)
theorem markStreamEventL_succ (z : Int) (n : Nat) : markStreamEventL z (n + 1) = markStreamEventL z n ++ [markStreamEvent z n] := by simp [markStreamEventL, List.range_succ]
theorem markStreamEventS_a {M : Mem} {b : Nat} {A : Option Addr} {n c : Nat} {x : List StreamEvent} (z : Int) (hx : Sl streamEventR M A n x) (ho : Ownd M A n) (hb : ∀ a, A = some a → 0 < n → b ≤ a.block) (hn : n ≤ 1099511627776) (hz0 : 0 ≤ z) (hz : z ≤ 1152921504606846976) :
    Ctr Try.prog b 20 [.slice A n c, iv z] M fun v M' => v = iv (z + n * 5) ∧ Sl streamEventR M' A n (markStreamEventL z n) ∧ Ownd M' A n ∧ Turned A n M M' := by
  have hlx := hx.1
  rcases Nat.eq_zero_or_pos n with rfl | hp
  · first | (refine ctr_fn Try.func20 rfl Try.ntmps20 Try.results20 rfl rfl (by simp) ?_) | (refine ctr_fnC Try.func20 rfl Try.ntmps20 Try.results20 rfl (by simp) ?_)
    simp
    refine awLoop_T (fun m T M' => M' = M ∧ look T 1 = some (iv z) ∧ look T 5 = some (iv 0) ∧ look T 0 = some (.slice A 0 c)) 0 ⟨rfl, by simp, by simp, by simp⟩ ?_
    rintro m T M' ⟨rfl, h1, h3, h0⟩
    simp [h1, h3, h0]
    obtain rfl := List.eq_nil_of_length_eq_zero hlx
    exact ⟨hx, ho, rfl, fun i s hs _ => hs⟩
  · obtain ⟨id, off, r, rfl, hr, ho⟩ := ho hp
    have hid := (List.getElem?_eq_some_iff.1 hr).1
    obtain ⟨hz5, hlen⟩ := hx.cells hr hp (by omega)
    have hb' : b ≤ id := hb _ rfl hp
    obtain ⟨cs, own, t, e, esz⟩ := r
    simp only at hz5 hlen ho
    subst hz5 ho
    have hM : M = M.set id (.live ⟨cs.take off ++ cellsL streamEventR (markStreamEventL z 0) ++ cs.drop (off + 0 * 5), true, t, e, 5⟩) := by
      rw [set_self]
      simp [markStreamEventL, cellsL_nil, hr]
    first | (refine ctr_fn Try.func20 rfl Try.ntmps20 Try.results20 rfl rfl (by simp) ?_) | (refine ctr_fnC Try.func20 rfl Try.ntmps20 Try.results20 rfl (by simp) ?_)
    simp
    refine awLoop_T (fun m T M' => ∃ j : Nat, j + m = n ∧ M' = M.set id (.live ⟨cs.take off ++ cellsL streamEventR (markStreamEventL z j) ++ cs.drop (off + j * 5), true, t, e, 5⟩) ∧ look T 5 = some (iv j) ∧ look T 1 = some (iv (z + j * 5)) ∧ look T 0 = some (.slice (some ⟨id, off, none⟩) n c)) n ⟨0, by omega, hM, by simp, by simp, by simp⟩ ?_
    rintro m T M' ⟨j, hm, rfl, h5, h1, h0⟩
    have hlm : (markStreamEventL z j).length = j := by simp [markStreamEventL]
    by_cases hlt : j < n
    · have hsp := splice_mid streamEventR (cs := cs) (off := off) (a := markStreamEvent z j) hlm (by omega)
      have hlc : (cs.take off ++ cellsL streamEventR (markStreamEventL z j) ++ cs.drop (off + j * 5)).length = cs.length := by
        simp only [List.length_append, List.length_take, List.length_drop, cellsL_len, hlm]; omega
      generalize cs.take off ++ cellsL streamEventR (markStreamEventL z j) ++ cs.drop (off + j * 5) = Cs at hsp hlc ⊢
      simp (disch := first | omega | (simp <;> omega)) [h5, h1, h0, hlt, wrap_in, rowEsz_set hid, put_set hid hb']
      refine lpI (m - 1) (by omega) ?_
      refine ⟨j + 1, by omega, ?_, by simp, by simp; omega, by simp [h0]⟩
      rw [markStreamEventL_succ, ← hsp]
      rfl
    · obtain rfl : j = n := by omega
      have hS := Sl.set (R := streamEventR) (M := M) (pre := cs.take off) (post := cs.drop (off + j * 5)) (o := true) (t := t) (e := e) hid (List.length_take_of_le (by omega)) hlm
      have hO : Ownd (M.set id (.live ⟨cs.take off ++ cellsL streamEventR (markStreamEventL z j) ++ cs.drop (off + j * 5), true, t, e, 5⟩)) (some ⟨id, off, none⟩) j := fun _ => ⟨_, _, _, rfl, List.getElem?_set_self hid, rfl⟩
      have hT : Turned (some ⟨id, off, none⟩) j M (M.set id (.live ⟨cs.take off ++ cellsL streamEventR (markStreamEventL z j) ++ cs.drop (off + j * 5), true, t, e, 5⟩)) := set_turned hp
      generalize M.set id (.live ⟨cs.take off ++ cellsL streamEventR (markStreamEventL z j) ++ cs.drop (off + j * 5), true, t, e, 5⟩) = M' at hS hO hT ⊢
      simp [h5, h1, h0]
      exact ⟨hS, hO, hT⟩
theorem heldStreamEventS_a {M : Mem} {A : Option Addr} {n c : Nat} (z : Int) (hx : Sl streamEventR M A n (markStreamEventL z n)) (hn : n ≤ 1099511627776) (hz0 : 0 ≤ z) (hz : z ≤ 1152921504606846976) :
    Det Try.prog M.length 21 [.slice A n c, iv z] M (iv (z + n * 5)) M := by
  first | (refine det_fn Try.func21 rfl Try.ntmps21 Try.results21 rfl rfl rfl (by simp) ?_) | (refine det_fnC Try.func21 rfl Try.ntmps21 Try.results21 rfl rfl (by simp) ?_)
  simp
  refine awLoop_T (fun m T M' => ∃ j : Nat, j + m = n ∧ M' = M ∧ look T 5 = some (iv j) ∧ look T 1 = some (iv (z + j * 5)) ∧ look T 0 = some (.slice A n c)) n ⟨0, by omega, rfl, by simp, by simp, by simp⟩ ?_
  rintro m T M' ⟨j, hm, rfl, h5, h1, h0⟩
  by_cases hlt : j < n
  · obtain ⟨id, off, rfl, he, hc⟩ := hx.at_ hlt
    rw [show el (markStreamEventL z n) j = markStreamEvent z j by simp [markStreamEventL, el, hlt]] at hc
    obtain ⟨c0, c1, c2, c3, c4⟩ := streamEvent_cells hc
    simp (disch := omega) [h5, h1, h0, hlt, wrap_in, c0, c1, c2, c3, c4, markStreamEvent]
    refine lpI (m - 1) (by omega) ?_
    exact ⟨j + 1, by omega, rfl, by simp, by simp; omega, by simp [h0]⟩
  · obtain rfl : j = n := by omega
    simp [h5, h1, h0, Keeps.refl]
/-! The same, as the laws use them. -/
theorem sz_StreamEventS_over {M : Mem} {v : Value} {lo hi : Nat} {l : List StreamEvent} {z : Int} (h : RdL streamEventR lo hi M v l) (hz : 0 ≤ z) (hz1 : z ≤ 1048576) (hl : z < l.length) : Det Try.prog M.length 9 [v, iv z] M (iv (-1)) M := by
  obtain ⟨A, n, c, rfl, hn, hS, _⟩ := h
  have := szStreamEventS_a (M := M) (A := A) (n := n) (c := c) z hz hz1 (by unfold maxLen; omega)
  rwa [if_pos (by have := hS.1; omega)] at this
theorem sz_StreamEventS {M : Mem} {v : Value} {lo hi : Nat} {l : List StreamEvent} {z : Int} (h : RdL streamEventR lo hi M v l) (hz : 0 ≤ z) (hz1 : z ≤ 1048576) (hl : l.length ≤ z) : Det Try.prog M.length 9 [v, iv z] M (iv (z - l.length)) M := by
  obtain ⟨A, n, c, rfl, hn, hS, _⟩ := h
  have := szStreamEventS_a (M := M) (A := A) (n := n) (c := c) z hz hz1 (by unfold maxLen; omega)
  rw [if_neg (by have := hS.1; omega)] at this
  rwa [hS.1]
theorem to_StreamEventS {M : Mem} {v : Value} {lo hi : Nat} {l : List StreamEvent} (h : RdL streamEventR lo hi M v l) (hl : l.length ≤ 1048576) : Ctr Try.prog M.length 11 [v] M fun v' M' => OwL streamEventR M.length M'.length M' v' l ∧ Keeps M M' := by
  obtain ⟨A, n, c, rfl, hn, hS, _⟩ := h
  exact (toStreamEventS_a hS (by have := hS.1; omega)).mono fun v' M' h => h.ow
theorem eq_StreamEventS {M : Mem} {v w : Value} {lo hi lo' hi' : Nat} {x y : List StreamEvent} (hx : OwL streamEventR lo hi M v x) (hy : RdL streamEventR lo' hi' M w y) : Det Try.prog M.length 13 [v, w] M (.bool (decide (x = y))) M := by
  obtain ⟨A, n, c, rfl, hn, hS, _⟩ := hx
  obtain ⟨B, m, d, rfl, hm, hT, _⟩ := hy
  exact eqStreamEventS_a hS hT hn
theorem mark_StreamEventS {M : Mem} {b : Nat} {v : Value} {lo hi : Nat} {l : List StreamEvent} {z : Int} (h : OwL streamEventR lo hi M v l) (hb : b ≤ lo) (hz : 0 ≤ z) (hz1 : z ≤ 1152921504606846976) :
    Ctr Try.prog b 20 [v, iv z] M fun r M' => r = iv (z + l.length * 5) ∧ OwL streamEventR lo hi M' v (markStreamEventL z l.length) ∧ Turn lo hi M M' := by
  obtain ⟨A, n, c, rfl, hn, hS, hi', ho⟩ := h
  exact (markStreamEventS_a z hS ho (fun a e hp => by have := hi' a e hp; omega) hn hz hz1).mono fun r M' ⟨h1, h2, h3, h4⟩ => ⟨by rw [h1, hS.1], ⟨A, n, c, rfl, hn, by rw [hS.1]; exact h2, hi', h3⟩, Nat.le_of_eq h4.1.symm, fun i s hs hd => h4.2 i s hs fun a e hp => by have := hi' a e hp; omega⟩
theorem held_StreamEventS {M : Mem} {v : Value} {lo hi m : Nat} {z : Int} (h : OwL streamEventR lo hi M v (markStreamEventL z m)) (hz : 0 ≤ z) (hz1 : z ≤ 1152921504606846976) : Det Try.prog M.length 21 [v, iv z] M (iv (z + m * 5)) M := by
  obtain ⟨A, n, c, rfl, hn, hS, _⟩ := h
  have hm : m = n := by have := hS.1; simpa [markStreamEventL] using this
  subst hm
  exact heldStreamEventS_a z hS hn hz hz1
end Go.Proofs.Ytdpglbhiaebnoaa
