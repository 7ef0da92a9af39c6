/- Note: records in memory, and the laws' helpers on them. No conditions. -/
import Derived.Test.YtgaiejaegimilaaHFrac
import Derived.Test.YtgaiejaegimilaaB0
import Derived.Test.YtgaiejaegimilaaLA
import Derived.Laws.StructEq
namespace Go.Proofs.Ytgaiejaegimilaa
open Go.RowKit
set_option linter.unusedVariables false
set_option linter.unusedSimpArgs false
set_option maxRecDepth 100000
attribute [local simp] List.getElem?_cons_zero
attribute [local irreducible] awCond awCall awLoop awDraw ow retQ retC resQ Keeps
structure Note where
  (an ad ln ld k u o : Int)
deriving Inhabited, DecidableEq
def Note.row (c : Note) : List Value := [iv c.an, iv c.ad, iv c.ln, iv c.ld, iv c.k, iv c.u, iv c.o]
def noteR : RecV Note 7 := ⟨Note.row, fun _ => rfl⟩
abbrev Note.v (c : Note) : Value := .agg #[iv c.an, iv c.ad, iv c.ln, iv c.ld, iv c.k, iv c.u, iv c.o]
theorem note_cells {M : Mem} {id off : Nat} {g : Note} (h : Cl M id off g.row) : cellAt M id off = some (iv g.an) ∧ cellAt M id (off + 1) = some (iv g.ad) ∧ cellAt M id (off + 2) = some (iv g.ln) ∧ cellAt M id (off + 3) = some (iv g.ld) ∧ cellAt M id (off + 4) = some (iv g.k) ∧ cellAt M id (off + 5) = some (iv g.u) ∧ cellAt M id (off + 6) = some (iv g.o) :=
  ⟨h 0 _ rfl, h 1 _ rfl, h 2 _ rfl, h 3 _ rfl, h 4 _ rfl, h 5 _ rfl, h 6 _ rfl⟩
theorem note_load {M : Mem} {id off : Nat} {g : Note} (h : Cl M id off g.row) : cellsAt M id off 7 = some [iv g.an, iv g.ad, iv g.ln, iv g.ld, iv g.k, iv g.u, iv g.o] := cellsAt_of h rfl (by omega)
theorem note_eq {a b : Note} : a = b ↔ a.an = b.an ∧ a.ad = b.ad ∧ a.ln = b.ln ∧ a.ld = b.ld ∧ a.k = b.k ∧ a.u = b.u ∧ a.o = b.o := by
  cases a; cases b; simp
def noteI : Ints noteR := ⟨fun zs => ⟨gi zs 0, gi zs 1, gi zs 2, gi zs 3, gi zs 4, gi zs 5, gi zs 6⟩, fun zs h => by
  obtain ⟨x0, x1, x2, x3, x4, x5, x6, rfl⟩ : ∃ x0 x1 x2 x3 x4 x5 x6, zs = [x0, x1, x2, x3, x4, x5, x6] := by
    match zs, h with
    | [x0, x1, x2, x3, x4, x5, x6], _ => exact ⟨x0, x1, x2, x3, x4, x5, x6, rfl⟩
  rfl⟩

/-- Equality of records, as the language has it. -/
theorem note_same (a b : Note) : aggEq Try.prog 62 #[iv a.an, iv a.ad, iv a.ln, iv a.ld, iv a.k, iv a.u, iv a.o] #[iv b.an, iv b.ad, iv b.ln, iv b.ld, iv b.k, iv b.u, iv b.o] = some (decide (a = b)) := by
  refine aggEq_of (by kernel_rfl) rfl rfl fun w => ?_
  unfold Op.equal
  rw [show Op.maxDepth = 9999 + 1 from rfl]
  rw [run_equalIn_agg _ _ _ _ _ Try.underlying62 (by kernel_rfl)]
  simp [go_sem]
  repeat' split
  all_goals simp_all [note_eq]
theorem note_eql (a b : Note) : binV Try.prog .eql 62 (.agg #[iv a.an, iv a.ad, iv a.ln, iv a.ld, iv a.k, iv a.u, iv a.o]) (.agg #[iv b.an, iv b.ad, iv b.ln, iv b.ld, iv b.k, iv b.u, iv b.o]) = some (.bool (decide (a = b))) := by
  simp only [binV, eqV, Try.underlying62, note_same, Option.map_some]
theorem note_neq (a b : Note) : binV Try.prog .neq 62 (.agg #[iv a.an, iv a.ad, iv a.ln, iv a.ld, iv a.k, iv a.u, iv a.o]) (.agg #[iv b.an, iv b.ad, iv b.ln, iv b.ld, iv b.k, iv b.u, iv b.o]) = some (.bool (!decide (a = b))) := by
  simp only [binV, eqV, Try.underlying62, note_same, Option.map_some]
@[simp] theorem note_fill (x0 x1 x2 x3 x4 x5 x6 : Int) : Instr.fill (fun i => some (i * 7, 7)) (zrow [iv 0, iv 0, iv 0, iv 0, iv 0, iv 0, iv 0] 1).toArray [(0, .agg #[iv x0, iv x1, iv x2, iv x3, iv x4, iv x5, iv x6])] = some #[iv x0, iv x1, iv x2, iv x3, iv x4, iv x5, iv x6] := fill_agg (by omega) rfl rfl
theorem toNote_a {M : Mem} (g : Note) : Det Try.prog M.length 92 [g.v] M g.v M := by
  first | (refine det_fn Try.func92 rfl Try.ntmps92 Try.results92 rfl rfl rfl (by simp) ?_) | (refine det_fnC Try.func92 rfl Try.ntmps92 Try.results92 rfl rfl (by simp) ?_)
  simp
  refine awCall_det' (toFrac_a ⟨g.an, g.ad⟩) (by simp) ?_
  simp
  refine awCall_det' (toFrac_a ⟨g.ln, g.ld⟩) (by simp) ?_
  simp [keeps_app]
theorem eqNote_a {M : Mem} (a b : Note) : Det Try.prog M.length 96 [a.v, b.v] M (.bool (decide (a = b))) M := by
  first | (refine det_fn Try.func96 rfl Try.ntmps96 Try.results96 rfl rfl rfl (by simp) ?_) | (refine det_fnC Try.func96 rfl Try.ntmps96 Try.results96 rfl rfl (by simp) ?_)
  simp
  refine awCall_det' (eqFrac_a ⟨a.an, a.ad⟩ ⟨b.an, b.ad⟩) (by simp) ?_
  by_cases e0 : (⟨a.an, a.ad⟩ : Frac) = ⟨b.an, b.ad⟩
  case' neg => simp [e0, keeps_app]; intro e; subst e; exact absurd rfl e0
  simp only [frac_eq] at e0
  simp [e0]
  refine awCall_det' (eqFrac_a ⟨a.ln, a.ld⟩ ⟨b.ln, b.ld⟩) (by simp) ?_
  by_cases e1 : (⟨a.ln, a.ld⟩ : Frac) = ⟨b.ln, b.ld⟩
  case' neg => simp [e1, keeps_app]; intro e; subst e; exact absurd rfl e1
  simp only [frac_eq] at e1
  simp [e1]
  repeat' (first | (refine awCond_split ?_ ?_ <;> intro _) | (simp [keeps_app]))
  all_goals (simp_all [note_eq])
theorem szNoteS_a {M : Mem} {A : Option Addr} {n c : Nat} (z : Int) (hz : 0 ≤ z) (hz1 : z ≤ 1048576) (hn : n ≤ maxLen) : Det Try.prog M.length 46 [.slice A n c, iv z] M (iv (if z - n < 0 then -1 else z - n)) M := by
  unfold maxLen at hn
  first | (refine det_fn Try.func46 rfl Try.ntmps46 Try.results46 rfl rfl rfl (by simp) ?_) | (refine det_fnC Try.func46 rfl Try.ntmps46 Try.results46 rfl rfl (by simp) ?_)
  simp (disch := omega) [wrap_in]
  refine awCond_split ?_ ?_ <;> intro h
  · simp at h
    simp [h, Keeps.refl]
    try omega
  · simp at h
    simp [h, Keeps.refl]
    try omega
theorem toNoteS_d {M : Mem} {A : Option Addr} {n c : Nat} {l : List Note} (h : Sl noteR M A n l) (hn : n ≤ 1099511627776) : Det Try.prog M.length 49 [.slice A n c] M (.slice (some ⟨M.length, 0, none⟩) n n) (M ++ [.live ⟨cellsL noteR l, true, true, 62, 7⟩]) := by
  have hl := h.1
  refine Ctr.det ?_
  first | (refine ctr_fn Try.func49 rfl Try.ntmps49 Try.results49 rfl rfl (by simp) ?_) | (refine ctr_fnC Try.func49 rfl Try.ntmps49 Try.results49 rfl (by simp) ?_)
  simp
  refine ⟨by omega, ?_⟩
  refine awLoop_T (fun m T M' => ∃ k : Nat, k + m = n ∧ M' = M ++ [.live ⟨cellsL noteR (l.take k) ++ zrow [iv 0, iv 0, iv 0, iv 0, iv 0, iv 0, iv 0] m, true, true, 62, 7⟩] ∧ look T 4 = some (iv k) ∧ look T 0 = some (.slice A n c) ∧ look T 3 = some (.slice (some ⟨M.length, 0, none⟩) n n)) n ⟨0, by omega, by simp [cellsL_nil], by simp, by simp, by simp⟩ ?_
  rintro m T M' ⟨k, hm, rfl, h4, h0, h3⟩
  by_cases hlt : k < n
  · obtain ⟨id, off, rfl, he, hc⟩ := h.at_ hlt
    have hc' := hc.app [.live ⟨cellsL noteR (l.take k) ++ zrow [iv 0, iv 0, iv 0, iv 0, iv 0, iv 0, iv 0] m, true, true, 62, 7⟩]
    simp (disch := omega) [h3, h4, h0, hlt, wrap_in, note_load hc']
    obtain ⟨m, rfl⟩ : ∃ m', m = m' + 1 := ⟨m - 1, by omega⟩
    refine awCall_det' ((toNote_a (el l k))) (by simp) ⟨by simp, ow_iff.2 ⟨_, putCells_rec noteR (a := el l k) (Nat.le_refl _) rfl (List.length_take_of_le (by omega)) rfl, ?_⟩⟩
    refine lpI m (by omega) ?_
    refine ⟨k + 1, by omega, by rw [take_el (by omega)], by simp, by simp [h0], by simp [h3]⟩
  · obtain rfl : k = n := by omega
    obtain rfl : m = 0 := by omega
    simp [h3, h4, h0, List.take_of_length_le (Nat.le_of_eq hl)]
theorem toNoteS_a {M : Mem} {A : Option Addr} {n c : Nat} {l : List Note} (h : Sl noteR M A n l) (hn : n ≤ 1099511627776) : Ctr Try.prog M.length 49 [.slice A n c] M fun v M' => Fresh noteR M v M' l :=
  (toNoteS_d h hn).ctr (Fresh.new h.1 (by omega))
theorem eqNoteS_a {M : Mem} {A B : Option Addr} {n c m d : Nat} {x y : List Note} (hx : Sl noteR M A n x) (hy : Sl noteR M B m y) (hn : n ≤ 1099511627776) : Det Try.prog M.length 53 [.slice A n c, .slice B m d] M (.bool (decide (x = y))) M := by
  have hlx := hx.1
  have hly := hy.1
  first | (refine det_fn Try.func53 rfl Try.ntmps53 Try.results53 rfl rfl rfl (by simp) ?_) | (refine det_fnC Try.func53 rfl Try.ntmps53 Try.results53 rfl rfl (by simp) ?_)
  simp
  refine awCond_split ?_ ?_ <;> intro hnm
  · simp at hnm
    simp
    exact ⟨fun e => by subst e; omega, Keeps.refl _⟩
  · simp at hnm
    obtain rfl : n = m := by omega
    simp
    refine awLoop_T (fun m T M' => ∃ k : Nat, k + m = n ∧ M' = M ∧ look T 5 = some (iv k) ∧ look T 0 = some (.slice A n c) ∧ look T 1 = some (.slice B n d) ∧ x.take k = y.take k) n ⟨0, by omega, rfl, by simp, by simp, by simp, by simp⟩ ?_
    rintro m T M' ⟨k, hm, rfl, h4, h0, h1, hk⟩
    by_cases hlt : k < n
    · obtain ⟨id, off, rfl, he, hc⟩ := hx.at_ hlt
      obtain ⟨id', off', rfl, he', hc'⟩ := hy.at_ hlt
      simp (disch := omega) [h4, h0, h1, hlt, wrap_in]
      refine awDraw_E 8 [[],[],[0,1],[2,0,1],[],[],[4,5],[6,4,5],[3,2,0,1,7,6,4,5],[8,3,2,0,1,7,6,4,5]] (by kernel_rfl) (by kernel_rfl) ?_
      simp (disch := omega) [h4, h0, h1, hlt, wrap_in, note_load hc, note_load hc']
      refine awCall_det' (eqNote_a (el x k) (el y k)) (Nat.le_refl _) ?_
      simp
      refine awCond_split ?_ ?_ <;> intro he
      · simp at he
        simp
        exact ⟨fun e => he (by rw [e]), Keeps.refl _⟩
      · simp at he
        simp (disch := omega) [h4, h0, h1, wrap_in]
        refine lpI (m - 1) (by omega) ?_
        exact ⟨k + 1, by omega, rfl, by simp, by simp [h0], by simp [h1], by rw [take_el (by omega), take_el (by omega), hk, he]⟩
    · obtain rfl : k = n := by omega
      rw [List.take_of_length_le (by omega), List.take_of_length_le (by omega)] at hk
      simp [h4, h0, h1, hk, Keeps.refl]
def markNote (z : Int) (i : Nat) : Note := ⟨z + i * 7, z + i * 7 + 1, z + i * 7 + 1 + 1, z + i * 7 + 1 + 1 + 1, z + i * 7 + 1 + 1 + 1 + 1, z + i * 7 + 1 + 1 + 1 + 1 + 1, z + i * 7 + 1 + 1 + 1 + 1 + 1 + 1⟩
def markNoteL (z : Int) (n : Nat) : List Note := (List.range n).map (markNote z)
theorem markNoteL_succ (z : Int) (n : Nat) : markNoteL z (n + 1) = markNoteL z n ++ [markNote z n] := by simp [markNoteL, List.range_succ]
theorem markNoteS_a {M : Mem} {b : Nat} {A : Option Addr} {n c : Nat} {x : List Note} (z : Int) (hx : Sl noteR M A n x) (ho : Ownd M A n) (hb : ∀ a, A = some a → 0 < n → b ≤ a.block) (hn : n ≤ 1099511627776) (hz0 : 0 ≤ z) (hz : z ≤ 1152921504606846976) :
    Ctr Try.prog b 61 [.slice A n c, iv z] M fun v M' => v = iv (z + n * 7) ∧ Sl noteR M' A n (markNoteL z n) ∧ Ownd M' A n ∧ Turned A n M M' := by
  have hlx := hx.1
  rcases Nat.eq_zero_or_pos n with rfl | hp
  · first | (refine ctr_fn Try.func61 rfl Try.ntmps61 Try.results61 rfl rfl (by simp) ?_) | (refine ctr_fnC Try.func61 rfl Try.ntmps61 Try.results61 rfl (by simp) ?_)
    simp
    refine awLoop_T (fun m T M' => M' = M ∧ look T 1 = some (iv z) ∧ look T 5 = some (iv 0) ∧ look T 0 = some (.slice A 0 c)) 0 ⟨rfl, by simp, by simp, by simp⟩ ?_
    rintro m T M' ⟨rfl, h1, h3, h0⟩
    simp [h1, h3, h0]
    obtain rfl := List.eq_nil_of_length_eq_zero hlx
    exact ⟨hx, ho, rfl, fun i s hs _ => hs⟩
  · obtain ⟨id, off, r, rfl, hr, ho⟩ := ho hp
    have hid := (List.getElem?_eq_some_iff.1 hr).1
    obtain ⟨hz5, hlen⟩ := hx.cells hr hp (by omega)
    have hb' : b ≤ id := hb _ rfl hp
    obtain ⟨cs, own, t, e, esz⟩ := r
    simp only at hz5 hlen ho
    subst hz5 ho
    have hM : M = M.set id (.live ⟨cs.take off ++ cellsL noteR (markNoteL z 0) ++ cs.drop (off + 0 * 7), true, t, e, 7⟩) := by
      rw [set_self]
      simp [markNoteL, cellsL_nil, hr]
    first | (refine ctr_fn Try.func61 rfl Try.ntmps61 Try.results61 rfl rfl (by simp) ?_) | (refine ctr_fnC Try.func61 rfl Try.ntmps61 Try.results61 rfl (by simp) ?_)
    simp
    refine awLoop_T (fun m T M' => ∃ j : Nat, j + m = n ∧ M' = M.set id (.live ⟨cs.take off ++ cellsL noteR (markNoteL z j) ++ cs.drop (off + j * 7), true, t, e, 7⟩) ∧ look T 5 = some (iv j) ∧ look T 1 = some (iv (z + j * 7)) ∧ look T 0 = some (.slice (some ⟨id, off, none⟩) n c)) n ⟨0, by omega, hM, by simp, by simp, by simp⟩ ?_
    rintro m T M' ⟨j, hm, rfl, h5, h1, h0⟩
    have hlm : (markNoteL z j).length = j := by simp [markNoteL]
    by_cases hlt : j < n
    · have hsp := splice_mid noteR (cs := cs) (off := off) (a := markNote z j) hlm (by omega)
      have hlc : (cs.take off ++ cellsL noteR (markNoteL z j) ++ cs.drop (off + j * 7)).length = cs.length := by
        simp only [List.length_append, List.length_take, List.length_drop, cellsL_len, hlm]; omega
      generalize cs.take off ++ cellsL noteR (markNoteL z j) ++ cs.drop (off + j * 7) = Cs at hsp hlc ⊢
      simp (disch := first | omega | (simp <;> omega)) [h5, h1, h0, hlt, wrap_in, rowEsz_set hid, put_set hid hb']
      refine lpI (m - 1) (by omega) ?_
      refine ⟨j + 1, by omega, ?_, by simp, by simp; omega, by simp [h0]⟩
      rw [markNoteL_succ, ← hsp]
      rfl
    · obtain rfl : j = n := by omega
      have hS := Sl.set (R := noteR) (M := M) (pre := cs.take off) (post := cs.drop (off + j * 7)) (o := true) (t := t) (e := e) hid (List.length_take_of_le (by omega)) hlm
      have hO : Ownd (M.set id (.live ⟨cs.take off ++ cellsL noteR (markNoteL z j) ++ cs.drop (off + j * 7), true, t, e, 7⟩)) (some ⟨id, off, none⟩) j := fun _ => ⟨_, _, _, rfl, List.getElem?_set_self hid, rfl⟩
      have hT : Turned (some ⟨id, off, none⟩) j M (M.set id (.live ⟨cs.take off ++ cellsL noteR (markNoteL z j) ++ cs.drop (off + j * 7), true, t, e, 7⟩)) := set_turned hp
      generalize M.set id (.live ⟨cs.take off ++ cellsL noteR (markNoteL z j) ++ cs.drop (off + j * 7), true, t, e, 7⟩) = M' at hS hO hT ⊢
      simp [h5, h1, h0]
      exact ⟨hS, hO, hT⟩
theorem heldNoteS_a {M : Mem} {A : Option Addr} {n c : Nat} (z : Int) (hx : Sl noteR M A n (markNoteL z n)) (hn : n ≤ 1099511627776) (hz0 : 0 ≤ z) (hz : z ≤ 1152921504606846976) :
    Det Try.prog M.length 84 [.slice A n c, iv z] M (iv (z + n * 7)) M := by
  first | (refine det_fn Try.func84 rfl Try.ntmps84 Try.results84 rfl rfl rfl (by simp) ?_) | (refine det_fnC Try.func84 rfl Try.ntmps84 Try.results84 rfl rfl (by simp) ?_)
  simp
  refine awLoop_T (fun m T M' => ∃ j : Nat, j + m = n ∧ M' = M ∧ look T 5 = some (iv j) ∧ look T 1 = some (iv (z + j * 7)) ∧ look T 0 = some (.slice A n c)) n ⟨0, by omega, rfl, by simp, by simp, by simp⟩ ?_
  rintro m T M' ⟨j, hm, rfl, h5, h1, h0⟩
  by_cases hlt : j < n
  · obtain ⟨id, off, rfl, he, hc⟩ := hx.at_ hlt
    rw [show el (markNoteL z n) j = markNote z j by simp [markNoteL, el, hlt]] at hc
    obtain ⟨c0, c1, c2, c3, c4, c5, c6⟩ := note_cells hc
    simp (disch := omega) [h5, h1, h0, hlt, wrap_in, c0, c1, c2, c3, c4, c5, c6, markNote]
    refine lpI (m - 1) (by omega) ?_
    exact ⟨j + 1, by omega, rfl, by simp, by simp; omega, by simp [h0]⟩
  · obtain rfl : j = n := by omega
    simp [h5, h1, h0, Keeps.refl]
/-! The same, as the laws use them. -/
theorem sz_NoteS_over {M : Mem} {v : Value} {lo hi : Nat} {l : List Note} {z : Int} (h : RdL noteR lo hi M v l) (hz : 0 ≤ z) (hz1 : z ≤ 1048576) (hl : z < l.length) : Det Try.prog M.length 46 [v, iv z] M (iv (-1)) M := by
  obtain ⟨A, n, c, rfl, hn, hS, _⟩ := h
  have := szNoteS_a (M := M) (A := A) (n := n) (c := c) z hz hz1 (by unfold maxLen; omega)
  rwa [if_pos (by have := hS.1; omega)] at this
theorem sz_NoteS {M : Mem} {v : Value} {lo hi : Nat} {l : List Note} {z : Int} (h : RdL noteR lo hi M v l) (hz : 0 ≤ z) (hz1 : z ≤ 1048576) (hl : l.length ≤ z) : Det Try.prog M.length 46 [v, iv z] M (iv (z - l.length)) M := by
  obtain ⟨A, n, c, rfl, hn, hS, _⟩ := h
  have := szNoteS_a (M := M) (A := A) (n := n) (c := c) z hz hz1 (by unfold maxLen; omega)
  rw [if_neg (by have := hS.1; omega)] at this
  rwa [hS.1]
theorem to_NoteS {M : Mem} {v : Value} {lo hi : Nat} {l : List Note} (h : RdL noteR lo hi M v l) (hl : l.length ≤ 1048576) : Ctr Try.prog M.length 49 [v] M fun v' M' => OwL noteR M.length M'.length M' v' l ∧ Keeps M M' := by
  obtain ⟨A, n, c, rfl, hn, hS, _⟩ := h
  exact (toNoteS_a hS (by have := hS.1; omega)).mono fun v' M' h => h.ow
theorem eq_NoteS {M : Mem} {v w : Value} {lo hi lo' hi' : Nat} {x y : List Note} (hx : OwL noteR lo hi M v x) (hy : RdL noteR lo' hi' M w y) : Det Try.prog M.length 53 [v, w] M (.bool (decide (x = y))) M := by
  obtain ⟨A, n, c, rfl, hn, hS, _⟩ := hx
  obtain ⟨B, m, d, rfl, hm, hT, _⟩ := hy
  exact eqNoteS_a hS hT hn
theorem mark_NoteS {M : Mem} {b : Nat} {v : Value} {lo hi : Nat} {l : List Note} {z : Int} (h : OwL noteR lo hi M v l) (hb : b ≤ lo) (hz : 0 ≤ z) (hz1 : z ≤ 1152921504606846976) :
    Ctr Try.prog b 61 [v, iv z] M fun r M' => r = iv (z + l.length * 7) ∧ OwL noteR lo hi M' v (markNoteL z l.length) ∧ Turn lo hi M M' := by
  obtain ⟨A, n, c, rfl, hn, hS, hi', ho⟩ := h
  exact (markNoteS_a z hS ho (fun a e hp => by have := hi' a e hp; omega) hn hz hz1).mono fun r M' ⟨h1, h2, h3, h4⟩ => ⟨by rw [h1, hS.1], ⟨A, n, c, rfl, hn, by rw [hS.1]; exact h2, hi', h3⟩, Nat.le_of_eq h4.1.symm, fun i s hs hd => h4.2 i s hs fun a e hp => by have := hi' a e hp; omega⟩
theorem held_NoteS {M : Mem} {v : Value} {lo hi m : Nat} {z : Int} (h : OwL noteR lo hi M v (markNoteL z m)) (hz : 0 ≤ z) (hz1 : z ≤ 1152921504606846976) : Det Try.prog M.length 84 [v, iv z] M (iv (z + m * 7)) M := by
  obtain ⟨A, n, c, rfl, hn, hS, _⟩ := h
  have hm : m = n := by have := hS.1; simpa [markNoteL] using this
  subst hm
  exact heldNoteS_a z hS hn hz hz1
end Go.Proofs.Ytgaiejaegimilaa
