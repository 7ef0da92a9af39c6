/- Tempo: records in memory, and the laws' helpers on them. No conditions. -/
import Derived.Test.YtgaiejaegimilaaHFrac
import Derived.Test.YtgaiejaegimilaaB0
import Derived.Test.YtgaiejaegimilaaLA
import Derived.Laws.StructEq
namespace Go.Proofs.Ytgaiejaegimilaa
open Go.RowKit
set_option linter.unusedVariables false
set_option linter.unusedSimpArgs false
set_option maxRecDepth 100000
attribute [local simp] List.getElem?_cons_zero
attribute [local irreducible] awCond awCall awLoop awDraw ow retQ retC resQ Keeps
structure Tempo where
  (bn bd s : Int)
deriving Inhabited, DecidableEq
def Tempo.row (c : Tempo) : List Value := [iv c.bn, iv c.bd, iv c.s]
def tempoR : RecV Tempo 3 := ⟨Tempo.row, fun _ => rfl⟩
abbrev Tempo.v (c : Tempo) : Value := .agg #[iv c.bn, iv c.bd, iv c.s]
theorem tempo_cells {M : Mem} {id off : Nat} {g : Tempo} (h : Cl M id off g.row) : cellAt M id off = some (iv g.bn) ∧ cellAt M id (off + 1) = some (iv g.bd) ∧ cellAt M id (off + 2) = some (iv g.s) :=
  ⟨h 0 _ rfl, h 1 _ rfl, h 2 _ rfl⟩
theorem tempo_load {M : Mem} {id off : Nat} {g : Tempo} (h : Cl M id off g.row) : cellsAt M id off 3 = some [iv g.bn, iv g.bd, iv g.s] := cellsAt_of h rfl (by omega)
theorem tempo_eq {a b : Tempo} : a = b ↔ a.bn = b.bn ∧ a.bd = b.bd ∧ a.s = b.s := by
  cases a; cases b; simp
def tempoI : Ints tempoR := ⟨fun zs => ⟨gi zs 0, gi zs 1, gi zs 2⟩, fun zs h => by
  obtain ⟨x0, x1, x2, rfl⟩ : ∃ x0 x1 x2, zs = [x0, x1, x2] := by
    match zs, h with
    | [x0, x1, x2], _ => exact ⟨x0, x1, x2, rfl⟩
  rfl⟩

/-- Equality of records, as the language has it. -/
theorem tempo_same (a b : Tempo) : aggEq Try.prog 148 #[iv a.bn, iv a.bd, iv a.s] #[iv b.bn, iv b.bd, iv b.s] = some (decide (a = b)) := by
  refine aggEq_of (by kernel_rfl) rfl rfl fun w => ?_
  unfold Op.equal
  rw [show Op.maxDepth = 9999 + 1 from rfl]
  rw [run_equalIn_agg _ _ _ _ _ Try.underlying148 (by kernel_rfl)]
  simp [go_sem]
  repeat' split
  all_goals simp_all [tempo_eq]
theorem tempo_eql (a b : Tempo) : binV Try.prog .eql 148 (.agg #[iv a.bn, iv a.bd, iv a.s]) (.agg #[iv b.bn, iv b.bd, iv b.s]) = some (.bool (decide (a = b))) := by
  simp only [binV, eqV, Try.underlying148, tempo_same, Option.map_some]
theorem tempo_neq (a b : Tempo) : binV Try.prog .neq 148 (.agg #[iv a.bn, iv a.bd, iv a.s]) (.agg #[iv b.bn, iv b.bd, iv b.s]) = some (.bool (!decide (a = b))) := by
  simp only [binV, eqV, Try.underlying148, tempo_same, Option.map_some]
@[simp] theorem tempo_fill (x0 x1 x2 : Int) : Instr.fill (fun i => some (i * 3, 3)) (zrow [iv 0, iv 0, iv 0] 1).toArray [(0, .agg #[iv x0, iv x1, iv x2])] = some #[iv x0, iv x1, iv x2] := fill_agg (by omega) rfl rfl
theorem toTempo_a {M : Mem} (g : Tempo) : Det Try.prog M.length 98 [g.v] M g.v M := by
  first | (refine det_fn Try.func98 rfl Try.ntmps98 Try.results98 rfl rfl rfl (by simp) ?_) | (refine det_fnC Try.func98 rfl Try.ntmps98 Try.results98 rfl rfl (by simp) ?_)
  simp
  refine awCall_det' (toFrac_a ⟨g.bn, g.bd⟩) (by simp) ?_
  simp [keeps_app]
theorem eqTempo_a {M : Mem} (a b : Tempo) : Det Try.prog M.length 104 [a.v, b.v] M (.bool (decide (a = b))) M := by
  first | (refine det_fn Try.func104 rfl Try.ntmps104 Try.results104 rfl rfl rfl (by simp) ?_) | (refine det_fnC Try.func104 rfl Try.ntmps104 Try.results104 rfl rfl (by simp) ?_)
  simp
  refine awCall_det' (eqFrac_a ⟨a.bn, a.bd⟩ ⟨b.bn, b.bd⟩) (by simp) ?_
  by_cases e0 : (⟨a.bn, a.bd⟩ : Frac) = ⟨b.bn, b.bd⟩
  case' neg => simp [e0, keeps_app]; intro e; subst e; exact absurd rfl e0
  simp only [frac_eq] at e0
  simp [e0]
  repeat' (first | (refine awCond_split ?_ ?_ <;> intro _) | (simp [keeps_app]))
  all_goals (simp_all [tempo_eq])
theorem szTempoS_a {M : Mem} {A : Option Addr} {n c : Nat} (z : Int) (hz : 0 ≤ z) (hz1 : z ≤ 1048576) (hn : n ≤ maxLen) : Det Try.prog M.length 54 [.slice A n c, iv z] M (iv (if z - n < 0 then -1 else z - n)) M := by
  unfold maxLen at hn
  first | (refine det_fn Try.func54 rfl Try.ntmps54 Try.results54 rfl rfl rfl (by simp) ?_) | (refine det_fnC Try.func54 rfl Try.ntmps54 Try.results54 rfl rfl (by simp) ?_)
  simp (disch := omega) [wrap_in]
  refine awCond_split ?_ ?_ <;> intro h
  · simp at h
    simp [h, Keeps.refl]
    try omega
  · simp at h
    simp [h, Keeps.refl]
    try omega
theorem toTempoS_d {M : Mem} {A : Option Addr} {n c : Nat} {l : List Tempo} (h : Sl tempoR M A n l) (hn : n ≤ 1099511627776) : Det Try.prog M.length 56 [.slice A n c] M (.slice (some ⟨M.length, 0, none⟩) n n) (M ++ [.live ⟨cellsL tempoR l, true, true, 148, 3⟩]) := by
  have hl := h.1
  refine Ctr.det ?_
  first | (refine ctr_fn Try.func56 rfl Try.ntmps56 Try.results56 rfl rfl (by simp) ?_) | (refine ctr_fnC Try.func56 rfl Try.ntmps56 Try.results56 rfl (by simp) ?_)
  simp
  refine ⟨by omega, ?_⟩
  refine awLoop_T (fun m T M' => ∃ k : Nat, k + m = n ∧ M' = M ++ [.live ⟨cellsL tempoR (l.take k) ++ zrow [iv 0, iv 0, iv 0] m, true, true, 148, 3⟩] ∧ look T 4 = some (iv k) ∧ look T 0 = some (.slice A n c) ∧ look T 3 = some (.slice (some ⟨M.length, 0, none⟩) n n)) n ⟨0, by omega, by simp [cellsL_nil], by simp, by simp, by simp⟩ ?_
  rintro m T M' ⟨k, hm, rfl, h4, h0, h3⟩
  by_cases hlt : k < n
  · obtain ⟨id, off, rfl, he, hc⟩ := h.at_ hlt
    have hc' := hc.app [.live ⟨cellsL tempoR (l.take k) ++ zrow [iv 0, iv 0, iv 0] m, true, true, 148, 3⟩]
    simp (disch := omega) [h3, h4, h0, hlt, wrap_in, tempo_load hc']
    obtain ⟨m, rfl⟩ : ∃ m', m = m' + 1 := ⟨m - 1, by omega⟩
    refine awCall_det' ((toTempo_a (el l k))) (by simp) ⟨by simp, ow_iff.2 ⟨_, putCells_rec tempoR (a := el l k) (Nat.le_refl _) rfl (List.length_take_of_le (by omega)) rfl, ?_⟩⟩
    refine lpI m (by omega) ?_
    refine ⟨k + 1, by omega, by rw [take_el (by omega)], by simp, by simp [h0], by simp [h3]⟩
  · obtain rfl : k = n := by omega
    obtain rfl : m = 0 := by omega
    simp [h3, h4, h0, List.take_of_length_le (Nat.le_of_eq hl)]
theorem toTempoS_a {M : Mem} {A : Option Addr} {n c : Nat} {l : List Tempo} (h : Sl tempoR M A n l) (hn : n ≤ 1099511627776) : Ctr Try.prog M.length 56 [.slice A n c] M fun v M' => Fresh tempoR M v M' l :=
  (toTempoS_d h hn).ctr (Fresh.new h.1 (by omega))
theorem eqTempoS_a {M : Mem} {A B : Option Addr} {n c m d : Nat} {x y : List Tempo} (hx : Sl tempoR M A n x) (hy : Sl tempoR M B m y) (hn : n ≤ 1099511627776) : Det Try.prog M.length 60 [.slice A n c, .slice B m d] M (.bool (decide (x = y))) M := by
  have hlx := hx.1
  have hly := hy.1
  first | (refine det_fn Try.func60 rfl Try.ntmps60 Try.results60 rfl rfl rfl (by simp) ?_) | (refine det_fnC Try.func60 rfl Try.ntmps60 Try.results60 rfl rfl (by simp) ?_)
  simp
  refine awCond_split ?_ ?_ <;> intro hnm
  · simp at hnm
    simp
    exact ⟨fun e => by subst e; omega, Keeps.refl _⟩
  · simp at hnm
    obtain rfl : n = m := by omega
    simp
    refine awLoop_T (fun m T M' => ∃ k : Nat, k + m = n ∧ M' = M ∧ look T 5 = some (iv k) ∧ look T 0 = some (.slice A n c) ∧ look T 1 = some (.slice B n d) ∧ x.take k = y.take k) n ⟨0, by omega, rfl, by simp, by simp, by simp, by simp⟩ ?_
    rintro m T M' ⟨k, hm, rfl, h4, h0, h1, hk⟩
    by_cases hlt : k < n
    · obtain ⟨id, off, rfl, he, hc⟩ := hx.at_ hlt
      obtain ⟨id', off', rfl, he', hc'⟩ := hy.at_ hlt
      simp (disch := omega) [h4, h0, h1, hlt, wrap_in]
      refine awDraw_E 8 [[],[],[0,1],[2,0,1],[],[],[4,5],[6,4,5],[3,2,0,1,7,6,4,5],[8,3,2,0,1,7,6,4,5]] (by kernel_rfl) (by kernel_rfl) ?_
      simp (disch := omega) [h4, h0, h1, hlt, wrap_in, tempo_load hc, tempo_load hc']
      refine awCall_det' (eqTempo_a (el x k) (el y k)) (Nat.le_refl _) ?_
      simp
      refine awCond_split ?_ ?_ <;> intro he
      · simp at he
        simp
        exact ⟨fun e => he (by rw [e]), Keeps.refl _⟩
      · simp at he
        simp (disch := omega) [h4, h0, h1, wrap_in]
        refine lpI (m - 1) (by omega) ?_
        exact ⟨k + 1, by omega, rfl, by simp, by simp [h0], by simp [h1], by rw [take_el (by omega), take_el (by omega), hk, he]⟩
    · obtain rfl : k = n := by omega
      rw [List.take_of_length_le (by omega), List.take_of_length_le (by omega)] at hk
      simp [h4, h0, h1, hk, Keeps.refl]
def markTempo (z : Int) (i : Nat) : Tempo := ⟨z + i * 3, z + i * 3 + 1, z + i * 3 + 1 + 1⟩
def markTempoL (z : Int) (n : Nat) : List Tempo := (List.range n).map (markTempo z)
theorem markTempoL_succ (z : Int) (n : Nat) : markTempoL z (n + 1) = markTempoL z n ++ [markTempo z n] := by simp [markTempoL, List.range_succ]
theorem markTempoS_a {M : Mem} {b : Nat} {A : Option Addr} {n c : Nat} {x : List Tempo} (z : Int) (hx : Sl tempoR M A n x) (ho : Ownd M A n) (hb : ∀ a, A = some a → 0 < n → b ≤ a.block) (hn : n ≤ 1099511627776) (hz0 : 0 ≤ z) (hz : z ≤ 1152921504606846976) :
    Ctr Try.prog b 62 [.slice A n c, iv z] M fun v M' => v = iv (z + n * 3) ∧ Sl tempoR M' A n (markTempoL z n) ∧ Ownd M' A n ∧ Turned A n M M' := by
  have hlx := hx.1
  rcases Nat.eq_zero_or_pos n with rfl | hp
  · first | (refine ctr_fn Try.func62 rfl Try.ntmps62 Try.results62 rfl rfl (by simp) ?_) | (refine ctr_fnC Try.func62 rfl Try.ntmps62 Try.results62 rfl (by simp) ?_)
    simp
    refine awLoop_T (fun m T M' => M' = M ∧ look T 1 = some (iv z) ∧ look T 5 = some (iv 0) ∧ look T 0 = some (.slice A 0 c)) 0 ⟨rfl, by simp, by simp, by simp⟩ ?_
    rintro m T M' ⟨rfl, h1, h3, h0⟩
    simp [h1, h3, h0]
    obtain rfl := List.eq_nil_of_length_eq_zero hlx
    exact ⟨hx, ho, rfl, fun i s hs _ => hs⟩
  · obtain ⟨id, off, r, rfl, hr, ho⟩ := ho hp
    have hid := (List.getElem?_eq_some_iff.1 hr).1
    obtain ⟨hz5, hlen⟩ := hx.cells hr hp (by omega)
    have hb' : b ≤ id := hb _ rfl hp
    obtain ⟨cs, own, t, e, esz⟩ := r
    simp only at hz5 hlen ho
    subst hz5 ho
    have hM : M = M.set id (.live ⟨cs.take off ++ cellsL tempoR (markTempoL z 0) ++ cs.drop (off + 0 * 3), true, t, e, 3⟩) := by
      rw [set_self]
      simp [markTempoL, cellsL_nil, hr]
    first | (refine ctr_fn Try.func62 rfl Try.ntmps62 Try.results62 rfl rfl (by simp) ?_) | (refine ctr_fnC Try.func62 rfl Try.ntmps62 Try.results62 rfl (by simp) ?_)
    simp
    refine awLoop_T (fun m T M' => ∃ j : Nat, j + m = n ∧ M' = M.set id (.live ⟨cs.take off ++ cellsL tempoR (markTempoL z j) ++ cs.drop (off + j * 3), true, t, e, 3⟩) ∧ look T 5 = some (iv j) ∧ look T 1 = some (iv (z + j * 3)) ∧ look T 0 = some (.slice (some ⟨id, off, none⟩) n c)) n ⟨0, by omega, hM, by simp, by simp, by simp⟩ ?_
    rintro m T M' ⟨j, hm, rfl, h5, h1, h0⟩
    have hlm : (markTempoL z j).length = j := by simp [markTempoL]
    by_cases hlt : j < n
    · have hsp := splice_mid tempoR (cs := cs) (off := off) (a := markTempo z j) hlm (by omega)
      have hlc : (cs.take off ++ cellsL tempoR (markTempoL z j) ++ cs.drop (off + j * 3)).length = cs.length := by
        simp only [List.length_append, List.length_take, List.length_drop, cellsL_len, hlm]; omega
      generalize cs.take off ++ cellsL tempoR (markTempoL z j) ++ cs.drop (off + j * 3) = Cs at hsp hlc ⊢
      simp (disch := first | omega | (simp <;> omega)) [h5, h1, h0, hlt, wrap_in, rowEsz_set hid, put_set hid hb']
      refine lpI (m - 1) (by omega) ?_
      refine ⟨j + 1, by omega, ?_, by simp, by simp; omega, by simp [h0]⟩
      rw [markTempoL_succ, ← hsp]
      rfl
    · obtain rfl : j = n := by omega
      have hS := Sl.set (R := tempoR) (M := M) (pre := cs.take off) (post := cs.drop (off + j * 3)) (o := true) (t := t) (e := e) hid (List.length_take_of_le (by omega)) hlm
      have hO : Ownd (M.set id (.live ⟨cs.take off ++ cellsL tempoR (markTempoL z j) ++ cs.drop (off + j * 3), true, t, e, 3⟩)) (some ⟨id, off, none⟩) j := fun _ => ⟨_, _, _, rfl, List.getElem?_set_self hid, rfl⟩
      have hT : Turned (some ⟨id, off, none⟩) j M (M.set id (.live ⟨cs.take off ++ cellsL tempoR (markTempoL z j) ++ cs.drop (off + j * 3), true, t, e, 3⟩)) := set_turned hp
      generalize M.set id (.live ⟨cs.take off ++ cellsL tempoR (markTempoL z j) ++ cs.drop (off + j * 3), true, t, e, 3⟩) = M' at hS hO hT ⊢
      simp [h5, h1, h0]
      exact ⟨hS, hO, hT⟩
/-! The same, as the laws use them. -/
theorem sz_TempoS_over {M : Mem} {v : Value} {lo hi : Nat} {l : List Tempo} {z : Int} (h : RdL tempoR lo hi M v l) (hz : 0 ≤ z) (hz1 : z ≤ 1048576) (hl : z < l.length) : Det Try.prog M.length 54 [v, iv z] M (iv (-1)) M := by
  obtain ⟨A, n, c, rfl, hn, hS, _⟩ := h
  have := szTempoS_a (M := M) (A := A) (n := n) (c := c) z hz hz1 (by unfold maxLen; omega)
  rwa [if_pos (by have := hS.1; omega)] at this
theorem sz_TempoS {M : Mem} {v : Value} {lo hi : Nat} {l : List Tempo} {z : Int} (h : RdL tempoR lo hi M v l) (hz : 0 ≤ z) (hz1 : z ≤ 1048576) (hl : l.length ≤ z) : Det Try.prog M.length 54 [v, iv z] M (iv (z - l.length)) M := by
  obtain ⟨A, n, c, rfl, hn, hS, _⟩ := h
  have := szTempoS_a (M := M) (A := A) (n := n) (c := c) z hz hz1 (by unfold maxLen; omega)
  rw [if_neg (by have := hS.1; omega)] at this
  rwa [hS.1]
theorem to_TempoS {M : Mem} {v : Value} {lo hi : Nat} {l : List Tempo} (h : RdL tempoR lo hi M v l) (hl : l.length ≤ 1048576) : Ctr Try.prog M.length 56 [v] M fun v' M' => OwL tempoR M.length M'.length M' v' l ∧ Keeps M M' := by
  obtain ⟨A, n, c, rfl, hn, hS, _⟩ := h
  exact (toTempoS_a hS (by have := hS.1; omega)).mono fun v' M' h => h.ow
theorem eq_TempoS {M : Mem} {v w : Value} {lo hi lo' hi' : Nat} {x y : List Tempo} (hx : OwL tempoR lo hi M v x) (hy : RdL tempoR lo' hi' M w y) : Det Try.prog M.length 60 [v, w] M (.bool (decide (x = y))) M := by
  obtain ⟨A, n, c, rfl, hn, hS, _⟩ := hx
  obtain ⟨B, m, d, rfl, hm, hT, _⟩ := hy
  exact eqTempoS_a hS hT hn
theorem mark_TempoS {M : Mem} {b : Nat} {v : Value} {lo hi : Nat} {l : List Tempo} {z : Int} (h : OwL tempoR lo hi M v l) (hb : b ≤ lo) (hz : 0 ≤ z) (hz1 : z ≤ 1152921504606846976) :
    Ctr Try.prog b 62 [v, iv z] M fun r M' => r = iv (z + l.length * 3) ∧ OwL tempoR lo hi M' v (markTempoL z l.length) ∧ Turn lo hi M M' := by
  obtain ⟨A, n, c, rfl, hn, hS, hi', ho⟩ := h
  exact (markTempoS_a z hS ho (fun a e hp => by have := hi' a e hp; omega) hn hz hz1).mono fun r M' ⟨h1, h2, h3, h4⟩ => ⟨by rw [h1, hS.1], ⟨A, n, c, rfl, hn, by rw [hS.1]; exact h2, hi', h3⟩, Nat.le_of_eq h4.1.symm, fun i s hs hd => h4.2 i s hs fun a e hp => by have := hi' a e hp; omega⟩
end Go.Proofs.Ytgaiejaegimilaa
