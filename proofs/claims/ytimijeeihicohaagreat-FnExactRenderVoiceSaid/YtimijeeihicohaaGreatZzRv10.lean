/- Parts of the proof, together: Segment: records in memory, and the laws' helpers on them. Nodes, patches, envelopes, instruments in memory. Nodes: the laws' helpers. Lists of nodes: the laws' helpers. Patches, envelopes, instruments: the laws' helpers. Instruments: the program's tests of nodes, tables, envelopes. No conditions. -/
import Derived.Test.YtimijeeihicohaaGreatZzRv9
import Derived.Laws.StructEq
namespace Go.Proofs.YtimijeeihicohaaGreat
open Go.RowKit
set_option linter.unusedVariables false
set_option linter.unusedSimpArgs false
set_option maxRecDepth 100000
attribute [local simp] List.getElem?_cons_zero
attribute [local irreducible] awCond awCall awLoop awDraw ow retQ retC resQ Keeps
structure Segment where
  (ln tg : Int)
deriving Inhabited, DecidableEq
def Segment.row (c : Segment) : List Value := [iv c.ln, iv c.tg]
def segmentR : RecV Segment 2 := ⟨Segment.row, fun _ => rfl⟩
abbrev Segment.v (c : Segment) : Value := .agg #[iv c.ln, iv c.tg]
theorem segment_cells {M : Mem} {id off : Nat} {g : Segment} (h : Cl M id off g.row) : cellAt M id off = some (iv g.ln) ∧ cellAt M id (off + 1) = some (iv g.tg) :=
  ⟨h 0 _ rfl, h 1 _ rfl⟩
theorem segment_load {M : Mem} {id off : Nat} {g : Segment} (h : Cl M id off g.row) : cellsAt M id off 2 = some [iv g.ln, iv g.tg] := cellsAt_of h rfl (by omega)
theorem segment_eq {a b : Segment} : a = b ↔ a.ln = b.ln ∧ a.tg = b.tg := by
  cases a; cases b; simp
def segmentI : Ints segmentR := ⟨fun zs => ⟨gi zs 0, gi zs 1⟩, fun zs h => by
  obtain ⟨x0, x1, rfl⟩ : ∃ x0 x1, zs = [x0, x1] := by
    match zs, h with
    | [x0, x1], _ => exact ⟨x0, x1, rfl⟩
  rfl⟩

/-- Equality of records, as the language has it. -/
theorem segment_same (a b : Segment) : aggEq Tryz.prog 201 #[iv a.ln, iv a.tg] #[iv b.ln, iv b.tg] = some (decide (a = b)) := by
  refine aggEq_of (by kernel_rfl) rfl rfl fun w => ?_
  unfold Op.equal
  rw [show Op.maxDepth = 9999 + 1 from rfl]
  rw [run_equalIn_agg _ _ _ _ _ Tryz.underlying201 (by kernel_rfl)]
  simp [go_sem]
  repeat' split
  all_goals simp_all [segment_eq]
theorem segment_eql (a b : Segment) : binV Tryz.prog .eql 201 (.agg #[iv a.ln, iv a.tg]) (.agg #[iv b.ln, iv b.tg]) = some (.bool (decide (a = b))) := by
  simp only [binV, eqV, Tryz.underlying201, segment_same, Option.map_some]
theorem segment_neq (a b : Segment) : binV Tryz.prog .neq 201 (.agg #[iv a.ln, iv a.tg]) (.agg #[iv b.ln, iv b.tg]) = some (.bool (!decide (a = b))) := by
  simp only [binV, eqV, Tryz.underlying201, segment_same, Option.map_some]
@[simp] theorem segment_fill (x0 x1 : Int) : Instr.fill (fun i => some (i * 2, 2)) (zrow [iv 0, iv 0] 1).toArray [(0, .agg #[iv x0, iv x1])] = some #[iv x0, iv x1] := fill_agg (by omega) rfl rfl
theorem toSegment_a {M : Mem} (g : Segment) : Det Tryz.prog M.length 139 [g.v] M g.v M := by
  first | (refine det_fn Tryz.func139 rfl Tryz.ntmps139 Tryz.results139 rfl rfl rfl (by simp) ?_) | (refine det_fnC Tryz.func139 rfl Tryz.ntmps139 Tryz.results139 rfl rfl (by simp) ?_)
  simp [keeps_app]
theorem eqSegment_a {M : Mem} (a b : Segment) : Det Tryz.prog M.length 145 [a.v, b.v] M (.bool (decide (a = b))) M := by
  first | (refine det_fn Tryz.func145 rfl Tryz.ntmps145 Tryz.results145 rfl rfl rfl (by simp) ?_) | (refine det_fnC Tryz.func145 rfl Tryz.ntmps145 Tryz.results145 rfl rfl (by simp) ?_)
  simp
  repeat' (first | (refine awCond_split ?_ ?_ <;> intro _) | (simp [keeps_app]))
  all_goals (simp_all [segment_eq])
theorem szSegmentS_a {M : Mem} {A : Option Addr} {n c : Nat} (z : Int) (hz : 0 ≤ z) (hz1 : z ≤ 1048576) (hn : n ≤ maxLen) : Det Tryz.prog M.length 80 [.slice A n c, iv z] M (iv (if z - n < 0 then -1 else z - n)) M := by
  unfold maxLen at hn
  first | (refine det_fn Tryz.func80 rfl Tryz.ntmps80 Tryz.results80 rfl rfl rfl (by simp) ?_) | (refine det_fnC Tryz.func80 rfl Tryz.ntmps80 Tryz.results80 rfl rfl (by simp) ?_)
  simp (disch := omega) [wrap_in]
  refine awCond_split ?_ ?_ <;> intro h
  · simp at h
    simp [h, Keeps.refl]
    try omega
  · simp at h
    simp [h, Keeps.refl]
    try omega
theorem toSegmentS_d {M : Mem} {A : Option Addr} {n c : Nat} {l : List Segment} (h : Sl segmentR M A n l) (hn : n ≤ 1099511627776) : Det Tryz.prog M.length 89 [.slice A n c] M (.slice (some ⟨M.length, 0, none⟩) n n) (M ++ [.live ⟨cellsL segmentR l, true, true, 201, 2⟩]) := by
  have hl := h.1
  refine Ctr.det ?_
  first | (refine ctr_fn Tryz.func89 rfl Tryz.ntmps89 Tryz.results89 rfl rfl (by simp) ?_) | (refine ctr_fnC Tryz.func89 rfl Tryz.ntmps89 Tryz.results89 rfl (by simp) ?_)
  simp
  refine ⟨by omega, ?_⟩
  refine awLoop_T (fun m T M' => ∃ k : Nat, k + m = n ∧ M' = M ++ [.live ⟨cellsL segmentR (l.take k) ++ zrow [iv 0, iv 0] m, true, true, 201, 2⟩] ∧ look T 4 = some (iv k) ∧ look T 0 = some (.slice A n c) ∧ look T 3 = some (.slice (some ⟨M.length, 0, none⟩) n n)) n ⟨0, by omega, by simp [cellsL_nil], by simp, by simp, by simp⟩ ?_
  rintro m T M' ⟨k, hm, rfl, h4, h0, h3⟩
  by_cases hlt : k < n
  · obtain ⟨id, off, rfl, he, hc⟩ := h.at_ hlt
    have hc' := hc.app [.live ⟨cellsL segmentR (l.take k) ++ zrow [iv 0, iv 0] m, true, true, 201, 2⟩]
    simp (disch := omega) [h3, h4, h0, hlt, wrap_in, segment_load hc']
    obtain ⟨m, rfl⟩ : ∃ m', m = m' + 1 := ⟨m - 1, by omega⟩
    refine awCall_det' ((toSegment_a (el l k))) (by simp) ⟨by simp, ow_iff.2 ⟨_, putCells_rec segmentR (a := el l k) (Nat.le_refl _) rfl (List.length_take_of_le (by omega)) rfl, ?_⟩⟩
    refine lpI m (by omega) ?_
    refine ⟨k + 1, by omega, by rw [take_el (by omega)], by simp, by simp [h0], by simp [h3]⟩
  · obtain rfl : k = n := by omega
    obtain rfl : m = 0 := by omega
    simp [h3, h4, h0, List.take_of_length_le (Nat.le_of_eq hl)]
theorem toSegmentS_a {M : Mem} {A : Option Addr} {n c : Nat} {l : List Segment} (h : Sl segmentR M A n l) (hn : n ≤ 1099511627776) : Ctr Tryz.prog M.length 89 [.slice A n c] M fun v M' => Fresh segmentR M v M' l :=
  (toSegmentS_d h hn).ctr (Fresh.new h.1 (by omega))
theorem eqSegmentS_a {M : Mem} {A B : Option Addr} {n c m d : Nat} {x y : List Segment} (hx : Sl segmentR M A n x) (hy : Sl segmentR M B m y) (hn : n ≤ 1099511627776) : Det Tryz.prog M.length 96 [.slice A n c, .slice B m d] M (.bool (decide (x = y))) M := by
  have hlx := hx.1
  have hly := hy.1
  first | (refine det_fn Tryz.func96 rfl Tryz.ntmps96 Tryz.results96 rfl rfl rfl (by simp) ?_) | (refine det_fnC Tryz.func96 rfl Tryz.ntmps96 Tryz.results96 rfl rfl (by simp) ?_)
  simp
  refine awCond_split ?_ ?_ <;> intro hnm
  · simp at hnm
    simp
    exact ⟨fun e => by subst e; omega, Keeps.refl _⟩
  · simp at hnm
    obtain rfl : n = m := by omega
    simp
    refine awLoop_T (fun m T M' => ∃ k : Nat, k + m = n ∧ M' = M ∧ look T 5 = some (iv k) ∧ look T 0 = some (.slice A n c) ∧ look T 1 = some (.slice B n d) ∧ x.take k = y.take k) n ⟨0, by omega, rfl, by simp, by simp, by simp, by simp⟩ ?_
    rintro m T M' ⟨k, hm, rfl, h4, h0, h1, hk⟩
    by_cases hlt : k < n
    · obtain ⟨id, off, rfl, he, hc⟩ := hx.at_ hlt
      obtain ⟨id', off', rfl, he', hc'⟩ := hy.at_ hlt
      simp (disch := omega) [h4, h0, h1, hlt, wrap_in]
      refine awDraw_E 8 [[],[],[0,1],[2,0,1],[],[],[4,5],[6,4,5],[3,2,0,1,7,6,4,5],[8,3,2,0,1,7,6,4,5]] (by kernel_rfl) (by kernel_rfl) ?_
      simp (disch := omega) [h4, h0, h1, hlt, wrap_in, segment_load hc, segment_load hc']
      refine awCall_det' (eqSegment_a (el x k) (el y k)) (Nat.le_refl _) ?_
      simp
      refine awCond_split ?_ ?_ <;> intro he
      · simp at he
        simp
        exact ⟨fun e => he (by rw [e]), Keeps.refl _⟩
      · simp at he
        simp (disch := omega) [h4, h0, h1, wrap_in]
        refine lpI (m - 1) (by omega) ?_
        exact ⟨k + 1, by omega, rfl, by simp, by simp [h0], by simp [h1], by rw [take_el (by omega), take_el (by omega), hk, he]⟩
    · obtain rfl : k = n := by omega
      rw [List.take_of_length_le (by omega), List.take_of_length_le (by omega)] at hk
      simp [h4, h0, h1, hk, Keeps.refl]
def markSegment (z : Int) (i : Nat) : Segment := ⟨z + i * 2, z + i * 2 + 1⟩
def markSegmentL (z : Int) (n : Nat) : List Segment := (List.range n).map (markSegment z)
theorem markSegmentL_succ (z : Int) (n : Nat) : markSegmentL z (n + 1) = markSegmentL z n ++ [markSegment z n] := by simp [markSegmentL, List.range_succ]
theorem markSegmentS_a {M : Mem} {b : Nat} {A : Option Addr} {n c : Nat} {x : List Segment} (z : Int) (hx : Sl segmentR M A n x) (ho : Ownd M A n) (hb : ∀ a, A = some a → 0 < n → b ≤ a.block) (hn : n ≤ 1099511627776) (hz0 : 0 ≤ z) (hz : z ≤ 1152921504606846976) :
    Ctr Tryz.prog b 98 [.slice A n c, iv z] M fun v M' => v = iv (z + n * 2) ∧ Sl segmentR M' A n (markSegmentL z n) ∧ Ownd M' A n ∧ Turned A n M M' := by
  have hlx := hx.1
  rcases Nat.eq_zero_or_pos n with rfl | hp
  · first | (refine ctr_fn Tryz.func98 rfl Tryz.ntmps98 Tryz.results98 rfl rfl (by simp) ?_) | (refine ctr_fnC Tryz.func98 rfl Tryz.ntmps98 Tryz.results98 rfl (by simp) ?_)
    simp
    refine awLoop_T (fun m T M' => M' = M ∧ look T 1 = some (iv z) ∧ look T 5 = some (iv 0) ∧ look T 0 = some (.slice A 0 c)) 0 ⟨rfl, by simp, by simp, by simp⟩ ?_
    rintro m T M' ⟨rfl, h1, h3, h0⟩
    simp [h1, h3, h0]
    obtain rfl := List.eq_nil_of_length_eq_zero hlx
    exact ⟨hx, ho, rfl, fun i s hs _ => hs⟩
  · obtain ⟨id, off, r, rfl, hr, ho⟩ := ho hp
    have hid := (List.getElem?_eq_some_iff.1 hr).1
    obtain ⟨hz5, hlen⟩ := hx.cells hr hp (by omega)
    have hb' : b ≤ id := hb _ rfl hp
    obtain ⟨cs, own, t, e, esz⟩ := r
    simp only at hz5 hlen ho
    subst hz5 ho
    have hM : M = M.set id (.live ⟨cs.take off ++ cellsL segmentR (markSegmentL z 0) ++ cs.drop (off + 0 * 2), true, t, e, 2⟩) := by
      rw [set_self]
      simp [markSegmentL, cellsL_nil, hr]
    first | (refine ctr_fn Tryz.func98 rfl Tryz.ntmps98 Tryz.results98 rfl rfl (by simp) ?_) | (refine ctr_fnC Tryz.func98 rfl Tryz.ntmps98 Tryz.results98 rfl (by simp) ?_)
    simp
    refine awLoop_T (fun m T M' => ∃ j : Nat, j + m = n ∧ M' = M.set id (.live ⟨cs.take off ++ cellsL segmentR (markSegmentL z j) ++ cs.drop (off + j * 2), true, t, e, 2⟩) ∧ look T 5 = some (iv j) ∧ look T 1 = some (iv (z + j * 2)) ∧ look T 0 = some (.slice (some ⟨id, off, none⟩) n c)) n ⟨0, by omega, hM, by simp, by simp, by simp⟩ ?_
    rintro m T M' ⟨j, hm, rfl, h5, h1, h0⟩
    have hlm : (markSegmentL z j).length = j := by simp [markSegmentL]
    by_cases hlt : j < n
    · have hsp := splice_mid segmentR (cs := cs) (off := off) (a := markSegment z j) hlm (by omega)
      have hlc : (cs.take off ++ cellsL segmentR (markSegmentL z j) ++ cs.drop (off + j * 2)).length = cs.length := by
        simp only [List.length_append, List.length_take, List.length_drop, cellsL_len, hlm]; omega
      generalize cs.take off ++ cellsL segmentR (markSegmentL z j) ++ cs.drop (off + j * 2) = Cs at hsp hlc ⊢
      simp (disch := first | omega | (simp <;> omega)) [h5, h1, h0, hlt, wrap_in, rowEsz_set hid, put_set hid hb']
      refine lpI (m - 1) (by omega) ?_
      refine ⟨j + 1, by omega, ?_, by simp, by simp; omega, by simp [h0]⟩
      rw [markSegmentL_succ, ← hsp]
      rfl
    · obtain rfl : j = n := by omega
      have hS := Sl.set (R := segmentR) (M := M) (pre := cs.take off) (post := cs.drop (off + j * 2)) (o := true) (t := t) (e := e) hid (List.length_take_of_le (by omega)) hlm
      have hO : Ownd (M.set id (.live ⟨cs.take off ++ cellsL segmentR (markSegmentL z j) ++ cs.drop (off + j * 2), true, t, e, 2⟩)) (some ⟨id, off, none⟩) j := fun _ => ⟨_, _, _, rfl, List.getElem?_set_self hid, rfl⟩
      have hT : Turned (some ⟨id, off, none⟩) j M (M.set id (.live ⟨cs.take off ++ cellsL segmentR (markSegmentL z j) ++ cs.drop (off + j * 2), true, t, e, 2⟩)) := set_turned hp
      generalize M.set id (.live ⟨cs.take off ++ cellsL segmentR (markSegmentL z j) ++ cs.drop (off + j * 2), true, t, e, 2⟩) = M' at hS hO hT ⊢
      simp [h5, h1, h0]
      exact ⟨hS, hO, hT⟩
/-! The same, as the laws use them. -/
theorem sz_SegmentS_over {M : Mem} {v : Value} {lo hi : Nat} {l : List Segment} {z : Int} (h : RdL segmentR lo hi M v l) (hz : 0 ≤ z) (hz1 : z ≤ 1048576) (hl : z < l.length) : Det Tryz.prog M.length 80 [v, iv z] M (iv (-1)) M := by
  obtain ⟨A, n, c, rfl, hn, hS, _⟩ := h
  have := szSegmentS_a (M := M) (A := A) (n := n) (c := c) z hz hz1 (by unfold maxLen; omega)
  rwa [if_pos (by have := hS.1; omega)] at this
theorem sz_SegmentS {M : Mem} {v : Value} {lo hi : Nat} {l : List Segment} {z : Int} (h : RdL segmentR lo hi M v l) (hz : 0 ≤ z) (hz1 : z ≤ 1048576) (hl : l.length ≤ z) : Det Tryz.prog M.length 80 [v, iv z] M (iv (z - l.length)) M := by
  obtain ⟨A, n, c, rfl, hn, hS, _⟩ := h
  have := szSegmentS_a (M := M) (A := A) (n := n) (c := c) z hz hz1 (by unfold maxLen; omega)
  rw [if_neg (by have := hS.1; omega)] at this
  rwa [hS.1]
theorem to_SegmentS {M : Mem} {v : Value} {lo hi : Nat} {l : List Segment} (h : RdL segmentR lo hi M v l) (hl : l.length ≤ 1048576) : Ctr Tryz.prog M.length 89 [v] M fun v' M' => OwL segmentR M.length M'.length M' v' l ∧ Keeps M M' := by
  obtain ⟨A, n, c, rfl, hn, hS, _⟩ := h
  exact (toSegmentS_a hS (by have := hS.1; omega)).mono fun v' M' h => h.ow
theorem eq_SegmentS {M : Mem} {v w : Value} {lo hi lo' hi' : Nat} {x y : List Segment} (hx : OwL segmentR lo hi M v x) (hy : RdL segmentR lo' hi' M w y) : Det Tryz.prog M.length 96 [v, w] M (.bool (decide (x = y))) M := by
  obtain ⟨A, n, c, rfl, hn, hS, _⟩ := hx
  obtain ⟨B, m, d, rfl, hm, hT, _⟩ := hy
  exact eqSegmentS_a hS hT hn
theorem mark_SegmentS {M : Mem} {b : Nat} {v : Value} {lo hi : Nat} {l : List Segment} {z : Int} (h : OwL segmentR lo hi M v l) (hb : b ≤ lo) (hz : 0 ≤ z) (hz1 : z ≤ 1152921504606846976) :
    Ctr Tryz.prog b 98 [v, iv z] M fun r M' => r = iv (z + l.length * 2) ∧ OwL segmentR lo hi M' v (markSegmentL z l.length) ∧ Turn lo hi M M' := by
  obtain ⟨A, n, c, rfl, hn, hS, hi', ho⟩ := h
  exact (markSegmentS_a z hS ho (fun a e hp => by have := hi' a e hp; omega) hn hz hz1).mono fun r M' ⟨h1, h2, h3, h4⟩ => ⟨by rw [h1, hS.1], ⟨A, n, c, rfl, hn, by rw [hS.1]; exact h2, hi', h3⟩, Nat.le_of_eq h4.1.symm, fun i s hs hd => h4.2 i s hs fun a e hp => by have := hi' a e hp; omega⟩
end Go.Proofs.YtimijeeihicohaaGreat

namespace Go.Proofs.YtimijeeihicohaaGreat
open Go.RowKit
set_option linter.unusedVariables false
set_option linter.unusedSimpArgs false
set_option maxRecDepth 100000
attribute [local simp] List.getElem?_cons_zero
attribute [local irreducible] awCond awCall awLoop awDraw ow retQ retC resQ Keeps
structure Node where
  (k a b : Int)
  from_ : List Int
deriving Inhabited, DecidableEq
structure Patch where
  inp : Int
  tabs : List (List Int)
  nodes : List Node
  outs : List Int
deriving Inhabited, DecidableEq
structure Envl where
  st : Int
  segs : List Segment
  rel : Int
deriving Inhabited, DecidableEq
structure Inst where
  pat : Patch
  env : Envl
  steps : List Int
deriving Inhabited, DecidableEq
def nodeP : RecP Node 4 where
  rd := fun lo hi M x vs => ∃ u, vs = [iv x.k, iv x.a, iv x.b, u] ∧ SlV intP lo hi M u x.from_
  len := fun ⟨u, h, _⟩ => by rw [h]; rfl
  agree := fun ⟨u, h1, h2⟩ hg => ⟨u, h1, h2.agree hg⟩
  wide := fun ⟨u, h1, h2⟩ a b => ⟨u, h1, h2.wide a b⟩
def patchP : RecP Patch 4 where
  rd := fun lo hi M x vs => ∃ u v w, vs = [iv x.inp, u, v, w] ∧ SlV tabP lo hi M u x.tabs ∧ SlV nodeP lo hi M v x.nodes ∧ SlV intP lo hi M w x.outs
  len := fun ⟨u, v, w, h, _⟩ => by rw [h]; rfl
  agree := fun ⟨u, v, w, h1, h2, h3, h4⟩ hg => ⟨u, v, w, h1, h2.agree hg, h3.agree hg, h4.agree hg⟩
  wide := fun ⟨u, v, w, h1, h2, h3, h4⟩ a b => ⟨u, v, w, h1, h2.wide a b, h3.wide a b, h4.wide a b⟩
abbrev segP : RecP Segment 2 := .flat segmentR
def envP : RecP Envl 3 where
  rd := fun lo hi M x vs => ∃ u, vs = [iv x.st, u, iv x.rel] ∧ SlV segP lo hi M u x.segs
  len := fun ⟨u, h, _⟩ => by rw [h]; rfl
  agree := fun ⟨u, h1, h2⟩ hg => ⟨u, h1, h2.agree hg⟩
  wide := fun ⟨u, h1, h2⟩ a b => ⟨u, h1, h2.wide a b⟩
def instP : RecP Inst 8 where
  rd := fun lo hi M x vs => ∃ ps es u, vs = ps ++ es ++ [u] ∧ patchP.rd lo hi M x.pat ps ∧ envP.rd lo hi M x.env es ∧ SlV intP lo hi M u x.steps
  len := fun ⟨ps, es, u, h, h1, h2, _⟩ => by rw [h, List.length_append, List.length_append, patchP.len h1, envP.len h2]; rfl
  agree := fun ⟨ps, es, u, h, h1, h2, h3⟩ hg => ⟨ps, es, u, h, patchP.agree h1 hg, envP.agree h2 hg, h3.agree hg⟩
  wide := fun ⟨ps, es, u, h, h1, h2, h3⟩ a b => ⟨ps, es, u, h, patchP.wide h1 a b, envP.wide h2 a b, h3.wide a b⟩
theorem Good.imp {H : Type} {enc : TypeId × Value → H} {α : Type} {k : Nat} {t : TypeId} {P Q : RecP α k} (h : Good enc t P) (hi : ∀ lo hi M a vs, P.rd lo hi M a vs → Q.rd lo hi M a vs) : Good enc t Q := fun W n cs d p hf hp => (h W n cs d p hf hp).mono fun M vs ⟨a, ha⟩ => ⟨a, hi _ _ _ _ _ ha⟩
section
variable {H : Type} {enc : TypeId × Value → H}
theorem good_i64 : Good enc 2 intP := good_int Tryz.underlying2
theorem good_ints : Good enc 24 (RecP.sl intP) := good_sl Tryz.underlying24 (by kernel_rfl) (by omega) trivial good_i64
theorem good_tabs : Good enc 22 (RecP.sl tabP) := good_sl Tryz.underlying22 (by kernel_rfl) (by omega) trivial good_ints
theorem good_node : Good enc 193 nodeP := by
  refine (good_map (fun n : Node => (n.k, n.a, n.b, n.from_, ())) (fun x => ⟨x.1, x.2.1, x.2.2.1, x.2.2.2.1⟩) (fun x => rfl) (good_struct Tryz.underlying193 (by kernel_rfl) (.cons rfl (by kernel_rfl) good_i64 (.cons rfl (by kernel_rfl) good_i64 (.cons rfl (by kernel_rfl) good_i64 (.cons rfl (by kernel_rfl) good_ints .nil)))))).imp ?_
  rintro lo hi M a vs ⟨_, _, rfl, rfl, _, _, rfl, rfl, _, _, rfl, rfl, _, _, rfl, ⟨u, rfl, h⟩, rfl⟩
  exact ⟨u, rfl, h⟩
theorem good_seg : Good enc 203 segP := by
  refine (good_map (fun n : Segment => (n.ln, n.tg, ())) (fun x => ⟨x.1, x.2.1⟩) (fun x => rfl) (good_struct Tryz.underlying203 (by kernel_rfl) (.cons rfl (by kernel_rfl) good_i64 (.cons rfl (by kernel_rfl) good_i64 .nil)))).imp ?_
  rintro lo hi M a vs ⟨_, _, rfl, rfl, _, _, rfl, rfl, rfl⟩
  rfl
theorem good_patch : Good enc 26 patchP := by
  refine (good_map (fun n : Patch => (n.inp, n.tabs, n.nodes, n.outs, ())) (fun x => ⟨x.1, x.2.1, x.2.2.1, x.2.2.2.1⟩) (fun x => rfl) (good_struct Tryz.underlying26 (by kernel_rfl) (.cons rfl (by kernel_rfl) good_i64 (.cons rfl (by kernel_rfl) good_tabs (.cons rfl (by kernel_rfl) (good_sl Tryz.underlying23 (by kernel_rfl) (by omega) trivial good_node) (.cons rfl (by kernel_rfl) good_ints .nil)))))).imp ?_
  rintro lo hi M a vs ⟨_, _, rfl, rfl, _, _, rfl, ⟨u, rfl, h1⟩, _, _, rfl, ⟨v, rfl, h2⟩, _, _, rfl, ⟨w, rfl, h3⟩, rfl⟩
  exact ⟨u, v, w, rfl, h1, h2, h3⟩
theorem good_env : Good enc 29 envP := by
  refine (good_map (fun n : Envl => (n.st, n.segs, n.rel, ())) (fun x => ⟨x.1, x.2.1, x.2.2.1⟩) (fun x => rfl) (good_struct Tryz.underlying29 (by kernel_rfl) (.cons rfl (by kernel_rfl) good_i64 (.cons rfl (by kernel_rfl) (good_sl Tryz.underlying27 (by kernel_rfl) (by omega) trivial good_seg) (.cons rfl (by kernel_rfl) good_i64 .nil))))).imp ?_
  rintro lo hi M a vs ⟨_, _, rfl, rfl, _, _, rfl, ⟨u, rfl, h1⟩, _, _, rfl, rfl, rfl⟩
  exact ⟨u, rfl, h1⟩
theorem good_inst : Good enc 31 instP := by
  refine (good_map (fun n : Inst => (n.pat, n.env, n.steps, ())) (fun x => ⟨x.1, x.2.1, x.2.2.1⟩) (fun x => rfl) (good_struct Tryz.underlying31 (by kernel_rfl) (.cons rfl (by kernel_rfl) good_patch (.cons rfl (by kernel_rfl) good_env (.cons rfl (by kernel_rfl) good_ints .nil))))).imp ?_
  rintro lo hi M a vs ⟨ps, _, rfl, h1, es, _, rfl, h2, _, _, rfl, ⟨u, rfl, h3⟩, rfl⟩
  exact ⟨ps, es, u, by simp, h1, h2, h3⟩
end
end Go.Proofs.YtimijeeihicohaaGreat

namespace Go.Proofs.YtimijeeihicohaaGreat
open Go.RowKit
set_option linter.unusedVariables false
set_option linter.unusedSimpArgs false
set_option maxRecDepth 100000
attribute [local simp] List.getElem?_cons_zero
attribute [local irreducible] awCond awCall awLoop awDraw ow retQ retC resQ Keeps
theorem SlV.isSl {α : Type} {k : Nat} [Inhabited α] {P : RecP α k} {lo hi : Nat} {M : Mem} {u : Value} {l : List α} (h : SlV P lo hi M u l) : ∃ A n c, u = .slice A n c := by
  obtain ⟨A, n, c, e, _⟩ := h
  exact ⟨A, n, c, e⟩
theorem agree_mid {M A B C : Mem} {lo hi : Nat} (h : B.length = A.length) (hm : M.length + A.length ≤ lo) : Agree lo hi (M ++ B ++ C) (M ++ (A ++ C)) := fun i s h1 h2 hs => by
  rw [List.append_assoc] at hs
  rw [List.getElem?_append_right (by omega), List.getElem?_append_right (by omega)] at hs ⊢
  rw [h] at hs
  exact hs
/-- Rows ahead of a value's own rows have turned. -/
theorem SlV.boxes {α : Type} {k : Nat} [Inhabited α] {P : RecP α k} {M A B C : Mem} {u : Value} {l : List α} (h : SlV P (M ++ B).length (M ++ B ++ C).length (M ++ B ++ C) u l) (hl : B.length = A.length) : SlV P M.length (M ++ (A ++ C)).length (M ++ (A ++ C)) u l :=
  (h.agree (agree_mid hl (by simp; omega))).wide (by simp) (by simp; omega)
theorem node_eq {a b : Node} : a = b ↔ a.k = b.k ∧ a.a = b.a ∧ a.b = b.b ∧ a.from_ = b.from_ := by
  cases a; cases b; simp
def wtNode (x : Node) : Nat := x.from_.length
theorem toNode_c {M : Mem} {lo hi : Nat} {us : List Value} {x : Node} (h : nodeP.rd lo hi M x us) (hb : x.from_.length ≤ 1048576) : ∃ vs N, Det Tryz.prog M.length 138 [.agg us.toArray] M (.agg vs.toArray) (M ++ N) ∧ nodeP.rd M.length (M ++ N).length (M ++ N) x vs ∧ vs.all oneV = true ∧ (Value.agg vs.toArray).cells.toList = vs := by
  obtain ⟨u, rfl, hu⟩ := h
  obtain ⟨v, N, d, r⟩ := toInt64S_x (M := M ++ [.live ⟨[iv x.k, iv x.a, iv x.b, u], true, true, 193, 4⟩, .live ⟨[iv 0, iv 0, iv 0, .slice none 0 0], true, true, 198, 4⟩, .live ⟨[iv x.k, iv x.a, iv x.b, .slice none 0 0], true, true, 198, 4⟩]) (hu.app _) hb
  obtain ⟨A, n, c, rfl⟩ := r.isSl
  refine ⟨[iv x.k, iv x.a, iv x.b, .slice A n c], [.live ⟨[iv x.k, iv x.a, iv x.b, u], true, true, 193, 4⟩, .live ⟨[iv x.k, iv x.a, iv x.b, .slice A n c], true, true, 198, 4⟩, .live ⟨[iv x.k, iv x.a, iv x.b, .slice A n c], true, true, 198, 4⟩] ++ N, Ctr.det ?_, ⟨_, rfl, ?_⟩, by simp, rfl⟩
  · obtain ⟨A1, n1, c1, rfl⟩ := hu.isSl
    first | (refine ctr_fn Tryz.func138 rfl Tryz.ntmps138 Tryz.results138 rfl rfl (by simp) ?_) | (refine ctr_fnC Tryz.func138 rfl Tryz.ntmps138 Tryz.results138 rfl (by simp) ?_)
    simp
    refine awCall_det' d (by simp) ?_
    simp
  · exact r.boxes rfl
theorem szNode_x {M : Mem} {lo hi : Nat} {us : List Value} {x : Node} {z : Int} (h : nodeP.rd lo hi M x us) (hz : 0 ≤ z) (hz1 : z ≤ 1048576) : Det Tryz.prog M.length 133 [.agg us.toArray, iv z] M (iv (if z - wtNode x < 0 then -1 else z - wtNode x)) M := by
  obtain ⟨u, rfl, hu⟩ := h
  obtain ⟨A1, n1, c1, rfl⟩ := hu.isSl
  have e : wtNode x = wtInt64S x.from_ := rfl
  rw [e]
  first | (refine det_fn Tryz.func133 rfl Tryz.ntmps133 Tryz.results133 rfl rfl rfl (by simp) ?_) | (refine det_fnC Tryz.func133 rfl Tryz.ntmps133 Tryz.results133 rfl rfl (by simp) ?_)
  simp
  refine awCall_det' (szInt64S_x (hu.app _) hz hz1) (by simp) ?_
  by_cases hneg : z - wtInt64S x.from_ < 0
  · simp [hneg, keeps_app]
  · simp [hneg, keeps_app]
theorem eqNode_x {M : Mem} {lo hi lo' hi' : Nat} {us vs : List Value} {x y : Node} (h : nodeP.rd lo hi M x us) (h' : nodeP.rd lo' hi' M y vs) : Det Tryz.prog M.length 144 [.agg us.toArray, .agg vs.toArray] M (.bool (decide (x = y))) M := by
  obtain ⟨u, rfl, hu⟩ := h
  obtain ⟨A1, n1, c1, rfl⟩ := hu.isSl
  obtain ⟨v, rfl, hv⟩ := h'
  obtain ⟨A2, n2, c2, rfl⟩ := hv.isSl
  first | (refine det_fn Tryz.func144 rfl Tryz.ntmps144 Tryz.results144 rfl rfl rfl (by simp) ?_) | (refine det_fnC Tryz.func144 rfl Tryz.ntmps144 Tryz.results144 rfl rfl (by simp) ?_)
  simp
  by_cases h1 : x.k = y.k
  case neg => simp [h1, node_eq, keeps_app]
  by_cases h2 : x.a = y.a
  case neg => simp [h1, h2, node_eq, keeps_app]
  by_cases h3 : x.b = y.b
  case neg => simp [h1, h2, h3, node_eq, keeps_app]
  simp [h1, h2, h3]
  refine awCall_det' (eqInt64S_x (hu.app _) (hv.app _)) (by simp) ?_
  by_cases h4 : x.from_ = y.from_
  · simp [h1, h2, h3, h4, node_eq, keeps_app]
  · simp [h1, h2, h3, h4, node_eq, keeps_app]
end Go.Proofs.YtimijeeihicohaaGreat

namespace Go.Proofs.YtimijeeihicohaaGreat
open Go.RowKit
set_option linter.unusedVariables false
set_option linter.unusedSimpArgs false
set_option maxRecDepth 100000
attribute [local simp] List.getElem?_cons_zero
attribute [local irreducible] awCond awCall awLoop awDraw ow retQ retC resQ Keeps
def wtNodeS (l : List Node) : Nat := l.length + sumW wtNode l l.length
theorem szNodeS_x {M : Mem} {lo hi : Nat} {u : Value} {l : List Node} {z : Int} (h : SlV nodeP lo hi M u l) (hz : 0 ≤ z) (hz1 : z ≤ 1048576) : Det Tryz.prog M.length 79 [u, iv z] M (iv (if z - wtNodeS l < 0 then -1 else z - wtNodeS l)) M := by
  obtain ⟨A, n, c, rfl, h1, h2, h3⟩ := h
  have hl := h3.1
  have hw : wtNodeS l = n + sumW wtNode l l.length := by unfold wtNodeS; rw [hl]
  rw [hw]
  first | (refine det_fn Tryz.func79 rfl Tryz.ntmps79 Tryz.results79 rfl rfl rfl (by simp) ?_) | (refine det_fnC Tryz.func79 rfl Tryz.ntmps79 Tryz.results79 rfl rfl (by simp) ?_)
  simp (disch := omega) [wrap_in]
  refine awCond_split ?_ ?_ <;> intro h
  · simp at h
    simp [Keeps.refl]
    omega
  · simp at h
    simp
    refine awLoop_T (fun m T M' => ∃ k : Nat, k + m = n ∧ Keeps M M' ∧ 0 ≤ z - n - sumW wtNode l k ∧ look T 5 = some (iv k) ∧ look T 1 = some (iv (z - n - sumW wtNode l k)) ∧ look T 0 = some (.slice A n c)) n ⟨0, by omega, Keeps.refl _, by rw [sumW_zero]; omega, by simp, by simp [sumW_zero], by simp⟩ ?_
    rintro m T M' ⟨k, hm, hk, hp, h5, h1', h0⟩
    by_cases hlt : k < n
    · obtain ⟨id, off, us, rfl, he, hrd, hc⟩ := (h3.keeps hk).at_ hlt
      have c1 := cellsAt_of (n := 4) hc (nodeP.len hrd) (by omega)
      simp (disch := omega) [h5, h1', h0, hlt, c1, he]
      have hd := szNode_x (M := M') hrd hp (by omega)
      refine awCall_det' hd (by have := hk.len; omega) ?_
      have ht := sumW_succ wtNode (l := l) (k := k) (by omega)
      have hle := sumW_le wtNode l (k + 1)
      by_cases hneg : z - n - sumW wtNode l k - wtNode (el l k) < 0
      · simp [hneg]
        exact ⟨fun h => by omega, hk⟩
      · simp (disch := omega) [hneg, h5, wrap_in]
        exact lpI (m - 1) (by omega) ⟨k + 1, by omega, hk, by omega, by simp, by rw [ht]; simp; omega, by simp [h0]⟩
    · obtain rfl : k = n := by omega
      rw [show sumW wtNode l k = sumW wtNode l l.length by rw [hl]] at hp h1'
      simp [h5, h1', h0]
      rw [if_neg (by omega)]
      exact ⟨by omega, hk⟩
theorem toNodeS_x {M : Mem} {lo hi : Nat} {u : Value} {l : List Node} (h : SlV nodeP lo hi M u l) (hn : l.length ≤ 1048576) (hb : ∀ x, x ∈ l → x.from_.length ≤ 1048576) : ∃ v N, Det Tryz.prog M.length 88 [u] M v (M ++ N) ∧ SlV nodeP M.length (M ++ N).length (M ++ N) v l := by
  obtain ⟨A, n, c, rfl, h1, h2, h3⟩ := h
  have hl := h3.1
  obtain ⟨f, f0, fI, fS, N, fN, hS⟩ := to_chain (P := nodeP) (Mk := fun us => .agg us.toArray) (fn := 138) (e := 198) (z := [iv 0, iv 0, iv 0, .slice none 0 0]) h3 rfl (by omega) (fun M1 i us hk hi hrd => toNode_c hrd (hb _ (el_mem (by omega))))
  have hN := fI n (Nat.le_refl _)
  rw [fN] at hS
  refine ⟨.slice (some ⟨M.length, 0, none⟩) n n, N, Ctr.det ?_, _, n, n, rfl, h1, (fun h => by cases h), hS⟩
  first | (refine ctr_fn Tryz.func88 rfl Tryz.ntmps88 Tryz.results88 rfl rfl (by simp) ?_) | (refine ctr_fnC Tryz.func88 rfl Tryz.ntmps88 Tryz.results88 rfl (by simp) ?_)
  simp
  refine ⟨by omega, ?_⟩
  refine awLoop_T (fun m T M' => ∃ k : Nat, k + m = n ∧ M' = f k ∧ look T 4 = some (iv k) ∧ look T 0 = some (.slice A n c) ∧ look T 3 = some (.slice (some ⟨M.length, 0, none⟩) n n)) n ⟨0, by omega, by rw [f0], by simp, by simp, by simp⟩ ?_
  rintro m T M' ⟨k, hm, rfl, h4, h0, h3'⟩
  by_cases hlt : k < n
  · obtain ⟨id, off, us, rfl, he, hrd, hc⟩ := h3.at_ hlt
    obtain ⟨g1, g2, g3⟩ := fI k (by omega)
    obtain ⟨vs, N', d1, d2, d2', d3⟩ := fS k hlt id off us rfl (cellsAt_of hc (nodeP.len hrd) (by omega))
    have c1 := cellsAt_of (n := 4) hc (nodeP.len hrd) (by omega)
    have c2 := cellsAt_keeps g1 c1
    simp (disch := omega) [h3', h4, h0, hlt, wrap_in, c2, g3, rowEsz_keeps g1 he]
    refine awCall_det' d1 (by omega) ?_
    have g4 : rowEsz (f k ++ N') M.length = some 4 := rowEsz_keeps (keeps_app _) g3
    have hsz : (Value.agg vs.toArray).cells.size = 4 := by rw [← Array.length_toList, d2', d2]
    try simp (disch := omega) [h3', h4, h0, g4, wrap_in, hlt]
    refine ⟨hsz.symm, ?_⟩
    try rw [d2']
    rw [d3, ow_some]
    try simp (disch := omega) [h3', h4, h0, wrap_in]
    exact lpI (m - 1) (by omega) ⟨k + 1, by omega, rfl, by simp, by simp [h0], by simp [h3']⟩
  · obtain rfl : k = n := by omega
    simp [h3', h4, h0]
    exact fN
theorem eqNodeS_x {M : Mem} {lo hi lo' hi' : Nat} {u v : Value} {x y : List Node} (h : SlV nodeP lo hi M u x) (h' : SlV nodeP lo' hi' M v y) : Det Tryz.prog M.length 95 [u, v] M (.bool (decide (x = y))) M := by
  obtain ⟨A, n, c, rfl, h1, h2, h3⟩ := h
  obtain ⟨B, m, d, rfl, g1, g2, g3⟩ := h'
  have hlx := h3.1
  have hly := g3.1
  first | (refine det_fn Tryz.func95 rfl Tryz.ntmps95 Tryz.results95 rfl rfl rfl (by simp) ?_) | (refine det_fnC Tryz.func95 rfl Tryz.ntmps95 Tryz.results95 rfl rfl (by simp) ?_)
  simp
  refine awCond_split ?_ ?_ <;> intro hnm
  · simp at hnm
    simp
    exact ⟨fun e => by subst e; omega, Keeps.refl _⟩
  · simp at hnm
    obtain rfl : n = m := by omega
    simp
    refine awLoop_T (fun m T M' => ∃ k : Nat, k + m = n ∧ Keeps M M' ∧ look T 5 = some (iv k) ∧ look T 0 = some (.slice A n c) ∧ look T 1 = some (.slice B n d) ∧ x.take k = y.take k) n ⟨0, by omega, Keeps.refl _, by simp, by simp, by simp, by simp⟩ ?_
    rintro m T M' ⟨k, hm, hk, h4, h0, h1', hxy⟩
    by_cases hlt : k < n
    · obtain ⟨id, off, us, rfl, he, hrd, hc⟩ := (h3.keeps hk).at_ hlt
      obtain ⟨id', off', us', rfl, he', hrd', hc'⟩ := (g3.keeps hk).at_ hlt
      have hkl := hk.len
      have c1 := cellsAt_of (n := 4) hc (nodeP.len hrd) (by omega)
      have c1' := cellsAt_of (n := 4) hc' (nodeP.len hrd') (by omega)
      simp (disch := omega) [h4, h0, h1', hlt, wrap_in]
      refine awDraw_E 8 [[],[],[0,1],[2,0,1],[],[],[4,5],[6,4,5],[3,2,0,1,7,6,4,5],[8,3,2,0,1,7,6,4,5]] (by kernel_rfl) (by kernel_rfl) ?_
      simp (disch := omega) [h4, h0, h1', hlt, wrap_in, c1, c1', he, he']
      refine awCall_det' (eqNode_x (M := M') hrd hrd') (by omega) ?_
      by_cases hxy' : el x k = el y k
      · simp (disch := omega) [hxy', h4, h0, h1', wrap_in]
        refine lpI (m - 1) (by omega) ?_
        exact ⟨k + 1, by omega, hk, by simp, by simp [h0], by simp [h1'], by rw [take_el (by omega), take_el (by omega), hxy, hxy']⟩
      · simp [hxy']
        exact ⟨fun e => hxy' (by rw [e]), hk⟩
    · obtain rfl : k = n := by omega
      rw [List.take_of_length_le (by omega), List.take_of_length_le (by omega)] at hxy
      simp [h4, h0, h1', hxy, hk]
end Go.Proofs.YtimijeeihicohaaGreat

namespace Go.Proofs.YtimijeeihicohaaGreat
open Go.RowKit
set_option linter.unusedVariables false
set_option linter.unusedSimpArgs false
set_option maxRecDepth 100000
attribute [local simp] List.getElem?_cons_zero
attribute [local irreducible] awCond awCall awLoop awDraw ow retQ retC resQ Keeps
section
variable {α : Type} {k : Nat} [Inhabited α] {P : RecP α k}
omit [Inhabited α] in
theorem agree_mid2 {M A B C D E : Mem} {lo hi : Nat} (h : B.length = A.length) (hm : M.length + A.length ≤ lo) : Agree lo hi (M ++ (B ++ C) ++ D) (M ++ (A ++ (C ++ (D ++ E)))) := fun i s h1 h2 hs => by
  have e1 : M ++ (B ++ C) ++ D = M ++ (B ++ (C ++ D)) := by simp
  have e2 : M ++ (A ++ (C ++ (D ++ E))) = M ++ (A ++ (C ++ D)) ++ E := by simp
  rw [e1, List.getElem?_append_right (by omega), List.getElem?_append_right (by omega), h] at hs
  rw [e2, List.getElem?_append_left (by have := (List.getElem?_eq_some_iff.1 hs).1; simp at *; omega), List.getElem?_append_right (by omega), List.getElem?_append_right (by omega)]
  exact hs
/-- Rows ahead of a value's own rows have turned; more lie behind. -/
theorem SlV.boxesG {M A B C D E : Mem} {u : Value} {l : List α} (h : SlV P (M ++ (B ++ C)).length (M ++ (B ++ C) ++ D).length (M ++ (B ++ C) ++ D) u l) (hl : B.length = A.length) : SlV P M.length (M ++ (A ++ (C ++ (D ++ E)))).length (M ++ (A ++ (C ++ (D ++ E)))) u l :=
  (h.agree (agree_mid2 hl (by simp; omega))).wide (by simp) (by simp; omega)
omit [Inhabited α] in
theorem RecP.boxesG (P : RecP α k) {M A B C D E : Mem} {vs : List Value} {x : α} (h : P.rd (M ++ (B ++ C)).length (M ++ (B ++ C) ++ D).length (M ++ (B ++ C) ++ D) x vs) (hl : B.length = A.length) : P.rd M.length (M ++ (A ++ (C ++ (D ++ E)))).length (M ++ (A ++ (C ++ (D ++ E)))) x vs :=
  P.wide (P.agree h (agree_mid2 hl (by simp; omega))) (by simp) (by simp; omega)
end
def wtSegmentS (l : List Segment) : Nat := l.length
theorem szSegmentS_x {M : Mem} {lo hi : Nat} {u : Value} {l : List Segment} {z : Int} (h : SlV segP lo hi M u l) (hz : 0 ≤ z) (hz1 : z ≤ 1048576) : Det Tryz.prog M.length 80 [u, iv z] M (iv (if z - wtSegmentS l < 0 then -1 else z - wtSegmentS l)) M := by
  obtain ⟨A, n, c, rfl, h1, h2, h3⟩ := h
  rw [show wtSegmentS l = n from h3.1]
  exact szSegmentS_a z hz hz1 h1
theorem toSegmentS_x {M : Mem} {lo hi : Nat} {u : Value} {l : List Segment} (h : SlV segP lo hi M u l) (hn : l.length ≤ 1048576) : ∃ v N, Det Tryz.prog M.length 89 [u] M v (M ++ N) ∧ SlV segP M.length (M ++ N).length (M ++ N) v l := by
  obtain ⟨A, n, c, rfl, h1, h2, h3⟩ := h
  have hl := h3.1
  refine ⟨_, _, toSegmentS_d h3.sl (by omega), _, n, n, rfl, h1, (fun h => by cases h), SlP.of_sl ⟨hl, fun _ => ⟨M.length, 0, rfl, by simp [rowEsz], fun j x hx => by simp [cellAt, hx]⟩⟩ fun a e _ => ?_⟩
  injection e with e
  subst e
  exact ⟨Nat.le_refl _, by simp⟩
theorem eqSegmentS_x {M : Mem} {lo hi lo' hi' : Nat} {u v : Value} {x y : List Segment} (h : SlV segP lo hi M u x) (h' : SlV segP lo' hi' M v y) (hx : x.length ≤ 1048576) : Det Tryz.prog M.length 96 [u, v] M (.bool (decide (x = y))) M := by
  obtain ⟨A, n, c, rfl, h1, h2, h3⟩ := h
  obtain ⟨B, m, d, rfl, g1, g2, g3⟩ := h'
  exact eqSegmentS_a h3.sl g3.sl (by have := h3.1; omega)
theorem patch_eq {a b : Patch} : a = b ↔ a.inp = b.inp ∧ a.tabs = b.tabs ∧ a.nodes = b.nodes ∧ a.outs = b.outs := by
  cases a; cases b; simp
theorem env_eq {a b : Envl} : a = b ↔ a.st = b.st ∧ a.segs = b.segs ∧ a.rel = b.rel := by
  cases a; cases b; simp
theorem inst_eq {a b : Inst} : a = b ↔ a.pat = b.pat ∧ a.env = b.env ∧ a.steps = b.steps := by
  cases a; cases b; simp
/-- No list is long. -/
structure SmallP (p : Patch) : Prop where
  tabs : p.tabs.length ≤ 1048576
  tab : ∀ x, x ∈ p.tabs → x.length ≤ 1048576
  nodes : p.nodes.length ≤ 1048576
  node : ∀ x, x ∈ p.nodes → x.from_.length ≤ 1048576
  outs : p.outs.length ≤ 1048576
structure SmallI (i : Inst) : Prop where
  pat : SmallP i.pat
  segs : i.env.segs.length ≤ 1048576
  steps : i.steps.length ≤ 1048576
def wtPatch (p : Patch) : Nat := wtInt64SS p.tabs + wtNodeS p.nodes + wtInt64S p.outs
theorem szPatch_x {M : Mem} {lo hi : Nat} {us : List Value} {x : Patch} {z : Int} (h : patchP.rd lo hi M x us) (hz : 0 ≤ z) (hz1 : z ≤ 1048576) : Det Tryz.prog M.length 37 [.agg us.toArray, iv z] M (iv (if z - wtPatch x < 0 then -1 else z - wtPatch x)) M := by
  obtain ⟨u, v, w, rfl, hu, hv, hw⟩ := h
  obtain ⟨A1, n1, c1, rfl⟩ := hu.isSl
  obtain ⟨A2, n2, c2, rfl⟩ := hv.isSl
  obtain ⟨A3, n3, c3, rfl⟩ := hw.isSl
  have e : wtPatch x = wtInt64SS x.tabs + wtNodeS x.nodes + wtInt64S x.outs := rfl
  rw [e]
  first | (refine det_fn Tryz.func37 rfl Tryz.ntmps37 Tryz.results37 rfl rfl rfl (by simp) ?_) | (refine det_fnC Tryz.func37 rfl Tryz.ntmps37 Tryz.results37 rfl rfl (by simp) ?_)
  simp
  refine awCall_det' (szInt64SS_x (hu.app _) hz hz1) (by simp) ?_
  by_cases g1 : z - wtInt64SS x.tabs < 0
  · simp [g1]
    exact ⟨fun h => by omega, keeps_app _⟩
  simp [g1]
  refine awCall_det' (szNodeS_x (hv.app _) (by omega) (by omega)) (by simp) ?_
  by_cases g2 : z - wtInt64SS x.tabs - wtNodeS x.nodes < 0
  · simp [g2]
    exact ⟨fun h => by omega, keeps_app _⟩
  simp [g2]
  refine awCall_det' (szInt64S_x (hw.app _) (by omega) (by omega)) (by simp) ?_
  by_cases g3 : z - wtInt64SS x.tabs - wtNodeS x.nodes - wtInt64S x.outs < 0
  · simp [g3]
    exact ⟨fun h => by omega, keeps_app _⟩
  simp [g3]
  refine ⟨?_, keeps_app _⟩
  rw [if_neg (by omega)]
  omega
theorem wtPatch_small {p : Patch} {z : Int} (h : ¬ z - wtPatch p < 0) (hz : z ≤ 1048576) : SmallP p := by
  have e : wtInt64S p.outs = p.outs.length := rfl
  unfold wtPatch wtInt64SS wtNodeS at h
  rw [e] at h
  refine ⟨by omega, fun x hx => ?_, by omega, fun x hx => ?_, by omega⟩
  · have : x.length ≤ sumW wtInt64S p.tabs p.tabs.length := sumW_mem wtInt64S hx
    omega
  · have : x.from_.length ≤ sumW wtNode p.nodes p.nodes.length := sumW_mem wtNode hx
    omega
def wtEnvl (p : Envl) : Nat := wtSegmentS p.segs
theorem szEnvelope_x {M : Mem} {lo hi : Nat} {us : List Value} {x : Envl} {z : Int} (h : envP.rd lo hi M x us) (hz : 0 ≤ z) (hz1 : z ≤ 1048576) : Det Tryz.prog M.length 38 [.agg us.toArray, iv z] M (iv (if z - wtEnvl x < 0 then -1 else z - wtEnvl x)) M := by
  obtain ⟨u, rfl, hu⟩ := h
  obtain ⟨A1, n1, c1, rfl⟩ := hu.isSl
  have e : wtEnvl x = wtSegmentS x.segs := rfl
  rw [e]
  first | (refine det_fn Tryz.func38 rfl Tryz.ntmps38 Tryz.results38 rfl rfl rfl (by simp) ?_) | (refine det_fnC Tryz.func38 rfl Tryz.ntmps38 Tryz.results38 rfl rfl (by simp) ?_)
  simp
  refine awCall_det' (szSegmentS_x (hu.app _) hz hz1) (by simp) ?_
  by_cases g1 : z - wtSegmentS x.segs < 0
  · simp [g1, keeps_app]
  · simp [g1, keeps_app]
def wtInst (i : Inst) : Nat := wtPatch i.pat + wtEnvl i.env + wtInt64S i.steps
theorem szInstrument_x {M : Mem} {lo hi : Nat} {us : List Value} {x : Inst} {z : Int} (h : instP.rd lo hi M x us) (hz : 0 ≤ z) (hz1 : z ≤ 1048576) : Det Tryz.prog M.length 7 [.agg us.toArray, iv z] M (iv (if z - wtInst x < 0 then -1 else z - wtInst x)) M := by
  obtain ⟨ps, es, w, rfl, hp, he, hw⟩ := h
  obtain ⟨A3, n3, c3, rfl⟩ := hw.isSl
  have e : wtInst x = wtPatch x.pat + wtEnvl x.env + wtInt64S x.steps := rfl
  rw [e]
  obtain ⟨u1, u2, u3, rfl, q1, q2, q3⟩ := id hp
  obtain ⟨B1, m1, d1, rfl⟩ := q1.isSl
  obtain ⟨B2, m2, d2, rfl⟩ := q2.isSl
  obtain ⟨B3, m3, d3, rfl⟩ := q3.isSl
  obtain ⟨u4, rfl, q4⟩ := id he
  obtain ⟨B4, m4, d4, rfl⟩ := q4.isSl
  first | (refine det_fn Tryz.func7 rfl Tryz.ntmps7 Tryz.results7 rfl rfl rfl (by simp) ?_) | (refine det_fnC Tryz.func7 rfl Tryz.ntmps7 Tryz.results7 rfl rfl (by simp) ?_)
  simp
  refine awCall_det' (szPatch_x (patchP.app hp _) hz hz1) (by simp) ?_
  by_cases g1 : z - wtPatch x.pat < 0
  · simp [g1]
    exact ⟨fun h => by omega, keeps_app _⟩
  simp [g1]
  refine awCall_det' (szEnvelope_x (envP.app he _) (by omega) (by omega)) (by simp) ?_
  by_cases g2 : z - wtPatch x.pat - wtEnvl x.env < 0
  · simp [g2]
    exact ⟨fun h => by omega, keeps_app _⟩
  simp [g2]
  refine awCall_det' (szInt64S_x (hw.app _) (by omega) (by omega)) (by simp) ?_
  by_cases g3 : z - wtPatch x.pat - wtEnvl x.env - wtInt64S x.steps < 0
  · simp [g3]
    exact ⟨fun h => by omega, keeps_app _⟩
  simp [g3]
  refine ⟨?_, keeps_app _⟩
  rw [if_neg (by omega)]
  omega
theorem wtInst_small {i : Inst} {z : Int} (h : ¬ z - wtInst i < 0) (hz : z ≤ 1048576) : SmallI i := by
  unfold wtInst at h
  have h1 : ¬ z - wtPatch i.pat < 0 := by omega
  unfold wtEnvl wtSegmentS wtInt64S at h
  exact ⟨wtPatch_small h1 hz, by omega, by omega⟩
theorem toPatch_x {M : Mem} {lo hi : Nat} {us : List Value} {x : Patch} (h : patchP.rd lo hi M x us) (hb : SmallP x) : ∃ vs N, Det Tryz.prog M.length 42 [.agg us.toArray] M (.agg vs.toArray) (M ++ N) ∧ patchP.rd M.length (M ++ N).length (M ++ N) x vs := by
  obtain ⟨u, v, w, rfl, hu, hv, hw⟩ := h
  obtain ⟨A1, n1, c1, rfl⟩ := hu.isSl
  obtain ⟨A2, n2, c2, rfl⟩ := hv.isSl
  obtain ⟨A3, n3, c3, rfl⟩ := hw.isSl
  obtain ⟨v1, N1, d1, r1⟩ := toInt64SS_x (M := M ++ ([Slot.live ⟨[iv x.inp, .slice A1 n1 c1, .slice A2 n2 c2, .slice A3 n3 c3], true, true, 26, 4⟩, .live ⟨[iv 0, .slice none 0 0, .slice none 0 0, .slice none 0 0], true, true, 39, 4⟩, .live ⟨[iv x.inp, .slice none 0 0, .slice none 0 0, .slice none 0 0], true, true, 39, 4⟩] ++ [])) (hu.app _) hb.tabs hb.tab
  obtain ⟨B1, m1, e1, rfl⟩ := r1.isSl
  obtain ⟨v2, N2, d2, r2⟩ := toNodeS_x (M := M ++ ([Slot.live ⟨[iv x.inp, .slice A1 n1 c1, .slice A2 n2 c2, .slice A3 n3 c3], true, true, 26, 4⟩, .live ⟨[iv 0, .slice none 0 0, .slice none 0 0, .slice none 0 0], true, true, 39, 4⟩, .live ⟨[iv x.inp, .slice B1 m1 e1, .slice none 0 0, .slice none 0 0], true, true, 39, 4⟩] ++ N1)) (hv.app _) hb.nodes hb.node
  obtain ⟨B2, m2, e2, rfl⟩ := r2.isSl
  obtain ⟨v3, N3, d3, r3⟩ := toInt64S_x (M := M ++ ([Slot.live ⟨[iv x.inp, .slice A1 n1 c1, .slice A2 n2 c2, .slice A3 n3 c3], true, true, 26, 4⟩, .live ⟨[iv 0, .slice none 0 0, .slice none 0 0, .slice none 0 0], true, true, 39, 4⟩, .live ⟨[iv x.inp, .slice B1 m1 e1, .slice B2 m2 e2, .slice none 0 0], true, true, 39, 4⟩] ++ (N1 ++ N2))) (hw.app _) hb.outs
  obtain ⟨B3, m3, e3, rfl⟩ := r3.isSl
  refine ⟨[iv x.inp, .slice B1 m1 e1, .slice B2 m2 e2, .slice B3 m3 e3], [.live ⟨[iv x.inp, .slice A1 n1 c1, .slice A2 n2 c2, .slice A3 n3 c3], true, true, 26, 4⟩, .live ⟨[iv x.inp, .slice B1 m1 e1, .slice B2 m2 e2, .slice B3 m3 e3], true, true, 39, 4⟩, .live ⟨[iv x.inp, .slice B1 m1 e1, .slice B2 m2 e2, .slice B3 m3 e3], true, true, 39, 4⟩] ++ (N1 ++ (N2 ++ N3)), Ctr.det ?_, ⟨_, _, _, rfl, ?_, ?_, ?_⟩⟩
  · first | (refine ctr_fn Tryz.func42 rfl Tryz.ntmps42 Tryz.results42 rfl rfl (by simp) ?_) | (refine ctr_fnC Tryz.func42 rfl Tryz.ntmps42 Tryz.results42 rfl (by simp) ?_)
    simp
    simp at d1 d2 d3
    refine awCall_det' d1 (by simp) ?_
    simp
    refine awCall_det' d2 (by simp) ?_
    simp
    refine awCall_det' d3 (by simp) ?_
    simp
  · exact r1.boxesG rfl
  · exact r2.boxesG rfl
  · have := r3.boxesG (A := [.live ⟨[iv x.inp, .slice A1 n1 c1, .slice A2 n2 c2, .slice A3 n3 c3], true, true, 26, 4⟩, .live ⟨[iv x.inp, .slice B1 m1 e1, .slice B2 m2 e2, .slice B3 m3 e3], true, true, 39, 4⟩, .live ⟨[iv x.inp, .slice B1 m1 e1, .slice B2 m2 e2, .slice B3 m3 e3], true, true, 39, 4⟩]) (E := []) rfl
    simpa using this
theorem toEnvelope_x {M : Mem} {lo hi : Nat} {us : List Value} {x : Envl} (h : envP.rd lo hi M x us) (hb : x.segs.length ≤ 1048576) : ∃ vs N, Det Tryz.prog M.length 43 [.agg us.toArray] M (.agg vs.toArray) (M ++ N) ∧ envP.rd M.length (M ++ N).length (M ++ N) x vs := by
  obtain ⟨u, rfl, hu⟩ := h
  obtain ⟨A1, n1, c1, rfl⟩ := hu.isSl
  obtain ⟨v1, N1, d1, r1⟩ := toSegmentS_x (M := M ++ [Slot.live ⟨[iv x.st, .slice A1 n1 c1, iv x.rel], true, true, 29, 3⟩, .live ⟨[iv 0, .slice none 0 0, iv 0], true, true, 42, 3⟩, .live ⟨[iv x.st, .slice none 0 0, iv 0], true, true, 42, 3⟩]) (hu.app _) hb
  obtain ⟨B1, m1, e1, rfl⟩ := r1.isSl
  refine ⟨[iv x.st, .slice B1 m1 e1, iv x.rel], [.live ⟨[iv x.st, .slice A1 n1 c1, iv x.rel], true, true, 29, 3⟩, .live ⟨[iv x.st, .slice B1 m1 e1, iv x.rel], true, true, 42, 3⟩, .live ⟨[iv x.st, .slice B1 m1 e1, iv x.rel], true, true, 42, 3⟩] ++ N1, Ctr.det ?_, ⟨_, rfl, r1.boxes rfl⟩⟩
  first | (refine ctr_fn Tryz.func43 rfl Tryz.ntmps43 Tryz.results43 rfl rfl (by simp) ?_) | (refine ctr_fnC Tryz.func43 rfl Tryz.ntmps43 Tryz.results43 rfl (by simp) ?_)
  simp
  refine awCall_det' d1 (by simp) ?_
  simp
theorem patch_isV {lo hi : Nat} {M : Mem} {x : Patch} {vs : List Value} (h : patchP.rd lo hi M x vs) : ∃ A1 n1 c1 A2 n2 c2 A3 n3 c3, vs = [iv x.inp, .slice A1 n1 c1, .slice A2 n2 c2, .slice A3 n3 c3] := by
  obtain ⟨u, v, w, rfl, hu, hv, hw⟩ := h
  obtain ⟨A1, n1, c1, rfl⟩ := hu.isSl
  obtain ⟨A2, n2, c2, rfl⟩ := hv.isSl
  obtain ⟨A3, n3, c3, rfl⟩ := hw.isSl
  exact ⟨_, _, _, _, _, _, _, _, _, rfl⟩
theorem env_isV {lo hi : Nat} {M : Mem} {x : Envl} {vs : List Value} (h : envP.rd lo hi M x vs) : ∃ A1 n1 c1, vs = [iv x.st, .slice A1 n1 c1, iv x.rel] := by
  obtain ⟨u, rfl, hu⟩ := h
  obtain ⟨A1, n1, c1, rfl⟩ := hu.isSl
  exact ⟨_, _, _, rfl⟩
theorem toInstrument_x {M : Mem} {lo hi : Nat} {us : List Value} {x : Inst} (h : instP.rd lo hi M x us) (hb : SmallI x) : ∃ vs N, Det Tryz.prog M.length 10 [.agg us.toArray] M (.agg vs.toArray) (M ++ N) ∧ instP.rd M.length (M ++ N).length (M ++ N) x vs := by
  obtain ⟨ps, es, w, rfl, hp, he, hw⟩ := h
  obtain ⟨A1, n1, c1, A2, n2, c2, A3, n3, c3, rfl⟩ := patch_isV hp
  obtain ⟨A4, n4, c4, rfl⟩ := env_isV he
  obtain ⟨A5, n5, c5, rfl⟩ := hw.isSl
  obtain ⟨v1, N1, d1, r1⟩ := toPatch_x (M := M ++ ([Slot.live ⟨[iv x.pat.inp, .slice A1 n1 c1, .slice A2 n2 c2, .slice A3 n3 c3, iv x.env.st, .slice A4 n4 c4, iv x.env.rel, .slice A5 n5 c5], true, true, 31, 8⟩, .live ⟨[iv 0, .slice none 0 0, .slice none 0 0, .slice none 0 0, iv 0, .slice none 0 0, iv 0, .slice none 0 0], true, true, 44, 8⟩, .live ⟨[iv 0, .slice none 0 0, .slice none 0 0, .slice none 0 0, iv 0, .slice none 0 0, iv 0, .slice none 0 0], true, true, 44, 8⟩] ++ [])) (patchP.app hp _) hb.pat
  obtain ⟨B1, m1, g1, B2, m2, g2, B3, m3, g3, rfl⟩ := patch_isV r1
  obtain ⟨v2, N2, d2, r2⟩ := toEnvelope_x (M := M ++ ([Slot.live ⟨[iv x.pat.inp, .slice A1 n1 c1, .slice A2 n2 c2, .slice A3 n3 c3, iv x.env.st, .slice A4 n4 c4, iv x.env.rel, .slice A5 n5 c5], true, true, 31, 8⟩, .live ⟨[iv 0, .slice none 0 0, .slice none 0 0, .slice none 0 0, iv 0, .slice none 0 0, iv 0, .slice none 0 0], true, true, 44, 8⟩, .live ⟨[iv x.pat.inp, .slice B1 m1 g1, .slice B2 m2 g2, .slice B3 m3 g3, iv 0, .slice none 0 0, iv 0, .slice none 0 0], true, true, 44, 8⟩] ++ N1)) (envP.app he _) hb.segs
  obtain ⟨B4, m4, g4, rfl⟩ := env_isV r2
  obtain ⟨v3, N3, d3, r3⟩ := toInt64S_x (M := M ++ ([Slot.live ⟨[iv x.pat.inp, .slice A1 n1 c1, .slice A2 n2 c2, .slice A3 n3 c3, iv x.env.st, .slice A4 n4 c4, iv x.env.rel, .slice A5 n5 c5], true, true, 31, 8⟩, .live ⟨[iv 0, .slice none 0 0, .slice none 0 0, .slice none 0 0, iv 0, .slice none 0 0, iv 0, .slice none 0 0], true, true, 44, 8⟩, .live ⟨[iv x.pat.inp, .slice B1 m1 g1, .slice B2 m2 g2, .slice B3 m3 g3, iv x.env.st, .slice B4 m4 g4, iv x.env.rel, .slice none 0 0], true, true, 44, 8⟩] ++ (N1 ++ N2))) (hw.app _) hb.steps
  obtain ⟨B5, m5, g5, rfl⟩ := r3.isSl
  refine ⟨[iv x.pat.inp, .slice B1 m1 g1, .slice B2 m2 g2, .slice B3 m3 g3, iv x.env.st, .slice B4 m4 g4, iv x.env.rel, .slice B5 m5 g5], [Slot.live ⟨[iv x.pat.inp, .slice A1 n1 c1, .slice A2 n2 c2, .slice A3 n3 c3, iv x.env.st, .slice A4 n4 c4, iv x.env.rel, .slice A5 n5 c5], true, true, 31, 8⟩, .live ⟨[iv x.pat.inp, .slice B1 m1 g1, .slice B2 m2 g2, .slice B3 m3 g3, iv x.env.st, .slice B4 m4 g4, iv x.env.rel, .slice B5 m5 g5], true, true, 44, 8⟩, .live ⟨[iv x.pat.inp, .slice B1 m1 g1, .slice B2 m2 g2, .slice B3 m3 g3, iv x.env.st, .slice B4 m4 g4, iv x.env.rel, .slice B5 m5 g5], true, true, 44, 8⟩] ++ (N1 ++ (N2 ++ N3)), Ctr.det ?_, ⟨[iv x.pat.inp, .slice B1 m1 g1, .slice B2 m2 g2, .slice B3 m3 g3], [iv x.env.st, .slice B4 m4 g4, iv x.env.rel], .slice B5 m5 g5, rfl, ?_, ?_, ?_⟩⟩
  · first | (refine ctr_fn Tryz.func10 rfl Tryz.ntmps10 Tryz.results10 rfl rfl (by simp) ?_) | (refine ctr_fnC Tryz.func10 rfl Tryz.ntmps10 Tryz.results10 rfl (by simp) ?_)
    simp
    simp at d1 d2 d3
    refine awCall_det' d1 (by simp) ?_
    simp
    refine awCall_det' d2 (by simp) ?_
    simp
    refine awCall_det' d3 (by simp) ?_
    simp
  · exact patchP.boxesG (C := []) (D := N1) (E := N2 ++ N3) r1 rfl
  · exact envP.boxesG (C := N1) (D := N2) (E := N3) r2 rfl
  · have := r3.boxesG (A := [Slot.live ⟨[iv x.pat.inp, .slice A1 n1 c1, .slice A2 n2 c2, .slice A3 n3 c3, iv x.env.st, .slice A4 n4 c4, iv x.env.rel, .slice A5 n5 c5], true, true, 31, 8⟩, .live ⟨[iv x.pat.inp, .slice B1 m1 g1, .slice B2 m2 g2, .slice B3 m3 g3, iv x.env.st, .slice B4 m4 g4, iv x.env.rel, .slice B5 m5 g5], true, true, 44, 8⟩, .live ⟨[iv x.pat.inp, .slice B1 m1 g1, .slice B2 m2 g2, .slice B3 m3 g3, iv x.env.st, .slice B4 m4 g4, iv x.env.rel, .slice B5 m5 g5], true, true, 44, 8⟩]) (E := []) rfl
    simpa using this
theorem eqPatch_x {M : Mem} {lo hi lo' hi' : Nat} {us vs : List Value} {x y : Patch} (h : patchP.rd lo hi M x us) (h' : patchP.rd lo' hi' M y vs) : Det Tryz.prog M.length 48 [.agg us.toArray, .agg vs.toArray] M (.bool (decide (x = y))) M := by
  obtain ⟨u1, u2, u3, rfl, hu1, hu2, hu3⟩ := h
  obtain ⟨A1, n1, c1, rfl⟩ := hu1.isSl
  obtain ⟨A2, n2, c2, rfl⟩ := hu2.isSl
  obtain ⟨A3, n3, c3, rfl⟩ := hu3.isSl
  obtain ⟨v1, v2, v3, rfl, hv1, hv2, hv3⟩ := h'
  obtain ⟨B1, m1, d1, rfl⟩ := hv1.isSl
  obtain ⟨B2, m2, d2, rfl⟩ := hv2.isSl
  obtain ⟨B3, m3, d3, rfl⟩ := hv3.isSl
  first | (refine det_fn Tryz.func48 rfl Tryz.ntmps48 Tryz.results48 rfl rfl rfl (by simp) ?_) | (refine det_fnC Tryz.func48 rfl Tryz.ntmps48 Tryz.results48 rfl rfl (by simp) ?_)
  simp
  by_cases h1 : x.inp = y.inp
  case neg => simp [h1, patch_eq, keeps_app]
  simp [h1]
  refine awCall_det' (eqInt64SS_x (hu1.app _) (hv1.app _)) (by simp) ?_
  by_cases h2 : x.tabs = y.tabs
  case neg => simp [h1, h2, patch_eq, keeps_app]
  simp [h1, h2]
  refine awCall_det' (eqNodeS_x (hu2.app _) (hv2.app _)) (by simp) ?_
  by_cases h3 : x.nodes = y.nodes
  case neg => simp [h1, h2, h3, patch_eq, keeps_app]
  simp [h1, h2, h3]
  refine awCall_det' (eqInt64S_x (hu3.app _) (hv3.app _)) (by simp) ?_
  by_cases h4 : x.outs = y.outs
  · simp [h1, h2, h3, h4, patch_eq, keeps_app]
  · simp [h1, h2, h3, h4, patch_eq, keeps_app]
theorem eqEnvelope_x {M : Mem} {lo hi lo' hi' : Nat} {us vs : List Value} {x y : Envl} (h : envP.rd lo hi M x us) (h' : envP.rd lo' hi' M y vs) (hx : x.segs.length ≤ 1048576) : Det Tryz.prog M.length 49 [.agg us.toArray, .agg vs.toArray] M (.bool (decide (x = y))) M := by
  obtain ⟨u1, rfl, hu1⟩ := h
  obtain ⟨A1, n1, c1, rfl⟩ := hu1.isSl
  obtain ⟨v1, rfl, hv1⟩ := h'
  obtain ⟨B1, m1, d1, rfl⟩ := hv1.isSl
  first | (refine det_fn Tryz.func49 rfl Tryz.ntmps49 Tryz.results49 rfl rfl rfl (by simp) ?_) | (refine det_fnC Tryz.func49 rfl Tryz.ntmps49 Tryz.results49 rfl rfl (by simp) ?_)
  simp
  by_cases h1 : x.st = y.st
  case neg => simp [h1, env_eq, keeps_app]
  simp [h1]
  refine awCall_det' (eqSegmentS_x (hu1.app _) (hv1.app _) hx) (by simp) ?_
  by_cases h2 : x.segs = y.segs
  case neg => simp [h1, h2, env_eq, keeps_app]
  by_cases h3 : x.rel = y.rel
  · simp [h1, h2, h3, env_eq, keeps_app]
  · simp [h1, h2, h3, env_eq, keeps_app]
theorem eqInstrument_x {M : Mem} {lo hi lo' hi' : Nat} {us vs : List Value} {x y : Inst} (h : instP.rd lo hi M x us) (h' : instP.rd lo' hi' M y vs) (hx : x.env.segs.length ≤ 1048576) : Det Tryz.prog M.length 14 [.agg us.toArray, .agg vs.toArray] M (.bool (decide (x = y))) M := by
  obtain ⟨ps, es, w, rfl, hp, he, hw⟩ := h
  obtain ⟨ps', es', w', rfl, hp', he', hw'⟩ := h'
  obtain ⟨A1, n1, c1, A2, n2, c2, A3, n3, c3, rfl⟩ := patch_isV hp
  obtain ⟨A4, n4, c4, rfl⟩ := env_isV he
  obtain ⟨A5, n5, c5, rfl⟩ := hw.isSl
  obtain ⟨B1, m1, g1, B2, m2, g2, B3, m3, g3, rfl⟩ := patch_isV hp'
  obtain ⟨B4, m4, g4, rfl⟩ := env_isV he'
  obtain ⟨B5, m5, g5, rfl⟩ := hw'.isSl
  first | (refine det_fn Tryz.func14 rfl Tryz.ntmps14 Tryz.results14 rfl rfl rfl (by simp) ?_) | (refine det_fnC Tryz.func14 rfl Tryz.ntmps14 Tryz.results14 rfl rfl (by simp) ?_)
  simp
  refine awCall_det' (eqPatch_x (patchP.app hp _) (patchP.app hp' _)) (by simp) ?_
  by_cases h1 : x.pat = y.pat
  case neg => simp [h1, inst_eq, keeps_app]
  simp [h1]
  refine awCall_det' (eqEnvelope_x (envP.app he _) (envP.app he' _) hx) (by simp) ?_
  by_cases h2 : x.env = y.env
  case neg => simp [h1, h2, inst_eq, keeps_app]
  simp [h1, h2]
  refine awCall_det' (eqInt64S_x (hw.app _) (hw'.app _)) (by simp) ?_
  by_cases h3 : x.steps = y.steps
  · simp [h1, h2, h3, inst_eq, keeps_app]
  · simp [h1, h2, h3, inst_eq, keeps_app]
end Go.Proofs.YtimijeeihicohaaGreat

namespace Go.Proofs.YtimijeeihicohaaGreat
open Go.RowKit
set_option linter.unusedVariables false
set_option linter.unusedSimpArgs false
set_option maxRecDepth 100000
attribute [local simp] List.getElem?_cons_zero
attribute [local irreducible] awCond awCall awLoop awDraw ow retQ retC resQ Keeps
def sampleB (x : Int) : Bool := inB x (-2147483648) 2147483647
def areSB (l : List Int) : Bool := l.all sampleB
def idxB (n : Int) (l : List Int) : Bool := l.all fun x => inB x 0 (n - 1)
def tableB (t : List Int) : Bool := (decide (t.length = 2) || decide (t.length = 4) || decide (t.length = 8) || decide (t.length = 16)) && areSB t
def tablesB (ts : List (List Int)) : Bool := ts.all tableB && decide (ts.length ≤ 4)
def segB (s : Segment) : Bool := inB s.tg 0 65536 && inB s.ln 0 4000
def envB (e : Envl) : Bool := e.segs.all segB && inB e.st 0 65536 && inB e.rel 0 4000 && decide (e.segs.length ≤ 8)
theorem all_no {α : Type} [Inhabited α] {p : α → Bool} {l : List α} {k : Nat} (hk : k < l.length) (h : p (el l k) = false) : l.all p = false := by
  cases hh : l.all p with
  | false => rfl
  | true =>
    have := List.all_eq_true.1 hh _ (el_mem hk)
    rw [h] at this; cases this
theorem all_yes {α : Type} [Inhabited α] {p : α → Bool} {l : List α} (h : ∀ i, i < l.length → p (el l i) = true) : l.all p = true := by
  rw [List.all_eq_true]
  intro x hx
  obtain ⟨i, hi, rfl⟩ := List.getElem_of_mem hx
  rw [el_eq hi]
  exact h i hi
theorem areSamples_i {M : Mem} {lo hi : Nat} {u : Value} {l : List Int} (h : SlV intP lo hi M u l) : Det Tryz.prog M.length 119 [u] M (.bool (areSB l)) M := by
  obtain ⟨A, n, c, rfl, h1, h2, h3⟩ := h
  have hl := h3.1
  replace h3 := h3.sl
  first | (refine det_fn Tryz.func119 rfl Tryz.ntmps119 Tryz.results119 rfl rfl rfl (by simp) ?_) | (refine det_fnC Tryz.func119 rfl Tryz.ntmps119 Tryz.results119 rfl rfl (by simp) ?_)
  simp
  refine awLoop_T (fun m T M' => ∃ k : Nat, k + m = n ∧ M' = M ∧ look T 7 = some (iv k) ∧ look T 6 = some (iv n) ∧ look T 5 = some (.slice A n c) ∧ ∀ i, i < k → sampleB (el l i) = true) n ⟨0, by omega, rfl, by simp, by simp, by simp, fun i hi => by omega⟩ ?_
  rintro m T M' ⟨k, hm, rfl, t7, t6, t5, hk⟩
  by_cases hlt : k < n
  · obtain ⟨id, off, rfl, he, hc⟩ := h3.at_ hlt
    have c1 := int_cell hc
    simp only [Nat.mul_one] at c1
    simp (disch := omega) [t7, t6, t5, hlt, c1, he]
    refine awCall_det' (isSample_a (el l k)) (Nat.le_refl _) ?_
    by_cases hs : sampleB (el l k) = true
    · have hs' : inB (el l k) (-2147483648) 2147483647 = true := hs
      simp (disch := omega) [hs', t7, t6, t5, wrap_in]
      refine lpI (m - 1) (by omega) ⟨k + 1, by omega, rfl, by simp, by simp [t6], by simp [t5], fun i hi => ?_⟩
      by_cases e : i = k
      · rw [e]; exact hs
      · exact hk i (by omega)
    · rw [Bool.not_eq_true] at hs
      have hs' : inB (el l k) (-2147483648) 2147483647 = false := hs
      simp [hs']
      exact ⟨all_no (by omega) hs, Keeps.refl _⟩
  · obtain rfl : k = n := by omega
    simp [t7, t6, Keeps.refl]
    exact all_yes fun i hi => hk i (by omega)
theorem areIndices_i {M : Mem} {lo hi : Nat} {u : Value} {l : List Int} (q : Int) (hq : 0 ≤ q) (hq' : q ≤ 9223372036854775807) (h : SlV intP lo hi M u l) : Det Tryz.prog M.length 209 [u, iv q] M (.bool (idxB q l)) M := by
  obtain ⟨A, n, c, rfl, h1, h2, h3⟩ := h
  have hl := h3.1
  replace h3 := h3.sl
  first | (refine det_fn Tryz.func209 rfl Tryz.ntmps209 Tryz.results209 rfl rfl rfl (by simp) ?_) | (refine det_fnC Tryz.func209 rfl Tryz.ntmps209 Tryz.results209 rfl rfl (by simp) ?_)
  simp
  refine awLoop_T (fun m T M' => ∃ k : Nat, k + m = n ∧ M' = M ∧ look T 9 = some (iv k) ∧ look T 8 = some (iv n) ∧ look T 7 = some (.slice A n c) ∧ look T 1 = some (iv q) ∧ ∀ i, i < k → inB (el l i) 0 (q - 1) = true) n ⟨0, by omega, rfl, by simp, by simp, by simp, by simp, fun i hi => by omega⟩ ?_
  rintro m T M' ⟨k, hm, rfl, t7, t6, t5, t1, hk⟩
  by_cases hlt : k < n
  · obtain ⟨id, off, rfl, he, hc⟩ := h3.at_ hlt
    have c1 := int_cell hc
    simp only [Nat.mul_one] at c1
    simp (disch := omega) [t7, t6, t5, t1, hlt, c1, he, wrap_in]
    refine awCall_det' (within_a (el l k) 0 (q - 1)) (Nat.le_refl _) ?_
    by_cases hs : inB (el l k) 0 (q - 1) = true
    · simp (disch := omega) [hs, t7, t6, t5, t1, wrap_in]
      refine lpI (m - 1) (by omega) ⟨k + 1, by omega, rfl, by simp, by simp [t6], by simp [t5], by simp [t1], fun i hi => ?_⟩
      by_cases e : i = k
      · rw [e]; exact hs
      · exact hk i (by omega)
    · rw [Bool.not_eq_true] at hs
      simp [hs]
      exact ⟨all_no (by omega) hs, Keeps.refl _⟩
  · obtain rfl : k = n := by omega
    simp [t7, t6, Keeps.refl]
    exact all_yes fun i hi => hk i (by omega)
theorem areTables_i {M : Mem} {lo hi : Nat} {u : Value} {l : List (List Int)} (h : SlV tabP lo hi M u l) : Det Tryz.prog M.length 208 [u] M (.bool (tablesB l)) M := by
  obtain ⟨A, n, c, rfl, h1, h2, h3⟩ := h
  have hl := h3.1
  first | (refine det_fn Tryz.func208 rfl Tryz.ntmps208 Tryz.results208 rfl rfl rfl (by simp) ?_) | (refine det_fnC Tryz.func208 rfl Tryz.ntmps208 Tryz.results208 rfl rfl (by simp) ?_)
  simp
  refine awLoop_T (fun m T M' => ∃ k : Nat, k + m = n ∧ M' = M ∧ look T 8 = some (iv k) ∧ look T 7 = some (iv n) ∧ look T 6 = some (.slice A n c) ∧ look T 0 = some (.slice A n c) ∧ ∀ i, i < k → tableB (el l i) = true) n ⟨0, by omega, rfl, by simp, by simp, by simp, by simp, fun i hi => by omega⟩ ?_
  rintro m T M' ⟨k, hm, rfl, t8, t7, t6, t0, hk⟩
  by_cases hlt : k < n
  · obtain ⟨id, off, us, rfl, he, ⟨u, rfl, hu⟩, hc⟩ := h3.at_ hlt
    have c1 := (cl_cons.1 hc).1
    simp only [Nat.mul_one] at c1
    obtain ⟨A1, n1, c1', rfl, p1, p2, p3⟩ := (show SlV intP lo hi M' _ _ from hu)
    have hn1 := p3.1
    have no : tableB (el l k) = false → tablesB l = false := fun h => by unfold tablesB; rw [all_no (by omega) h]; rfl
    simp (disch := omega) [t8, t7, t6, t0, hlt, c1, he]
    have key : tableB (el l k) = ((decide (n1 = 2) || decide (n1 = 4) || decide (n1 = 8) || decide (n1 = 16)) && areSB (el l k)) := by unfold tableB; rw [hn1]
    by_cases hsz : n1 = 2 ∨ n1 = 4 ∨ n1 = 8 ∨ n1 = 16
    case neg =>
      have e2 : ¬ n1 = 2 := by omega
      have e4 : ¬ n1 = 4 := by omega
      have e8 : ¬ n1 = 8 := by omega
      have e16 : ¬ n1 = 16 := by omega
      have f2 : ¬ (n1 : Int) = 2 := by omega
      have f4 : ¬ (n1 : Int) = 4 := by omega
      have f8 : ¬ (n1 : Int) = 8 := by omega
      have f16 : ¬ (n1 : Int) = 16 := by omega
      simp [f2, f4, f8, f16]
      exact ⟨no (by rw [key]; simp [e2, e4, e8, e16]), Keeps.refl _⟩
    have hpos : (decide (n1 = 2) || decide (n1 = 4) || decide (n1 = 8) || decide (n1 = 16)) = true := by
      rcases hsz with h | h | h | h <;> simp [h]
    rw [hpos, Bool.true_and] at key
    rcases hsz with h | h | h | h
    all_goals
      subst h
      simp
      refine awCall_det' (areSamples_i hu) (Nat.le_refl _) ?_
      by_cases hs : areSB (el l k) = true
      · simp (disch := omega) [hs, t8, t7, t6, t0, wrap_in]
        refine lpI (m - 1) (by omega) ⟨k + 1, by omega, rfl, by simp, by simp [t7], by simp [t6], by simp [t0], fun i hi => ?_⟩
        by_cases e : i = k
        · rw [e, key]; exact hs
        · exact hk i (by omega)
      · rw [Bool.not_eq_true] at hs
        simp [hs]
        exact ⟨no (by rw [key]; exact hs), Keeps.refl _⟩
  · obtain rfl : k = n := by omega
    simp [t8, t7, t0, Keeps.refl]
    unfold tablesB
    rw [all_yes fun i hi => hk i (by omega), hl]
    by_cases h4 : k ≤ 4 <;> simp [h4] <;> omega
theorem isEnvelope_i {M : Mem} {lo hi : Nat} {us : List Value} {x : Envl} (h : envP.rd lo hi M x us) : Det Tryz.prog M.length 118 [.agg us.toArray] M (.bool (envB x)) M := by
  obtain ⟨u, rfl, hu⟩ := h
  obtain ⟨A, n, c, rfl, h1, h2, h3⟩ := hu
  have hl := h3.1
  replace h3 := h3.sl
  have lev : ∀ {M : Mem} (z : Int), Det Tryz.prog M.length 173 [iv z] M (.bool (inB z 0 65536)) M := fun {M} z => by
    first | (refine det_fn Tryz.func173 rfl Tryz.ntmps173 Tryz.results173 rfl rfl rfl (by simp) ?_) | (refine det_fnC Tryz.func173 rfl Tryz.ntmps173 Tryz.results173 rfl rfl (by simp) ?_)
    simp
    refine awCall_det' (within_a _ _ _) (by simp) ?_
    simp [Keeps.refl]
  first | (refine det_fn Tryz.func118 rfl Tryz.ntmps118 Tryz.results118 rfl rfl rfl (by simp) ?_) | (refine det_fnC Tryz.func118 rfl Tryz.ntmps118 Tryz.results118 rfl rfl (by simp) ?_)
  simp
  obtain ⟨M0, hM0⟩ : ∃ M0 : Mem, M0 = M ++ [Slot.live ⟨[iv x.st, .slice A n c, iv x.rel], true, true, 42, 3⟩] := ⟨_, rfl⟩
  have k0 : Keeps M M0 := by rw [hM0]; exact keeps_app _
  have b0 : cellAt M0 M.length 0 = some (iv x.st) := by rw [hM0]; simp
  have b1 : cellAt M0 M.length 1 = some (.slice A n c) := by rw [hM0]; simp
  have b2 : cellAt M0 M.length 2 = some (iv x.rel) := by rw [hM0]; simp
  have l0 := k0.len
  rw [← hM0]
  clear hM0
  refine awLoop_T (fun m T M' => ∃ k : Nat, k + m = n ∧ Keeps M0 M' ∧ look T 8 = some (iv k) ∧ look T 7 = some (iv n) ∧ look T 6 = some (.slice A n c) ∧ look T 1 = some (.pointer (some ⟨M.length, 0, none⟩)) ∧ ∀ i, i < k → segB (el x.segs i) = true) n ⟨0, by omega, Keeps.refl _, by simp, by simp, by simp, by simp, fun i hi => by omega⟩ ?_
  rintro m T M1 ⟨k, hm, k1, t8, t7, t6, t1, hk⟩
  have k01 := k0.trans k1
  have l1 := k1.len
  by_cases hlt : k < n
  · obtain ⟨id, off, rfl, he, hc⟩ := (h3.keeps k01).at_ hlt
    have no : segB (el x.segs k) = false → envB x = false := fun h => by unfold envB; rw [all_no (by omega) h]; rfl
    simp (disch := omega) [t8, t7, t6, t1, hlt, segment_load hc, he]
    refine awCall_det' (lev (el x.segs k).tg) (by simp; omega) ?_
    by_cases g1 : inB (el x.segs k).tg 0 65536 = true
    · simp (disch := omega) [g1]
      refine awCall_det' (isCount_a (el x.segs k).ln) (by simp; omega) ?_
      by_cases g2 : inB (el x.segs k).ln 0 4000 = true
      · simp (disch := omega) [g2, t8, t7, t6, t1, wrap_in]
        refine lpI (m - 1) (by omega) ⟨k + 1, by omega, k1.app _, by simp, by simp [t7], by simp [t6], by simp [t1], fun i hi => ?_⟩
        by_cases e : i = k
        · rw [e]; unfold segB; rw [g1, g2]; rfl
        · exact hk i (by omega)
      · rw [Bool.not_eq_true] at g2
        simp [g2]
        exact ⟨no (by unfold segB; rw [g2]; simp), k01.app _⟩
    · rw [Bool.not_eq_true] at g1
      simp [g1]
      exact ⟨no (by unfold segB; rw [g1]; rfl), k01.app _⟩
  · obtain rfl : k = n := by omega
    have ha : x.segs.all segB = true := all_yes fun i hi => hk i (by omega)
    simp (disch := omega) [t8, t7, t1, cellAt_keeps k1 b0]
    refine awCall_det' (lev x.st) (by omega) ?_
    by_cases g1 : inB x.st 0 65536 = true
    · simp (disch := omega) [g1, t1, cellAt_keeps k1 b2]
      refine awCall_det' (isCount_a x.rel) (by omega) ?_
      by_cases g2 : inB x.rel 0 4000 = true
      · by_cases g3 : k ≤ 8
        · simp (disch := omega) [g2, t1, cellAt_keeps k1 b1, g3]
          exact ⟨by unfold envB; rw [ha, g1, g2, hl]; simpa using by omega, k01⟩
        · have g3' : ¬ (k : Int) ≤ 8 := by omega
          simp (disch := omega) [g2, t1, cellAt_keeps k1 b1, g3']
          exact ⟨by unfold envB; rw [ha, g1, g2, hl]; simpa using by omega, k01⟩
      · rw [Bool.not_eq_true] at g2
        simp [g2]
        exact ⟨by unfold envB; rw [g2]; simp, k01⟩
    · rw [Bool.not_eq_true] at g1
      simp [g1]
      exact ⟨by unfold envB; rw [g1]; simp, k01⟩
end Go.Proofs.YtimijeeihicohaaGreat
