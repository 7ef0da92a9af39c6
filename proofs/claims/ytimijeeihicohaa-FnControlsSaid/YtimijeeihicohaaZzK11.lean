/- Parts of the proof, together: Instruments: the reference's tests of nodes, tables, envelopes. Nodes and patches: the reference's tests. Patches: the reference's test of their form. Patches and instruments: the reference's order, its test of instruments. Increments of keys. Drawn numbers of nodes. Drawn nodes in memory: a row of nodes, and the inputs of each in a row of its own. A region that draws its order: an invariant over  No conditions. -/
import Derived.Test.YtimijeeihicohaaZzK10
import Derived.Laws.BitsLemmas
import Derived.Test.YtimijeeihicohaaZzK8
import Derived.Test.YtimijeeihicohaaZzK9
import Derived.Test.YtimijeeihicohaaZzK6
import Derived.Test.YtimijeeihicohaaZzK7
namespace Go.Proofs.Ytimijeeihicohaa
open Go.RowKit
set_option linter.unusedVariables false
set_option linter.unusedSimpArgs false
set_option maxRecDepth 100000
attribute [local simp] List.getElem?_cons_zero
attribute [local irreducible] awCond awCall awLoop awDraw ow retQ retC resQ Keeps
theorem l00Has_s {M : Mem} {lo hi : Nat} {u : Value} {l : List Int} (z : Int) (h : SlV intP lo hi M u l) : Det Try.prog M.length 139 [u, iv z] M (.bool (decide (z ∈ l))) M := by
  obtain ⟨A, n, c, rfl, h1, h2, h3⟩ := h
  have hl := h3.1
  replace h3 := h3.sl
  first | (refine det_fn Try.func139 rfl Try.ntmps139 Try.results139 rfl rfl rfl (by simp) ?_) | (refine det_fnC Try.func139 rfl Try.ntmps139 Try.results139 rfl rfl (by simp) ?_)
  simp
  refine awLoop_T (fun m T M' => ∃ k : Nat, k + m = n ∧ M' = M ∧ look T 5 = some (iv k) ∧ look T 0 = some (.slice A n c) ∧ look T 1 = some (iv z) ∧ ∀ i, i < k → el l i ≠ z) n ⟨0, by omega, rfl, by simp, by simp, by simp, fun i hi => by omega⟩ ?_
  rintro m T M' ⟨k, hm, rfl, t5, t0, t1, hk⟩
  by_cases hlt : k < n
  · obtain ⟨id, off, rfl, he, hc⟩ := h3.at_ hlt
    have c1 := int_cell hc
    simp only [Nat.mul_one] at c1
    by_cases hz : el l k = z
    · simp (disch := omega) [t5, t0, t1, hlt, c1, he, hz]
      refine ⟨?_, Keeps.refl _⟩
      rw [← hz]
      exact el_mem (by omega)
    · simp (disch := omega) [t5, t0, t1, hlt, c1, he, hz, wrap_in]
      refine lpI (m - 1) (by omega) ⟨k + 1, by omega, rfl, by simp, by simp [t0], by simp [t1], fun i hi => ?_⟩
      by_cases e : i = k
      · rw [e]; exact hz
      · exact hk i (by omega)
  · obtain rfl : k = n := by omega
    have hz : z ∉ l := fun hh => by
      obtain ⟨i, hi, e⟩ := List.getElem_of_mem hh
      rw [el_eq hi] at e
      exact hk i (by omega) e
    simp [t5, t0, Keeps.refl, hz]
theorem l03Ok_s {M : Mem} {lo hi : Nat} {u : Value} {l : List Int} (h : SlV intP lo hi M u l) (hb : l.length ≤ 4000) : Det Try.prog M.length 60 [u] M (.bool (areSB l)) M := by
  obtain ⟨A, n, c, rfl, h1, h2, h3⟩ := h
  have hl := h3.1
  replace h3 := h3.sl
  have e0 : ¬ (4000 : Int) < n := by omega
  first | (refine det_fn Try.func60 rfl Try.ntmps60 Try.results60 rfl rfl rfl (by simp) ?_) | (refine det_fnC Try.func60 rfl Try.ntmps60 Try.results60 rfl rfl (by simp) ?_)
  simp [e0]
  refine awLoop_T (fun m T M' => ∃ k : Nat, k + m = n ∧ M' = M ∧ look T 3 = some (iv k) ∧ look T 0 = some (.slice A n c) ∧ ∀ i, i < k → sampleB (el l i) = true) n ⟨0, by omega, rfl, by simp, by simp, fun i hi => by omega⟩ ?_
  rintro m T M' ⟨k, hm, rfl, t3, t0, hk⟩
  by_cases hlt : k < n
  · obtain ⟨id, off, rfl, he, hc⟩ := h3.at_ hlt
    have c1 := int_cell hc
    simp only [Nat.mul_one] at c1
    simp (disch := omega) [t3, t0, hlt, c1, he]
    refine awCall_det' (l01Sample_a (el l k)) (Nat.le_refl _) ?_
    by_cases hs : sampleB (el l k) = true
    · have hs' : inB (el l k) (-2147483648) 2147483647 = true := hs
      simp (disch := omega) [hs', t3, t0, wrap_in]
      refine lpI (m - 1) (by omega) ⟨k + 1, by omega, rfl, by simp, by simp [t0], fun i hi => ?_⟩
      by_cases e : i = k
      · rw [e]; exact hs
      · exact hk i (by omega)
    · rw [Bool.not_eq_true] at hs
      have hs' : inB (el l k) (-2147483648) 2147483647 = false := hs
      simp [hs']
      exact ⟨all_no (by omega) hs, Keeps.refl _⟩
  · obtain rfl : k = n := by omega
    simp [t3, t0, Keeps.refl]
    exact all_yes fun i hi => hk i (by omega)
theorem lit_slv {M : Mem} {l : List Int} {n : Nat} {cs : List Value} {e : TypeId} (hc : cs = cellsL intR l) (hn : l.length = n) (hb : n ≤ 1000) : SlV intP M.length (M ++ [Slot.live ⟨cs, true, true, e, 1⟩]).length (M ++ [Slot.live ⟨cs, true, true, e, 1⟩]) (.slice (some ⟨M.length, 0, none⟩) n n) l := by
  subst hc
  refine ⟨_, n, n, rfl, by omega, (fun h => by cases h), SlP.of_sl (Sl.new hn) fun a e _ => ?_⟩
  injection e with e
  subst e
  exact ⟨Nat.le_refl _, by simp⟩
theorem fill4I (a b c d : Int) : Instr.fill (fun i => some (i, 1)) (zrow [iv 0] 4).toArray [(0, iv a), (1, iv b), (2, iv c), (3, iv d)] = some #[iv a, iv b, iv c, iv d] := by rfl
theorem l14Ok_s {M : Mem} {lo hi id0 off0 : Nat} {us : List Value} {x : Envl} (h : envP.rd lo hi M x us) (hc0 : Cl M id0 off0 us) : Det Try.prog M.length 55 [.pointer (some ⟨id0, off0, none⟩)] M (.bool (envB x)) M := by
  obtain ⟨u, rfl, hu⟩ := h
  obtain ⟨A, n, c, rfl, h1, h2, h3⟩ := hu
  have hl := h3.1
  replace h3 := h3.sl
  have b0 : cellAt M id0 off0 = some (iv x.st) := hc0 0 _ rfl
  have b1 : cellAt M id0 (off0 + 1) = some (.slice A n c) := hc0 1 _ rfl
  have b2 : cellAt M id0 (off0 + 2) = some (iv x.rel) := hc0 2 _ rfl
  have lev : ∀ {M : Mem} (z : Int), Det Try.prog M.length 85 [iv z] M (.bool (inB z 0 65536)) M := fun {M} z => by
    first | (refine det_fn Try.func85 rfl Try.ntmps85 Try.results85 rfl rfl rfl (by simp) ?_) | (refine det_fnC Try.func85 rfl Try.ntmps85 Try.results85 rfl rfl (by simp) ?_)
    simp
    refine awCall_det' (l00In_a _ _ _) (by simp) ?_
    simp [Keeps.refl]
  have len : ∀ {M : Mem} (z : Int), Det Try.prog M.length 84 [iv z] M (.bool (inB z 0 4000)) M := fun {M} z => by
    first | (refine det_fn Try.func84 rfl Try.ntmps84 Try.results84 rfl rfl rfl (by simp) ?_) | (refine det_fnC Try.func84 rfl Try.ntmps84 Try.results84 rfl rfl (by simp) ?_)
    simp
    refine awCall_det' (l00In_a _ _ _) (by simp) ?_
    simp [Keeps.refl]
  first | (refine det_fn Try.func55 rfl Try.ntmps55 Try.results55 rfl rfl rfl (by simp) ?_) | (refine det_fnC Try.func55 rfl Try.ntmps55 Try.results55 rfl rfl (by simp) ?_)
  simp
  refine awLoop_T (fun m T M' => ∃ k : Nat, k + m = n ∧ M' = M ∧ look T 3 = some (iv k) ∧ look T 0 = some (.pointer (some ⟨id0, off0, none⟩)) ∧ ∀ i, i < k → segB (el x.segs i) = true) n ⟨0, by omega, rfl, by simp, by simp, fun i hi => by omega⟩ ?_
  rintro m T M1 ⟨k, hm, rfl, t3, t0, hk⟩
  by_cases hlt : k < n
  · obtain ⟨id, off, rfl, he, hc⟩ := h3.at_ hlt
    obtain ⟨c0, c1⟩ := segment_cells hc
    have no : segB (el x.segs k) = false → envB x = false := fun h => by unfold envB; rw [all_no (by omega) h]; rfl
    simp (disch := omega) [t3, t0, hlt, b1, he, c0, c1]
    refine awCall_det' (len (el x.segs k).ln) (by omega) ?_
    by_cases g2 : inB (el x.segs k).ln 0 4000 = true
    · simp (disch := omega) [g2, t3, t0, hlt, b1, he, c0, c1]
      refine awCall_det' (lev (el x.segs k).tg) (by omega) ?_
      by_cases g1 : inB (el x.segs k).tg 0 65536 = true
      · simp (disch := omega) [g1, t3, t0, wrap_in]
        refine lpI (m - 1) (by omega) ⟨k + 1, by omega, rfl, by simp, by simp [t0], fun i hi => ?_⟩
        by_cases e : i = k
        · rw [e]; unfold segB; rw [g1, g2]; rfl
        · exact hk i (by omega)
      · rw [Bool.not_eq_true] at g1
        simp [g1]
        exact ⟨no (by unfold segB; rw [g1]; rfl), Keeps.refl _⟩
    · rw [Bool.not_eq_true] at g2
      simp [g2]
      exact ⟨no (by unfold segB; rw [g2]; simp), Keeps.refl _⟩
  · obtain rfl : k = n := by omega
    have ha : x.segs.all segB = true := all_yes fun i hi => hk i (by omega)
    simp (disch := omega) [t3, t0, b0, b1]
    refine awCall_det' (lev x.st) (by omega) ?_
    by_cases g1 : inB x.st 0 65536 = true
    · simp (disch := omega) [g1, t0, b2]
      refine awCall_det' (len x.rel) (by omega) ?_
      by_cases g2 : inB x.rel 0 4000 = true
      · by_cases g3 : k ≤ 8
        · simp (disch := omega) [g2, t0, b1, g3]
          exact ⟨by unfold envB; rw [ha, g1, g2, hl]; simpa using by omega, Keeps.refl _⟩
        · have g3' : ¬ (k : Int) ≤ 8 := by omega
          simp (disch := omega) [g2, t0, b1, g3']
          exact ⟨by unfold envB; rw [ha, g1, g2, hl]; simpa using by omega, Keeps.refl _⟩
      · rw [Bool.not_eq_true] at g2
        simp [g2]
        exact ⟨by unfold envB; rw [g2]; simp, Keeps.refl _⟩
    · rw [Bool.not_eq_true] at g1
      simp [g1]
      exact ⟨by unfold envB; rw [g1]; simp, Keeps.refl _⟩
end Go.Proofs.Ytimijeeihicohaa

namespace Go.Proofs.Ytimijeeihicohaa
open Go.RowKit
set_option linter.unusedVariables false
set_option linter.unusedSimpArgs false
set_option maxRecDepth 100000
attribute [local simp] List.getElem?_cons_zero
attribute [local irreducible] awCond awCall awLoop awDraw ow retQ retC resQ Keeps
theorem l00Max_v {M : Mem} (a b : Int) : Det Try.prog M.length 92 [iv a, iv b] M (iv (max a b)) M := by
  first | (refine det_fn Try.func92 rfl Try.ntmps92 Try.results92 rfl rfl rfl (by simp) ?_) | (refine det_fnC Try.func92 rfl Try.ntmps92 Try.results92 rfl rfl (by simp) ?_)
  simp
  by_cases h : b < a
  · simp [h, Keeps.refl]; omega
  · simp [h, Keeps.refl]; omega
theorem fill10I (a b c d e f g h i j : Int) : Instr.fill (fun i => some (i, 1)) (zrow [iv 0] 10).toArray [(0, iv a), (1, iv b), (2, iv c), (3, iv d), (4, iv e), (5, iv f), (6, iv g), (7, iv h), (8, iv i), (9, iv j)] = some #[iv a, iv b, iv c, iv d, iv e, iv f, iv g, iv h, iv i, iv j] := by
  have := fill_recs intR [a, b, c, d, e, f, g, h, i, j] (n := 10) (z := [iv 0]) (by omega) rfl rfl
  simp [Instr.fill, Value.cells, zrow]
theorem l06HasA_s {M : Mem} (z : Int) : Det Try.prog M.length 132 [iv z] M (.bool (decide (z ∈ hasAL))) M := by
  first | (refine det_fn Try.func132 rfl Try.ntmps132 Try.results132 rfl rfl rfl (by simp) ?_) | (refine det_fnC Try.func132 rfl Try.ntmps132 Try.results132 rfl rfl (by simp) ?_)
  simp [fill10I]
  have hd := l00Has_s z (lit_slv (M := M) (n := 10) (l := hasAL) (cs := [iv 1, iv 2, iv 5, iv 6, iv 10, iv 11, iv 12, iv 13, iv 14, iv 17]) (e := 2) rfl rfl (by omega))
  refine awCall_det' hd (by simp) ?_
  simp [keeps_app]
theorem fill18I : Instr.fill (fun i => some (i, 1)) (zrow [iv 0] 18).toArray [(0, iv (-1)), (1, iv 0), (2, iv 0), (3, iv 2), (4, iv 2), (5, iv 1), (6, iv 1), (7, iv 1), (8, iv 1), (9, iv 2), (10, iv 1), (11, iv 1), (12, iv 1), (13, iv 1), (14, iv 0), (15, iv 3), (16, iv 2), (17, iv 1)] = some #[iv (-1), iv 0, iv 0, iv 2, iv 2, iv 1, iv 1, iv 1, iv 1, iv 2, iv 1, iv 1, iv 1, iv 1, iv 0, iv 3, iv 2, iv 1] := by
  simp [Instr.fill, Value.cells, zrow]
theorem l06Arity_s {M : Mem} (z : Int) (hz : inB z 1 17 = true) : Det Try.prog M.length 101 [iv z] M (iv (el arityL z.toNat)) M := by
  have hz' := inB_iff.1 hz
  obtain ⟨k, rfl⟩ := Int.eq_ofNat_of_zero_le (show 0 ≤ z by omega)
  have hk : k < 18 := by omega
  have hk' : (k : Int) < 18 := by omega
  have hg : (cellsL intR arityL)[k]? = some (iv (el arityL k)) := by
    have := cellsL_get intR (l := arityL) (i := k) (j := 0) hk (by omega)
    rw [Nat.mul_one, Nat.add_zero] at this
    rw [this]; rfl
  replace hg : ([iv (-1), iv 0, iv 0, iv 2, iv 2, iv 1, iv 1, iv 1, iv 1, iv 2, iv 1, iv 1, iv 1, iv 1, iv 0, iv 3, iv 2, iv 1] : List Value)[k]? = some (iv (el arityL k)) := hg
  first | (refine det_fn Try.func101 rfl Try.ntmps101 Try.results101 rfl rfl rfl (by simp) ?_) | (refine det_fnC Try.func101 rfl Try.ntmps101 Try.results101 rfl rfl (by simp) ?_)
  simp only [Int.toNat_natCast]
  generalize el arityL k = y at hg ⊢
  simp (disch := omega) [fill18I, hk']
  obtain ⟨_, e⟩ := List.getElem?_eq_some_iff.1 hg
  exact ⟨e, keeps_app _⟩
end Go.Proofs.Ytimijeeihicohaa

namespace Go.Proofs.Ytimijeeihicohaa
open Go.RowKit
set_option linter.unusedVariables false
set_option linter.unusedSimpArgs false
set_option maxRecDepth 100000
attribute [local simp] List.getElem?_cons_zero
attribute [local irreducible] awCond awCall awLoop awDraw ow retQ retC resQ Keeps
def nodeF2 (p : Patch) (x : Node) : Bool := nodeB2 x p.tabs.length && (!(decide (x.k = 1) && decide (p.inp ≤ x.a)) && x.from_.all fun f => decide (f < p.nodes.length))
def formB2 (p : Patch) : Bool := (inB p.inp 0 4 && tablesB p.tabs && decide (p.nodes.length ≤ 24) && decide (p.outs.length ≤ 4)) && (p.nodes.all (nodeF2 p) && idxB p.nodes.length p.outs)
theorem nodeF_eq (p : Patch) (x : Node) : nodeF p x = nodeF2 p x := by
  unfold nodeF nodeF2
  rw [nodeB_eq]
  by_cases hb : nodeB2 x p.tabs.length = true
  case neg => simp [hb]
  have hf : x.from_.all (fun f => inB f 0 23) = true := by
    unfold nodeB2 at hb
    simp only [Bool.and_eq_true] at hb
    exact hb.2.2.2.1
  have e : idxB p.nodes.length x.from_ = x.from_.all fun f => decide (f < p.nodes.length) := by
    unfold idxB
    rw [Bool.eq_iff_iff, List.all_eq_true, List.all_eq_true]
    constructor
    · intro h y hy
      have := inB_iff.1 (h y hy)
      simp; omega
    · intro h y hy
      have h1 := inB_iff.1 (List.all_eq_true.1 hf y hy)
      have h2 := h y hy
      simp at h2
      exact inB_iff.2 (by omega)
  rw [e, hb, Bool.true_and, Bool.true_and, Bool.and_comm]
theorem formB_eq (p : Patch) : formB p = formB2 p := by
  unfold formB formB2
  have e : p.nodes.all (nodeF p) = p.nodes.all (nodeF2 p) := by
    congr 1
    funext x
    exact nodeF_eq p x
  rw [e]
  cases inB p.inp 0 4 <;> cases tablesB p.tabs <;> cases decide (p.nodes.length ≤ 24) <;> cases decide (p.outs.length ≤ 4) <;> cases idxB p.nodes.length p.outs <;> cases p.nodes.all (nodeF2 p) <;> rfl
/-- What is taken, as the reference keeps it. -/
structure TkOut (ns : List Node) (tk : List Bool) (out : List Int) : Prop where
  len : tk.length = ns.length
  iff : ∀ i : Nat, i < ns.length → (el tk i = true ↔ (i : Int) ∈ out)
theorem TkOut.nil (ns : List Node) : TkOut ns (List.replicate ns.length false) [] := ⟨by simp, fun i hi => by simp [el, hi]⟩
theorem TkOut.next {ns : List Node} {tk : List Bool} {out : List Int} (h : TkOut ns tk out) {i : Nat} (hi : i < ns.length) : TkOut ns (tk.set i true) (out ++ [(i : Int)]) := by
  refine ⟨by simp [h.len], fun j hj => ?_⟩
  by_cases e : j = i
  · subst e
    have : el (tk.set j true) j = true := by simp [el, h.len, hj]
    simp [this]
  · have : el (tk.set i true) j = el tk j := by simp [el, List.getElem?_set_ne (Ne.symm e)]
    rw [this, h.iff j hj]
    simp
    omega
theorem TkOut.rdy {ns : List Node} {tk : List Bool} {out : List Int} (h : TkOut ns tk out) {i : Nat} (hi : i < ns.length) (hw : ∀ k, k < (waits (el ns i)).length → ∃ f : Nat, el (waits (el ns i)) k = f ∧ f < ns.length) :
    rdyT ns tk i = (!decide ((i : Int) ∈ out) && (waits (el ns i)).all fun f => decide (f ∈ out)) := by
  unfold rdyT
  have e1 : el tk i = decide ((i : Int) ∈ out) := by
    have := h.iff i hi
    rw [Bool.eq_iff_iff, this]
    simp
  rw [e1]
  congr 1
  generalize waits (el ns i) = W at hw
  rw [Bool.eq_iff_iff, List.all_eq_true, List.all_eq_true]
  have key : ∀ y, y ∈ W → (el tk y.toNat = true ↔ decide (y ∈ out) = true) := by
    intro y hy
    obtain ⟨k, hk, rfl⟩ := List.getElem_of_mem hy
    obtain ⟨f, hf, hfl⟩ := hw k hk
    rw [el_eq hk, hf]
    have := h.iff f hfl
    simp [this]
  exact ⟨fun hh y hy => (key y hy).1 (hh y hy), fun hh y hy => (key y hy).2 (hh y hy)⟩
end Go.Proofs.Ytimijeeihicohaa

namespace Go.Proofs.Ytimijeeihicohaa
open Go.RowKit
set_option linter.unusedVariables false
set_option linter.unusedSimpArgs false
set_option maxRecDepth 100000
attribute [local simp] List.getElem?_cons_zero
attribute [local irreducible] awCond awCall awLoop awDraw ow retQ retC resQ Keeps
end Go.Proofs.Ytimijeeihicohaa

namespace Go.Proofs.Ytimijeeihicohaa
open Go.RowKit
set_option linter.unusedVariables false
set_option linter.unusedSimpArgs false
set_option maxRecDepth 100000
attribute [local simp] List.getElem?_cons_zero
attribute [local irreducible] awCond awCall awLoop awDraw ow retQ retC resQ Keeps
/-- The sample that differs from n by a multiple of 2^32. -/
def smp (n : Int) : Int := (n + 2147483648) % 4294967296 - 2147483648
theorem smp_bd (n : Int) : -2147483648 ≤ smp n ∧ smp n ≤ 2147483647 := by unfold smp; omega
theorem andS (n : Int) : intV .and .i64 n 4294967295 = some (.int .i64 (n % 4294967296)) := by
  have h1 : (BitVec.ofInt 64 (4294967295 : Int)).toNat = 2 ^ 32 - 1 := by decide
  have h2 : ((BitVec.ofInt 64 n).toNat : Int) = n % 18446744073709551616 := by
    rw [BitVec.toNat_ofInt]
    have := Int.emod_nonneg n (show (18446744073709551616 : Int) ≠ 0 by decide)
    show ((n % 18446744073709551616).toNat : Int) = _
    omega
  have key : IntKind.i64.wrap ((BitVec.ofInt 64 n &&& BitVec.ofInt 64 4294967295).toNat : Int) = n % 4294967296 := by
    rw [BitVec.toNat_and, h1, Nat.and_two_pow_sub_one_eq_mod, IntKind.wrap_i64]
    have h3 : (((BitVec.ofInt 64 n).toNat % 2 ^ 32 : Nat) : Int) = (n % 18446744073709551616) % 4294967296 := by
      rw [Int.natCast_emod, h2]
      rfl
    rw [h3]
    omega
  show some (Value.int .i64 (IntKind.i64.wrap ((BitVec.ofInt 64 n &&& BitVec.ofInt 64 4294967295).toNat : Int))) = _
  rw [key]
theorem Wrap_s {M : Mem} (n : Int) : Det Try.prog M.length 83 [iv n] M (iv (smp n)) M := by
  have e : IntKind.i64.wrap (IntKind.i32.wrap n) = smp n := by
    rw [IntKind.wrap_i32, IntKind.wrap_i64]; unfold smp; omega
  first | (refine det_fn Try.func83 rfl Try.ntmps83 Try.results83 rfl rfl rfl (by simp) ?_) | (refine det_fnC Try.func83 rfl Try.ntmps83 Try.results83 rfl rfl (by simp) ?_)
  simp [e, Keeps.refl]
theorem l01Wrap_t {M : Mem} (n : Int) : Det Try.prog M.length 104 [iv n] M (iv (smp n)) M := by
  have h1 : 0 ≤ n % 4294967296 ∧ n % 4294967296 < 4294967296 := by omega
  first | (refine det_fn Try.func104 rfl Try.ntmps104 Try.results104 rfl rfl rfl (by simp) ?_) | (refine det_fnC Try.func104 rfl Try.ntmps104 Try.results104 rfl rfl (by simp) ?_)
  simp [andS]
  by_cases hb : 2147483647 < n % 4294967296
  · simp (disch := omega) [hb, wrap_in, Keeps.refl]
    unfold smp; omega
  · simp (disch := omega) [hb, wrap_in, Keeps.refl]
    unfold smp; omega
def incr (st : List Int) (key : Int) : Int := smp (el st (key % 12).toNat * 2 ^ (key / 12).toNat)
theorem instB_steps {x : Inst} (h : instB x = true) : x.steps.length = 12 ∧ ∀ i, i < 12 → -2147483648 ≤ el x.steps i ∧ el x.steps i ≤ 2147483647 := by
  unfold instB at h
  simp only [Bool.and_eq_true, decide_eq_true_eq] at h
  obtain ⟨-, -, -, -, h1, h2⟩ := h
  refine ⟨h1, fun i hi => ?_⟩
  have := List.all_eq_true.1 h2 _ (el_mem (l := x.steps) (i := i) (by omega))
  exact inB_iff.1 this
theorem shift_bd {a : Int} {c : Nat} (h1 : -2147483648 ≤ a) (h2 : a ≤ 2147483647) (hc : c ≤ 10) : -9223372036854775808 ≤ a * 2 ^ c ∧ a * 2 ^ c ≤ 9223372036854775807 := by
  have h : c = 0 ∨ c = 1 ∨ c = 2 ∨ c = 3 ∨ c = 4 ∨ c = 5 ∨ c = 6 ∨ c = 7 ∨ c = 8 ∨ c = 9 ∨ c = 10 := by omega
  rcases h with h | h | h | h | h | h | h | h | h | h | h <;> subst h <;> simp <;> omega
theorem shlS {a : Int} {c : Nat} (h1 : -2147483648 ≤ a) (h2 : a ≤ 2147483647) (hc : c ≤ 10) : intV .shl .i64 a c = some (.int .i64 (a * 2 ^ c)) := by
  obtain ⟨g1, g2⟩ := shift_bd h1 h2 hc
  have e : intV .shl .i64 a (c : Int) = some (.int .i64 (IntKind.i64.wrap (a * 2 ^ (min ((c : Int)).toNat IntKind.i64.bits)))) := by
    show (if (c : Int) < 0 then none else _) = _
    simp [show ¬ ((c : Int) < 0) by omega]
  rw [e]
  have : min ((c : Int)).toNat IntKind.i64.bits = c := by
    have : IntKind.i64.bits = 64 := rfl
    rw [this]; omega
  rw [this, wrap_in g1 g2]
theorem increment_i {M : Mem} {lo hi : Nat} {us : List Value} {x : Inst} {key : Int} (h : instP.rd lo hi M x us) (hb : instB x = true) (hk : inB key 0 127 = true) : Det Try.prog M.length 54 [.agg us.toArray, iv key] M (iv (incr x.steps key)) M := by
  obtain ⟨ps, es, w, rfl, hp, he, hw⟩ := h
  obtain ⟨A1, n1, c1, A2, n2, c2, A3, n3, c3, rfl⟩ := patch_isV hp
  obtain ⟨A4, n4, c4, rfl⟩ := env_isV he
  obtain ⟨A5, n5, c5, rfl, r1, r2, r3⟩ := hw
  have hk' := inB_iff.1 hk
  obtain ⟨hl, hst⟩ := instB_steps hb
  have hn := r3.1
  obtain ⟨k, rfl⟩ := Int.eq_ofNat_of_zero_le hk'.1
  have e12 : ((k : Int).tmod 12) = ((k % 12 : Nat) : Int) := by rw [Int.tmod_eq_emod_of_nonneg (by omega)]; omega
  have d12 : ((k : Int).tdiv 12) = ((k / 12 : Nat) : Int) := by rw [Int.tdiv_eq_ediv_of_nonneg (by omega)]; omega
  have hlt : k % 12 < n5 := by omega
  obtain ⟨id, off, rfl, hez, hc⟩ := r3.sl.at_ hlt
  have c1' := int_cell hc
  simp only [Nat.mul_one] at c1'
  have hs := hst (k % 12) (by omega)
  have hlt' : ((k % 12 : Nat) : Int) < n5 := by omega
  have t12 : ((k : Int) % 12).toNat = k % 12 := by omega
  have u12 : IntKind.u64.wrap ((k : Int) / 12) = ((k / 12 : Nat) : Int) := by rw [IntKind.wrap_u64]; omega
  have s12 : intV .shl .i64 (el x.steps (k % 12)) ((k : Int) / 12) = some (.int .i64 (el x.steps (k % 12) * 2 ^ (k / 12))) := by
    have := shlS (c := k / 12) hs.1 hs.2 (by omega)
    rw [show (((k / 12 : Nat)) : Int) = (k : Int) / 12 by omega] at this
    exact this
  have l12 : (0 : Int) ≤ (k : Int) % 12 ∧ (k : Int) % 12 < (n5 : Int) := by omega
  first | (refine det_fn Try.func54 rfl Try.ntmps54 Try.results54 rfl rfl rfl (by simp) ?_) | (refine det_fnC Try.func54 rfl Try.ntmps54 Try.results54 rfl rfl (by simp) ?_)
  simp (disch := omega) [e12, d12, wrap_in, hlt', hez, c1', cellAt_app c1', rowEsz_keeps (keeps_app _) hez, t12, u12, s12, l12, binV_shift (op := .shl) rfl]
  refine awCall_det' (Wrap_s _) (by simp) ?_
  refine ⟨?_, keeps_app _⟩
  unfold incr
  rw [show ((k : Int) % 12).toNat = k % 12 by omega, show ((k : Int) / 12).toNat = k / 12 by omega]
def incV (x : Inst) (key : Int) : Int × Int := if instB x = true then (if inB key 0 127 = true then (incr x.steps key, 0) else (0, 2)) else (0, 1)
theorem IncrementOf_i {M : Mem} {lo hi : Nat} {us : List Value} {x : Inst} (key : Int) (h : instP.rd lo hi M x us) : Det Try.prog M.length 23 [.agg us.toArray, iv key] M (.tuple #[iv (incV x key).1, iv (incV x key).2]) M := by
  have hl := instP.len h
  have ht : us.take 8 = us := List.take_of_length_le (by omega)
  unfold incV
  first | (refine det_fn Try.func23 rfl Try.ntmps23 Try.results23 rfl rfl rfl (by simp) ?_) | (refine det_fnC Try.func23 rfl Try.ntmps23 Try.results23 rfl rfl (by simp) ?_)
  simp [hl, ht]
  refine awCall_det' (isInstrument_i (instP.app h _)) (by simp) ?_
  by_cases hb : instB x = true
  case neg => simp [hb, keeps_app]
  simp [hb]
  refine awCall_det' (isKey_a key) (by simp) ?_
  by_cases hk : inB key 0 127 = true
  case neg => simp [hb, hk, keeps_app]
  simp [hk, hl, ht]
  refine awCall_det' (increment_i (instP.app h _) hb hk) (by simp) ?_
  simp [hb, hk, keeps_app]
end Go.Proofs.Ytimijeeihicohaa

namespace Go.Proofs.Ytimijeeihicohaa
open Go.RowKit
set_option linter.unusedVariables false
set_option linter.unusedSimpArgs false
set_option maxRecDepth 100000
attribute [local simp] List.getElem?_cons_zero
attribute [local irreducible] awCond awCall awLoop awDraw ow retQ retC resQ Keeps
def smB (x : Int) : Prop := -2147483648 ≤ x ∧ x ≤ 2147483647
theorem smB_smp (n : Int) : smB (smp n) := smp_bd n
theorem l01Draw_b {M : Mem} {b g k B : Nat} (h : Src g B M k) (hb : b ≤ g) (hB : B ≤ M.length) (hk : k ≤ 1048576) :
    Ctr Try.prog b 71 [.pointer (some ⟨g, 0, none⟩)] M fun r M' => ∃ (x : Int) (k' : Nat), r = iv x ∧ smB x ∧ k' ≤ k + 6 ∧ Src g B M' k' ∧ Grow g M M' := by
  have hg := h.lt
  first | (refine ctr_fn Try.func71 rfl Try.ntmps71 Try.results71 rfl rfl (by simp) ?_) | (refine ctr_fnC Try.func71 rfl Try.ntmps71 Try.results71 rfl (by simp) ?_)
  simp
  refine awCall_ctr (h.pick 8 hb (by omega) (by omega)) ?_
  rintro r M1 ⟨x, k1, rfl, x0, x1, hk1, h1, u1⟩
  have n1 := u1.1
  by_cases e0 : x = 0
  · subst e0
    simp [fill6]
    have hsl : Sl intR (M1 ++ [.live ⟨cellsL intR [-2147483648, 2147483647, -2147483647, 65536, -65536, 1073741824], true, true, 2, 1⟩]) (some ⟨M1.length, 0, none⟩) 6 [-2147483648, 2147483647, -2147483647, 65536, -65536, 1073741824] := Sl.new rfl
    refine awCall_ctr (among_s (c := 6) (h1.app _) hb (by omega) hsl (fun a e _ => by injection e with e; subst e; show M1.length ≠ g; omega) (by omega) (by omega)) ?_
    rintro r M2 ⟨z, k2, rfl, hz, hk2, h2, u2⟩
    simp
    refine ⟨?_, k2, by omega, h2, (u1.grow.trans (Grow.app _ _ _)).trans u2.grow⟩
    simp at hz
    unfold smB
    omega
  by_cases e1 : x = 1
  · subst e1
    simp
    refine awCall_ctr (nextS h1 hb (by omega)) ?_
    rintro r M2 ⟨y, rfl, y0, y1, h2, u2⟩
    try simp
    refine awLoop_T (fun m T M' => ∃ (j : Nat) (y : Int), j + m = 3 ∧ 0 ≤ y ∧ y < 256 ^ (j + 1) ∧ Src g B M' (k1 + 1 + j) ∧ Grow g M M' ∧ look T 4 = some (iv j) ∧ look T 3 = some (iv y) ∧ look T 0 = some (.pointer (some ⟨g, 0, none⟩))) 3 ⟨0, y, by omega, y0, by simp; omega, h2, u1.grow.trans u2.grow, by simp, by simp, by simp⟩ ?_
    rintro m T M3 ⟨j, z, hj, z0, z1, h3, g3, t4, t3, t0⟩
    by_cases hj3 : j < 3
    · have hz : z < 16777216 := by
        rcases j with _ | _ | _ | j
        · simp at z1; omega
        · simp at z1; omega
        · simp at z1; omega
        · omega
      have hj' : (j : Int) < 3 := by omega
      simp (disch := omega) [t4, t3, t0, hj', wrap_in]
      refine awCall_ctr (nextS h3 hb (by omega)) ?_
      rintro r M4 ⟨y', rfl, y0', y1', h4, u4⟩
      simp (disch := omega) [t4, t3, t0, hj', wrap_in]
      refine lpI (m - 1) (by omega) ?_
      refine ⟨j + 1, 256 * z + y', by omega, by omega, by rw [Int.pow_succ]; omega, h4, g3.trans u4.grow, by simp, by simp, by simp [t0]⟩
    · have hj' : ¬ (j : Int) < 3 := by omega
      simp (disch := omega) [t4, t3, t0, hj', wrap_in]
      refine awCall_det' (l01Wrap_t z) (by have := g3.1; have := h3.lt; omega) ?_
      simp
      exact ⟨smB_smp _, _, by omega, h3, g3⟩
  by_cases e2 : x = 2
  · subst e2
    simp
    exact ⟨⟨by omega, by omega⟩, k1, by omega, h1, u1.grow⟩
  simp [e0, e1, e2]
  refine awCall_ctr (h1.pick 41 hb (by omega) (by omega)) ?_
  rintro r M2 ⟨y, k2, rfl, y0, y1, hk2, h2, u2⟩
  simp (disch := omega) [wrap_in]
  exact ⟨⟨by omega, by omega⟩, k2, by omega, h2, u1.grow.trans u2.grow⟩
theorem l06DrawA_b {M : Mem} {b g k B : Nat} (z t : Int) (h : Src g B M k) (hb : b ≤ g) (hB : B ≤ M.length) (hk : k ≤ 1048576) (hz : 1 ≤ z ∧ z ≤ 17) (ht : z = 13 → 1 ≤ t ∧ t ≤ 4) :
    Ctr Try.prog b 118 [.pointer (some ⟨g, 0, none⟩), iv z, iv t] M fun r M' => ∃ (a : Int) (k' : Nat), r = iv a ∧ aB ⟨z, a, 0, []⟩ t = true ∧ (z = 1 → a ≤ 1) ∧ k' ≤ k + 6 ∧ Src g B M' k' ∧ Grow g M M' := by
  have hg := h.lt
  first | (refine ctr_fn Try.func118 rfl Try.ntmps118 Try.results118 rfl rfl (by simp) ?_) | (refine ctr_fnC Try.func118 rfl Try.ntmps118 Try.results118 rfl (by simp) ?_)
  simp
  by_cases e1 : z = 1
  · subst e1
    simp
    refine awCall_ctr (h.pick 2 hb (by omega) (by omega)) ?_
    rintro r M1 ⟨x, k1, rfl, x0, x1, hk1, h1, u1⟩
    simp
    exact ⟨by simp [aB, inB_iff]; omega, by omega, k1, by omega, h1, u1.grow⟩
  by_cases e6 : z = 6
  · subst e6
    simp
    refine awCall_ctr (h.pick 4 hb (by omega) (by omega)) ?_
    rintro r M1 ⟨x, k1, rfl, x0, x1, hk1, h1, u1⟩
    simp (disch := omega) [wrap_in]
    exact ⟨by simp [aB, inB_iff]; omega, k1, by omega, h1, u1.grow⟩
  by_cases e10 : z = 10
  · subst e10
    simp [fill5]
    refine awCall_ctr (among_new [1, 2, 0, 16, 31] rfl h hb (by omega) (by omega) (by omega) rfl hB) ?_
    rintro r M1 ⟨x, k1, rfl, hx, hk1, h1, u1⟩
    simp
    refine ⟨?_, k1, by omega, h1, u1⟩
    simp at hx
    simp [aB, inB_iff]; omega
  by_cases e11 : z = 11
  · subst e11
    simp [fill4]
    refine awCall_ctr (among_new [10, 0, 100, 2147483647] rfl h hb (by omega) (by omega) (by omega) rfl hB) ?_
    rintro r M1 ⟨x, k1, rfl, hx, hk1, h1, u1⟩
    simp
    refine ⟨?_, k1, by omega, h1, u1⟩
    simp at hx
    simp [aB, inB_iff]; omega
  by_cases e13 : z = 13
  · subst e13
    have ht' := ht rfl
    simp
    refine awCall_ctr (h.pick t hb (by omega) (by omega)) ?_
    rintro r M1 ⟨x, k1, rfl, x0, x1, hk1, h1, u1⟩
    simp
    exact ⟨by simp [aB, inB_iff]; omega, k1, by omega, h1, u1.grow⟩
  simp [e1, e6, e10, e11, e13]
  refine awCall_det' (l06HasA_s z) (by omega) ?_
  by_cases hA : z ∈ hasAL
  · simp [hA]
    refine awCall_ctr (l01Draw_b h hb hB hk) ?_
    rintro r M1 ⟨x, k1, rfl, hx, hk1, h1, u1⟩
    simp
    refine ⟨?_, fun e => absurd e e1, k1, by omega, h1, u1⟩
    unfold smB at hx
    simp [aB, e1, e6, e10, e11, e13, hA, sampleB, inB_iff]; omega
  · simp [hA]
    exact ⟨by simp [aB, e1, e6, e10, e11, e13, hA], k, by omega, h, .refl _ _⟩
end Go.Proofs.Ytimijeeihicohaa

namespace Go.Proofs.Ytimijeeihicohaa
open Go.RowKit
set_option linter.unusedVariables false
set_option linter.unusedSimpArgs false
set_option maxRecDepth 100000
attribute [local simp] List.getElem?_cons_zero
attribute [local irreducible] awCond awCall awLoop awDraw ow retQ retC resQ Keeps
structure RNode where
  (k a b : Int)
  u : Value
instance : Inhabited RNode := ⟨⟨0, 0, 0, .int .i64 0⟩⟩
def rnR : RecV RNode 4 := ⟨fun x => [iv x.k, iv x.a, iv x.b, x.u], fun _ => rfl⟩
/-- The value v is a slice that lies in row i. -/
def Adr (v : Value) (i : Nat) : Prop := ∃ (a : Addr) (n c : Nat), v = .slice (some a) n c ∧ a.block = i
theorem adr_apart {v : Value} {i j : Nat} (h : Adr v i) (hn : i ≠ j) : Apart v j := by
  obtain ⟨a, n, c, rfl, rfl⟩ := h
  intro A' n' c' a' e e'
  injection e with e1
  subst e1
  injection e' with e'
  subst e'
  exact Ne.symm hn
theorem not_adr {v : Value} {i : Nat} (h : ¬ Adr v i) : Apart v i := by
  intro A n c a e ea hi
  subst ea
  exact h ⟨a, n, c, e, hi.symm⟩
theorem apart_adr {v : Value} {i : Nat} (h : Apart v i) : ¬ Adr v i := fun ⟨a, n, c, e, e2⟩ => h _ _ _ a e rfl e2.symm
theorem Acc.adr_lt {α : Type} {q : Nat} {R : RecV α q} {e : TypeId} {B : Nat} {M : Mem} {v : Value} {l : List α} (h : Acc R e B M v l) {i : Nat} (ha : Adr v i) : B ≤ i ∧ i < M.length := by
  obtain ⟨A, n, c, rfl, _, h3⟩ := h
  obtain ⟨a, n', c', e, rfl⟩ := ha
  injection e with e1
  rcases h3 with ⟨h3, _⟩ | ⟨id, t, h4, h5, h6⟩
  · rw [h3] at e1; cases e1
  · rw [h4] at e1
    injection e1 with e1
    subst e1
    exact ⟨h5, (List.getElem?_eq_some_iff.1 h6).1⟩
/-- Rows from B on are as they were. -/
def Hi (B : Nat) (M M' : Mem) : Prop := ∀ (i : Nat) s, B ≤ i → M[i]? = some s → M'[i]? = some s
theorem Hi.refl (B : Nat) (M : Mem) : Hi B M M := fun _ _ _ h => h
theorem Hi.trans {B : Nat} {M M1 M2 : Mem} (h : Hi B M M1) (h' : Hi B M1 M2) : Hi B M M2 := fun i s hi hs => h' i s hi (h i s hi hs)
theorem Hi.app (B : Nat) (M L : Mem) : Hi B M (M ++ L) := fun i s _ hs => (keeps_app L).get hs
theorem Hi.set {B i : Nat} {M : Mem} {s : Slot} (h : i < B) : Hi B M (M.set i s) := fun j t hj ht => by rw [List.getElem?_set_ne (by omega)]; exact ht
theorem Grow.hi {g B : Nat} {M M' : Mem} (h : Grow g M M') (hg : g < B) : Hi B M M' := fun i s hi hs => h.2 i s (by omega) hs
theorem UpdS.hi {g B : Nat} {M M' : Mem} (h : UpdS g M M') (hg : g < B) : Hi B M M' := h.grow.hi hg
theorem Same.hi {B C : Nat} {M M' : Mem} (h : Same C M M') (hc : M.length ≤ C) : Hi B M M' := fun i s _ hs => h.2 i s (by have := (List.getElem?_eq_some_iff.1 hs).1; omega) hs
theorem Acc.hi {α : Type} {q : Nat} {R : RecV α q} {e : TypeId} {B C : Nat} {M M' : Mem} {v : Value} {l : List α} (h : Acc R e B M v l) (hh : Hi C M M') (hc : C ≤ B) : Acc R e B M' v l := by
  obtain ⟨A, n, c, h1, h2, h3⟩ := h
  refine ⟨A, n, c, h1, h2, ?_⟩
  rcases h3 with h3 | ⟨id, t, h4, h5, h6⟩
  · exact .inl h3
  · exact .inr ⟨id, t, h4, h5, hh _ _ (by omega) h6⟩
def DrN (B : Nat) (M : Mem) (v : Value) (ns : List Node) : Prop :=
  ∃ rs : List RNode, Acc rnR 138 B M v rs ∧ rs.length = ns.length ∧ ∀ i, i < ns.length → ((el rs i).k = (el ns i).k ∧ (el rs i).a = (el ns i).a ∧ (el rs i).b = (el ns i).b ∧ Acc intR 2 B M (el rs i).u (el ns i).from_) ∧
    ∀ id, Adr (el rs i).u id → Apart v id ∧ ∀ j, j < ns.length → j ≠ i → Apart (el rs j).u id
theorem DrN.nil {B : Nat} {M : Mem} : DrN B M (.slice none 0 0) [] := ⟨[], .nil, rfl, fun i hi => by simp at hi⟩
theorem DrN.hi {B : Nat} {M M' : Mem} {v : Value} {ns : List Node} (h : DrN B M v ns) (hh : Hi B M M') : DrN B M' v ns := by
  obtain ⟨rs, h1, h2, h3⟩ := h
  exact ⟨rs, h1.hi hh (Nat.le_refl _), h2, fun i hi => ⟨⟨(h3 i hi).1.1, (h3 i hi).1.2.1, (h3 i hi).1.2.2.1, (h3 i hi).1.2.2.2.hi hh (Nat.le_refl _)⟩, (h3 i hi).2⟩⟩
theorem DrN.one {B : Nat} {M : Mem} {v : Value} {ns : List Node} (h : DrN B M v ns) : ∃ A c, v = .slice A ns.length c := by
  obtain ⟨rs, ⟨A, n, c, rfl, h1, _⟩, h2, _⟩ := h
  exact ⟨A, c, by rw [← h1, h2]⟩
theorem Acc.slv' {α : Type} {k : Nat} [Inhabited α] {R : RecV α k} {e : TypeId} {B hi : Nat} {M : Mem} {v : Value} {l : List α} (h : Acc R e B M v l) (hn : l.length ≤ 9223372036854775807) (hh : M.length ≤ hi) : SlV (.flat R) B hi M v l := (h.slv hn).wide (Nat.le_refl _) hh
theorem DrN.slv {B : Nat} {M : Mem} {v : Value} {ns : List Node} (h : DrN B M v ns) (hn : ns.length ≤ 1099511627776) (hf : ∀ x, x ∈ ns → x.from_.length ≤ 1099511627776) : SlV nodeP B M.length M v ns := by
  obtain ⟨rs, h1, h2, h3⟩ := h
  obtain ⟨A, n, c, rfl, hl, hA⟩ := h1
  rcases hA with ⟨rfl, rfl, rfl⟩ | ⟨id, t, rfl, hid, hr⟩
  · refine ⟨none, 0, 0, rfl, by omega, fun _ => rfl, by omega, fun h => by omega⟩
  · have hsl : Sl rnR M (some ⟨id, 0, none⟩) n rs := ⟨hl, fun _ => ⟨id, 0, rfl, by simp [rowEsz, hr], fun j x hx => by simp [cellAt, hr, hx]⟩⟩
    refine ⟨_, n, c, rfl, by omega, (fun h => by cases h), by omega, fun hn0 => ⟨id, 0, rfl, hid, (List.getElem?_eq_some_iff.1 hr).1, by simp [rowEsz, hr], fun i hi => ?_⟩⟩
    obtain ⟨_, _, e, _, hc⟩ := hsl.at_ hi
    injection e with e
    injection e with e1 e2
    subst e1; subst e2
    obtain ⟨⟨a1, a2, a3, a4⟩, _⟩ := h3 i (by omega)
    refine ⟨_, ⟨(el rs i).u, by rw [← a1, ← a2, ← a3], a4.slv (by have := hf _ (el_mem (l := ns) (i := i) (by omega)); omega)⟩, ?_⟩
    exact hc
theorem DrN.snoc {P : Program} {t tx : TypeId} {B b by_ : Nat} {S : St} {M0 : Mem} {v x u : Value} {ns : List Node} {y : Node} {K : Value → Mem → Prop} (h : DrN B M0 v ns) (hh : Hi B M0 S.M) (hb : b ≤ B) (hB : B ≤ M0.length) (hl0 : M0.length ≤ S.M.length) (hq : qSlice P t = some (138, 4, by_))
    (hz : (P.info? 138).any (fun i => i.zero.any fun z => z.cells.size == 4) = true) (hs : srcOf P S.M 4 tx x = some (1, [iv y.k, iv y.a, iv y.b, u])) (hu : Acc intR 2 M0.length S.M u y.from_) (hn : (ns.length + 1) * by_ ≤ 140737488355328) (hm : ns.length + 1 ≤ maxLen)
    (hK : ∀ v' M', DrN B M' v' (ns ++ [y]) → Same B S.M M' → K v' M') : appendK P b S K t tx v x := by
  obtain ⟨rs, h1, h2, h3⟩ := h
  have ou : u.oneCell' = true := by obtain ⟨_, _, _, e, _⟩ := hu; rw [e]; rfl
  refine (h1.hi hh (Nat.le_refl _)).append2 (a := RNode.mk y.k y.a y.b u) hb (by omega) (by omega) hq hz hs (by simp [rnR, ou]; exact ⟨rfl, rfl, rfl⟩) (by rw [h2]; exact hn) (by rw [h2]; exact hm) fun v' M' hA hS hP => hK v' M' ?_ hS
  have up : ∀ {w : Value} {l : List Int}, Acc intR 2 B S.M w l → (∀ id, Adr w id → Apart v id) → Acc intR 2 B M' w l := fun {w l} hw ha => by
    obtain ⟨A, n, c, rfl, e2, e3⟩ := hw
    refine ⟨A, n, c, rfl, e2, e3.imp id fun ⟨i, t, ei, hi, hr⟩ => ⟨i, t, ei, hi, (hP i _ (ha i ?_) hr).1⟩⟩
    subst ei
    exact ⟨_, _, _, rfl, rfl⟩
  have lt : ∀ {w : Value} {l : List Int} {B : Nat}, Acc intR 2 B S.M w l → (∀ id, Adr w id → Apart v id) → ∀ id, Adr w id → Apart v' id := fun {w l B} hw ha i hi => by
    obtain ⟨_, hl⟩ := hw.adr_lt hi
    exact (hP i _ (ha i hi) (List.getElem?_eq_getElem hl)).2
  have hi0 : Hi B M0 S.M := hh
  have au : ∀ id, Adr u id → Apart v id := fun id hd => not_adr fun hv => by
    have := (hu.adr_lt hd).1
    have := (h1.adr_lt hv).2
    omega
  have ao : ∀ id, Adr u id → ∀ j, j < ns.length → Apart (el rs j).u id := fun id hd j hj => not_adr fun hv => by
    have := (hu.adr_lt hd).1
    have := ((h3 j hj).1.2.2.2.adr_lt hv).2
    omega
  refine ⟨rs ++ [⟨y.k, y.a, y.b, u⟩], hA, by simp [h2], fun i hi => ?_⟩
  have eL : ∀ j, j < ns.length → el (rs ++ [⟨y.k, y.a, y.b, u⟩]) j = el rs j := fun j hj => el_append_left (by omega)
  have eR : el (rs ++ [⟨y.k, y.a, y.b, u⟩]) ns.length = ⟨y.k, y.a, y.b, u⟩ := by rw [el_append_right (by omega), h2, Nat.sub_self]; rfl
  have nL : ∀ j, j < ns.length → el (ns ++ [y]) j = el ns j := fun j hj => el_append_left hj
  have nR : el (ns ++ [y]) ns.length = y := by rw [el_append_right (Nat.le_refl _), Nat.sub_self]; rfl
  simp only [List.length_append, List.length_singleton] at hi ⊢
  by_cases hin : i < ns.length
  · rw [eL i hin, nL i hin]
    obtain ⟨⟨a1, a2, a3, a4⟩, a5⟩ := h3 i hin
    have a4' := a4.hi hi0 (Nat.le_refl _)
    refine ⟨⟨a1, a2, a3, up a4' fun id hd => (a5 id hd).1⟩, fun id hd => ⟨lt a4' (fun id hd => (a5 id hd).1) id hd, fun j hj hne => ?_⟩⟩
    by_cases hj' : j < ns.length
    · rw [eL j hj']
      exact (a5 id hd).2 j hj' hne
    · obtain rfl : j = ns.length := by omega
      rw [eR]
      refine not_adr fun hd' => ?_
      exact apart_adr (ao id hd' i hin) hd
  · obtain rfl : i = ns.length := by omega
    rw [eR, nR]
    refine ⟨⟨rfl, rfl, rfl, up (hu.low hB) au⟩, fun id hd => ⟨lt hu au id hd, fun j hj hne => ?_⟩⟩
    rw [eL j (by omega)]
    exact ao id hd j (by omega)
/-- Node i is read, and its list of inputs may be written. -/
theorem DrN.at_ {B : Nat} {M : Mem} {v : Value} {ns : List Node} (h : DrN B M v ns) {i : Nat} (hi : i < ns.length) : ∃ (id c : Nat) (u : Value), v = .slice (some ⟨id, 0, none⟩) ns.length c ∧ rowEsz M id = some 4 ∧ B ≤ id ∧ Cl M id (i * 4) [iv (el ns i).k, iv (el ns i).a, iv (el ns i).b, u] ∧ Acc intR 2 B M u (el ns i).from_ ∧
    ∀ (j : Nat) (t : Bool) (l : List Int), Adr u j → l.length = (el ns i).from_.length → DrN B (M.set j (.live ⟨cellsL intR l, true, t, 2, 1⟩)) v (ns.set i ⟨(el ns i).k, (el ns i).a, (el ns i).b, l⟩) := by
  obtain ⟨rs, h1, h2, h3⟩ := h
  obtain ⟨⟨a1, a2, a3, a4⟩, a5⟩ := h3 i hi
  have h1' := h1
  obtain ⟨A, n, c, rfl, hl, hA⟩ := h1
  rcases hA with ⟨rfl, rfl, rfl⟩ | ⟨id, t, rfl, hid, hr⟩
  · omega
  have hsl : Sl rnR M (some ⟨id, 0, none⟩) n rs := ⟨hl, fun _ => ⟨id, 0, rfl, by simp [rowEsz, hr], fun j x hx => by simp [cellAt, hr, hx]⟩⟩
  obtain ⟨_, _, e, he, hc⟩ := hsl.at_ (i := i) (by omega)
  injection e with e
  injection e with e1 e2
  subst e1; subst e2
  rw [Nat.zero_add] at hc
  refine ⟨id, c, (el rs i).u, by rw [← h2, hl], he, hid, by rw [← a1, ← a2, ← a3]; exact hc, a4, fun j tt l hj hll => ?_⟩
  obtain ⟨hjB, hjM⟩ := a4.adr_lt hj
  obtain ⟨hjv, hjo⟩ := a5 j hj
  have hjid : j ≠ id := hjv _ _ _ _ rfl rfl
  have oth : ∀ (m : Nat) s, m ≠ j → M[m]? = some s → (M.set j (.live ⟨cellsL intR l, true, tt, 2, 1⟩))[m]? = some s := fun m s hm hs => by rw [List.getElem?_set_ne (Ne.symm hm)]; exact hs
  have nn : ∀ m, m < ns.length → el (ns.set i ⟨(el ns i).k, (el ns i).a, (el ns i).b, l⟩) m = if i = m then ⟨(el ns i).k, (el ns i).a, (el ns i).b, l⟩ else el ns m := fun m hm => by
    by_cases e : i = m
    · subst e; simp [el, hi]
    · simp [el, List.getElem?_set_ne e, e]
  refine ⟨rs, ⟨_, n, c, rfl, hl, .inr ⟨id, t, rfl, hid, oth _ _ (Ne.symm hjid) hr⟩⟩, by simpa using h2, fun m hm => ?_⟩
  simp only [List.length_set] at hm ⊢
  rw [nn m hm]
  by_cases e : i = m
  · subst e
    rw [if_pos rfl]
    refine ⟨⟨a1, a2, a3, ?_⟩, a5⟩
    obtain ⟨a, n', c', eu, ej⟩ := hj
    obtain ⟨A', n2, c2, e2, e3, e4⟩ := a4
    rw [eu] at e2
    injection e2 with e2 e2' e2''
    subst e2; subst e2'; subst e2''
    rcases e4 with ⟨e4, _⟩ | ⟨id', t', e4, e5, e6⟩
    · cases e4
    · injection e4 with e4
      subst e4
      subst ej
      exact ⟨_, _, _, eu, hll.trans e3, .inr ⟨id', tt, rfl, e5, by rw [List.getElem?_set_self hjM]⟩⟩
  · rw [if_neg e]
    obtain ⟨⟨b1, b2, b3, b4⟩, b5⟩ := h3 m hm
    refine ⟨⟨b1, b2, b3, ?_⟩, b5⟩
    obtain ⟨A', n2, c2, e2, e3, e4⟩ := b4
    refine ⟨A', n2, c2, e2, e3, Or.imp_right (fun ⟨q, t', q1, q2, q3⟩ => ⟨q, t', q1, q2, oth _ _ ?_ q3⟩) e4⟩
    subst q1
    exact fun hqj => (hjo m hm (Ne.symm e)) _ _ _ _ e2 rfl hqj.symm
end Go.Proofs.Ytimijeeihicohaa

namespace Go.Proofs.Ytimijeeihicohaa
open Go.RowKit
set_option linter.unusedVariables false
def upG (γ : Nat → Value) (k : Nat) (v : Value) : Nat → Value := fun j => if j = k then v else γ j
@[simp] theorem upG_same (γ : Nat → Value) (k : Nat) (v : Value) : upG γ k v k = v := if_pos rfl
theorem upG_ne {γ : Nat → Value} {j k : Nat} {v : Value} (h : j ≠ k) : upG γ k v j = γ j := if_neg h
/-- No temporary is set twice. -/
def dstOnce (ops : Array Oper) : Bool := (List.range ops.size).all fun k => (List.range ops.size).all fun j => decide (j = k) || (dstOf ops j).isNone || dstOf ops j != dstOf ops k
theorem dstOnce_spec {ops : Array Oper} (h : dstOnce ops = true) {j k : Nat} {t : Nat} (hj : dstOf ops j = some t) (hk : dstOf ops k = some t) : j = k := by
  have lt : ∀ i, dstOf ops i = some t → i < ops.size := by
    intro i hi
    unfold dstOf at hi
    obtain ⟨o, ho, -⟩ := Option.bind_eq_some_iff.1 hi
    exact (Array.getElem?_eq_some_iff.1 ho).1
  have h1 := List.all_eq_true.1 h k (List.mem_range.2 (lt k hk))
  have h2 := List.all_eq_true.1 h1 j (List.mem_range.2 (lt j hj))
  rw [hj, hk] at h2
  simpa using h2
/-- What the temporaries hold: what has been done gave its value, the others are as they were. -/
structure TS (ops : Array Oper) (T0 : List (Nat × Value)) (X : Nat → Bool) (γ : Nat → Value) (T : List (Nat × Value)) : Prop where
  done : ∀ j d, X j = true → dstOf ops j = some d → look T d = some (γ j)
  frame : ∀ t, (∀ j, X j = true → dstOf ops j ≠ some t) → look T t = look T0 t
def noDst (ops : Array Oper) (t : Nat) : Bool := (List.range ops.size).all fun j => decide (dstOf ops j ≠ some t)
theorem TS.frame' {ops : Array Oper} {T0 T : List (Nat × Value)} {X : Nat → Bool} {γ : Nat → Value} (h : TS ops T0 X γ T) (t : Nat) (hn : noDst ops t = true) : look T t = look T0 t :=
  h.frame t fun j _ hj => by
    have hl : j < ops.size := by
      unfold dstOf at hj
      obtain ⟨o, ho, -⟩ := Option.bind_eq_some_iff.1 hj
      exact (Array.getElem?_eq_some_iff.1 ho).1
    have := List.all_eq_true.1 hn j (List.mem_range.2 hl)
    exact (of_decide_eq_true this) hj
/-- What has been done is closed under what must come ahead. -/
def Closed (ops : List Oper) (X : Nat → Bool) : Prop := ∀ k o, X k = true → ops[k]? = some o → ∀ e ∈ o.after.toList, Region.binds .any e = true → X e.on = true
def edge (ops : List Oper) (k j : Nat) : Bool := match ops[k]? with
  | some o => o.after.toList.any fun e => Region.binds .any e && decide (e.on = j)
  | none => false
theorem Closed.at_ {ops : List Oper} {X : Nat → Bool} (h : Closed ops X) {k : Nat} (j : Nat) (hk : X k = true) (he : edge ops k j = true) : X j = true := by
  unfold edge at he
  split at he
  · rename_i o ho
    obtain ⟨e, h1, h2⟩ := List.any_eq_true.1 he
    simp only [Bool.and_eq_true, decide_eq_true_eq] at h2
    have := h k o hk ho e h1 h2.1
    rwa [h2.2] at this
  · cases he
theorem edge_ahead {ops : List Oper} {X : Nat → Bool} {k : Nat} {o : Oper} (ho : ops[k]? = some o) (ha : ∀ e ∈ o.after.toList, Region.binds .any e = true → X e.on = true) (j : Nat) (he : edge ops k j = true) : X j = true := by
  unfold edge at he
  rw [ho] at he
  obtain ⟨e, h1, h2⟩ := List.any_eq_true.1 he
  simp only [Bool.and_eq_true, decide_eq_true_eq] at h2
  have := ha e h1 h2.1
  rwa [h2.2] at this
theorem awDraw_G {P : Program} {b : Nat} {ops : List Oper} {Q : St → Prop} {S : St} (G : (Nat → Bool) → (Nat → Value) → Mem → Prop) (h1 : P.follows .mixedOrders = true) (h2 : drawBack ⟨ops⟩ = true) (h3 : dstOnce ⟨ops⟩ = true)
    (h0 : ∀ γ, G (fun _ => false) γ S.M)
    (hstep : ∀ X γ T M k o (K : Value → Mem → Prop), Closed ops X → TS ⟨ops⟩ S.T X γ T → G X γ M → ops[k]? = some o → X k = false → (∀ e ∈ o.after.toList, Region.binds .any e = true → X e.on = true) → (∀ v M', G (upX X k) (upG γ k v) M' → K v M') → sOp P false b o ⟨S.n, T, M⟩ K)
    (hend : ∀ X γ T M, (∀ k, k < ops.length → X k = true) → TS ⟨ops⟩ S.T X γ T → G X γ M → Q ⟨S.n, T, M⟩) : awDraw P b ⟨ops⟩ Q S := by
  refine awDraw_I (fun X S' => S'.n = S.n ∧ Closed ops X ∧ ∃ γ, TS ⟨ops⟩ S.T X γ S'.T ∧ G X γ S'.M) h1 h2 ⟨rfl, fun k o h => (by cases h), fun _ => undef, ⟨(fun j d h => by cases h), fun t _ => rfl⟩, h0 _⟩ ?_ ?_
  · rintro X ⟨n, T, M⟩ k o ⟨hn, hC, γ, hT, hG⟩ ho hX ha
    simp only at hn hT hG
    subst hn
    refine hstep X γ T M k o _ hC hT hG ho hX ha fun v M' hG' => ⟨by cases o.dst <;> rfl, fun i o' hi ho' e he hb => ?_, upG γ k v, ?_, by cases o.dst <;> exact hG'⟩
    · by_cases e1 : e.on = k
      · rw [e1]; simp
      · rw [upX_ne e1]
        by_cases e2 : i = k
        · subst e2
          rw [ho] at ho'
          injection ho' with ho'
          subst ho'
          exact ha e he hb
        · rw [upX_ne e2] at hi
          exact hC i o' hi ho' e he hb
    have hdk : dstOf ⟨ops⟩ k = o.dst := by simp [dstOf, ho]
    refine ⟨fun j d hj hd => ?_, fun t ht => ?_⟩
    · by_cases e : j = k
      · subst e
        rw [hdk] at hd
        rw [hd]
        simp [St.put, look]
      · rw [upX_ne e] at hj
        rw [upG_ne e]
        have := hT.done j d hj hd
        cases hod : o.dst with
        | none => exact this
        | some d' =>
          simp only [St.put, look]
          rw [if_neg (fun e' => e (dstOnce_spec h3 hd (by rw [hdk, hod, e'])))]
          exact this
    · have hf := hT.frame t fun j hj => ht j (by
        by_cases e : j = k
        · subst e; simp
        · rw [upX_ne e]; exact hj)
      cases hod : o.dst with
      | none => exact hf
      | some d' =>
        have := ht k (by simp)
        rw [hdk, hod] at this
        simp only [St.put, look]
        rw [if_neg (fun e' => this (by rw [e']))]
        exact hf
  · rintro X ⟨n, T, M⟩ hX ⟨hn, hC, γ, hT, hG⟩
    simp only at hn hT hG
    subst hn
    exact hend X γ T M hX hT hG
end Go.Proofs.Ytimijeeihicohaa

namespace Go.Proofs.Ytimijeeihicohaa
open Go.RowKit
set_option linter.unusedVariables false
set_option linter.unusedSimpArgs false
/-- kill j: the operations behind which nothing is said of j's value. -/
theorem awDraw_K {P : Program} {b : Nat} {ops : List Oper} {Q : St → Prop} {S : St} (kill : Nat → List Nat) (Φ : Nat → Value → Mem → Prop) (mono : ∀ k v M M', Φ k v M → Keeps M M' → Φ k v M')
    (h1 : P.follows .mixedOrders = true) (h2 : drawBack ⟨ops⟩ = true) (h3 : dstOnce ⟨ops⟩ = true)
    (hstep : ∀ (X : Nat → Bool) (k : Nat) (o : Oper) (T : List (Nat × Value)) (M : Mem) (K : Value → Mem → Prop), Closed ops X → X k = false → Keeps S.M M → (∀ j d, edge ops k j = true → dstOf ⟨ops⟩ j = some d → ∃ v, look T d = some v ∧ ((∀ z, z ∈ kill j → X z = false) → Φ j v M)) → (∀ t, noDst ⟨ops⟩ t = true → look T t = look S.T t) → ops[k]? = some o →
      (∀ v M', (Keeps M M' ∨ (Keeps S.M M' ∧ ∀ j u, X j = true → k ∉ kill j → Φ j u M → Φ j u M')) → Φ k v M' → K v M') → sOp P false b o ⟨S.n, T, M⟩ K)
    (hend : ∀ (T : List (Nat × Value)) (M : Mem), Keeps S.M M → (∀ k d, k < ops.length → dstOf ⟨ops⟩ k = some d → ∃ v, look T d = some v ∧ (kill k = [] → Φ k v M)) → (∀ t, noDst ⟨ops⟩ t = true → look T t = look S.T t) → Q ⟨S.n, T, M⟩) : awDraw P b ⟨ops⟩ Q S := by
  refine awDraw_G (fun X γ M => Keeps S.M M ∧ ∀ k, X k = true → (∀ z, z ∈ kill k → X z = false) → Φ k (γ k) M) h1 h2 h3 (fun γ => ⟨Keeps.refl _, fun k h => by cases h⟩) ?_ ?_
  · intro X γ T M k o K hC hT hG ho hX ha hK
    refine hstep X k o T M K hC hX hG.1 (fun j d he hd => ?_) (fun t ht => hT.frame' t ht) ho fun v M' hk hv => hK v M' ⟨?_, fun j hj hz => ?_⟩
    · have hj := edge_ahead ho ha j he
      exact ⟨γ j, hT.done j d hj hd, hG.2 j hj⟩
    · rcases hk with hk | hk
      · exact hG.1.trans hk
      · exact hk.1
    · by_cases e : j = k
      · subst e
        rw [show upG γ j v j = v by simp [upG]]
        exact hv
      · rw [upX_ne e] at hj
        rw [upG_ne e]
        have hkn : k ∉ kill j := fun h => by have := hz k h; rw [upX_same] at this; cases this
        have hz' : ∀ z, z ∈ kill j → X z = false := fun z h => by
          have := hz z h
          rw [upX_ne (fun e => hkn (by rw [← e]; exact h))] at this
          exact this
        rcases hk with hk | hk
        · exact mono _ _ _ _ (hG.2 j hj hz') hk
        · exact hk.2 j _ hj hkn (hG.2 j hj hz')
  · intro X γ T M hX hT hG
    refine hend T M hG.1 (fun k d hk hd => ⟨γ k, hT.done k d (hX k hk) hd, fun hn => hG.2 k (hX k hk) fun z hz => by rw [hn] at hz; cases hz⟩) fun t ht => hT.frame' t ht
end Go.Proofs.Ytimijeeihicohaa

namespace Go.Proofs.Ytimijeeihicohaa
open Go.RowKit
set_option linter.unusedVariables false
set_option linter.unusedSimpArgs false
theorem Keeps.grow {g : Nat} {M M' : Mem} (h : Keeps M M') : Grow g M M' := ⟨h.len, fun i s _ hs => h.get hs⟩
/-- Ψ X: what is known of the row that turns, when the operations X are done. -/
theorem awDraw_Kg {P : Program} {b : Nat} {ops : List Oper} {Q : St → Prop} {S : St} (g : Nat) (Ψ : (Nat → Bool) → Mem → Prop) (kill : Nat → List Nat) (Φ : Nat → Value → Mem → Prop) (mono : ∀ k v M M', Φ k v M → Keeps M M' → Φ k v M')
    (h1 : P.follows .mixedOrders = true) (h2 : drawBack ⟨ops⟩ = true) (h3 : dstOnce ⟨ops⟩ = true) (h0 : Ψ (fun _ => false) S.M)
    (hstep : ∀ (X : Nat → Bool) (k : Nat) (o : Oper) (T : List (Nat × Value)) (M : Mem) (K : Value → Mem → Prop), Closed ops X → X k = false → Grow g S.M M → Ψ X M → (∀ j d, edge ops k j = true → dstOf ⟨ops⟩ j = some d → ∃ v, look T d = some v ∧ ((∀ z, z ∈ kill j → X z = false) → Φ j v M)) → (∀ t, noDst ⟨ops⟩ t = true → look T t = look S.T t) → ops[k]? = some o →
      (∀ v M', (Keeps M M' ∨ (Grow g M M' ∧ ∀ j u, X j = true → k ∉ kill j → Φ j u M → Φ j u M')) → Φ k v M' → Ψ (upX X k) M' → K v M') → sOp P false b o ⟨S.n, T, M⟩ K)
    (hend : ∀ (X : Nat → Bool) (T : List (Nat × Value)) (M : Mem), (∀ k, k < ops.length → X k = true) → Grow g S.M M → Ψ X M → (∀ k d, k < ops.length → dstOf ⟨ops⟩ k = some d → ∃ v, look T d = some v ∧ (kill k = [] → Φ k v M)) → (∀ t, noDst ⟨ops⟩ t = true → look T t = look S.T t) → Q ⟨S.n, T, M⟩) : awDraw P b ⟨ops⟩ Q S := by
  refine awDraw_G (fun X γ M => Grow g S.M M ∧ Ψ X M ∧ ∀ k, X k = true → (∀ z, z ∈ kill k → X z = false) → Φ k (γ k) M) h1 h2 h3 (fun γ => ⟨.refl _ _, h0, fun k h => by cases h⟩) ?_ ?_
  · intro X γ T M k o K hC hT hG ho hX ha hK
    refine hstep X k o T M K hC hX hG.1 hG.2.1 (fun j d he hd => ?_) (fun t ht => hT.frame' t ht) ho fun v M' hk hv hψ => hK v M' ⟨?_, hψ, fun j hj hz => ?_⟩
    · have hj := edge_ahead ho ha j he
      exact ⟨γ j, hT.done j d hj hd, hG.2.2 j hj⟩
    · rcases hk with hk | hk
      · exact hG.1.trans hk.grow
      · exact hG.1.trans hk.1
    · by_cases e : j = k
      · subst e
        rw [show upG γ j v j = v by simp [upG]]
        exact hv
      · rw [upX_ne e] at hj
        rw [upG_ne e]
        have hkn : k ∉ kill j := fun h => by have := hz k h; rw [upX_same] at this; cases this
        have hz' : ∀ z, z ∈ kill j → X z = false := fun z h => by
          have := hz z h
          rw [upX_ne (fun e => hkn (by rw [← e]; exact h))] at this
          exact this
        rcases hk with hk | hk
        · exact mono _ _ _ _ (hG.2.2 j hj hz') hk
        · exact hk.2 j _ hj hkn (hG.2.2 j hj hz')
  · intro X γ T M hX hT hG
    refine hend X T M hX hG.1 hG.2.1 (fun k d hk hd => ⟨γ k, hT.done k d (hX k hk) hd, fun hn => hG.2.2 k (hX k hk) fun z hz => by rw [hn] at hz; cases hz⟩) fun t ht => hT.frame' t ht
end Go.Proofs.Ytimijeeihicohaa

namespace Go.Proofs.Ytimijeeihicohaa
open Go.RowKit
set_option linter.unusedVariables false
set_option linter.unusedSimpArgs false
/-- m waits for k, through others too. -/
def reachE (ops : List Oper) : Nat → Nat → Nat → Bool
  | 0, m, k => edge ops m k
  | n + 1, m, k => edge ops m k || (List.range ops.length).any fun j => edge ops m j && reachE ops n j k
theorem reachE_at {ops : List Oper} {X : Nat → Bool} (hC : Closed ops X) : ∀ {n m k : Nat}, reachE ops n m k = true → X m = true → X k = true
  | 0, m, k, h, hm => hC.at_ k hm h
  | n + 1, m, k, h, hm => by
    simp only [reachE, Bool.or_eq_true, List.any_eq_true, Bool.and_eq_true] at h
    rcases h with h | ⟨j, _, h1, h2⟩
    · exact hC.at_ k hm h
    · exact reachE_at hC h2 (hC.at_ j hm h1)
def chainOk (ops : List Oper) (ms : List Nat) : Bool := decide ms.Nodup && ms.all (fun m => decide (m < ops.length)) && (List.range ms.length).all fun i => match ms[i + 1]?, ms[i]? with
  | some a, some b => reachE ops 4 a b
  | _, _ => true
/-- What is known of an operation that is waited for. -/
def Dep (ms : List Nat) (Φ : Nat → Value → Prop) (vs : List Value) (j : Nat) (v : Value) : Prop := (ms.contains j = false → Φ j v) ∧ ∀ i : Nat, ms[i]? = some j → vs[i]? = some v
theorem chain_at {ops : List Oper} {ms : List Nat} (h : chainOk ops ms = true) {i a b : Nat} (ha : ms[i + 1]? = some a) (hb : ms[i]? = some b) : reachE ops 4 a b = true := by
  unfold chainOk at h
  simp only [Bool.and_eq_true, List.all_eq_true] at h
  have := h.2 i (List.mem_range.2 (List.getElem?_eq_some_iff.1 hb).1)
  rw [ha, hb] at this
  exact this
theorem chain_inj {ops : List Oper} {ms : List Nat} (h : chainOk ops ms = true) {i j a : Nat} (hi : ms[i]? = some a) (hj : ms[j]? = some a) : i = j := by
  unfold chainOk at h
  simp only [Bool.and_eq_true, decide_eq_true_eq] at h
  have hn := h.1.1
  obtain ⟨h1, e1⟩ := List.getElem?_eq_some_iff.1 hi
  obtain ⟨h2, e2⟩ := List.getElem?_eq_some_iff.1 hj
  exact (List.getElem_inj hn).1 (e1.trans e2.symm)
theorem chain_lt {ops : List Oper} {ms : List Nat} (h : chainOk ops ms = true) {i a : Nat} (hi : ms[i]? = some a) : a < ops.length := by
  unfold chainOk at h
  simp only [Bool.and_eq_true, List.all_eq_true] at h
  have := h.1.2 a (List.mem_of_getElem? hi)
  simpa using this
theorem not_ms {ms : List Nat} {k : Nat} (h : ms.contains k = false) {i a : Nat} (hi : ms[i]? = some a) : a ≠ k := by
  intro e
  subst e
  have := List.mem_of_getElem? hi
  simp [this] at h
theorem awDraw_C {P : Program} {b : Nat} {ops : List Oper} {Q : St → Prop} {S : St} (ms : List Nat) (Φ : Nat → Value → Prop) (Ψ : List Value → Mem → Prop)
    (h1 : P.follows .mixedOrders = true) (h2 : drawBack ⟨ops⟩ = true) (h3 : dstOnce ⟨ops⟩ = true) (hms : chainOk ops ms = true) (h0 : Ψ [] S.M)
    (hread : ∀ (k : Nat) (o : Oper) (T : List (Nat × Value)) (M : Mem) (vs : List Value) (K : Value → Mem → Prop), ms.contains k = false → ops[k]? = some o → Ψ vs M → (∀ i m, ms[i]? = some m → reachE ops 3 m k = true → vs.length ≤ i) →
      (∀ j d, edge ops k j = true → dstOf ⟨ops⟩ j = some d → ∃ v, look T d = some v ∧ Dep ms Φ vs j v) → (∀ t, noDst ⟨ops⟩ t = true → look T t = look S.T t) → (∀ v, Φ k v → K v M) → sOp P false b o ⟨S.n, T, M⟩ K)
    (hmove : ∀ (i k : Nat) (o : Oper) (T : List (Nat × Value)) (M : Mem) (vs : List Value) (K : Value → Mem → Prop), ms[i]? = some k → ops[k]? = some o → Ψ vs M → vs.length = i →
      (∀ j d, edge ops k j = true → dstOf ⟨ops⟩ j = some d → ∃ v, look T d = some v ∧ Dep ms Φ vs j v) → (∀ t, noDst ⟨ops⟩ t = true → look T t = look S.T t) → (∀ v M', Ψ (vs ++ [v]) M' → K v M') → sOp P false b o ⟨S.n, T, M⟩ K)
    (hend : ∀ (T : List (Nat × Value)) (M : Mem) (vs : List Value), vs.length = ms.length → Ψ vs M → (∀ j d, j < ops.length → dstOf ⟨ops⟩ j = some d → ∃ v, look T d = some v ∧ Dep ms Φ vs j v) → (∀ t, noDst ⟨ops⟩ t = true → look T t = look S.T t) → Q ⟨S.n, T, M⟩) : awDraw P b ⟨ops⟩ Q S := by
  have dep : ∀ {X : Nat → Bool} {γ : Nat → Value} {s j : Nat}, (∀ k, X k = true → ms.contains k = false → Φ k (γ k)) → (∀ i m, ms[i]? = some m → X m = decide (i < s)) → X j = true → Dep ms Φ ((ms.take s).map γ) j (γ j) := by
    intro X γ s j hΦ hs hj
    refine ⟨fun hm => hΦ j hj hm, fun i hi => ?_⟩
    have := hs i j hi
    rw [hj] at this
    have hlt : i < s := by simpa using this.symm
    rw [List.getElem?_map, List.getElem?_take, if_pos hlt, hi]; rfl
  have len : ∀ {γ : Nat → Value} {s : Nat}, s ≤ ms.length → ((ms.take s).map γ).length = s := fun {γ s} h => by simp; omega
  refine awDraw_G (fun X γ M => (∀ k, X k = true → ms.contains k = false → Φ k (γ k)) ∧ ∃ s, s ≤ ms.length ∧ (∀ i m, ms[i]? = some m → X m = decide (i < s)) ∧ Ψ ((ms.take s).map γ) M) h1 h2 h3 (fun γ => ⟨fun k h => (by cases h), 0, Nat.zero_le _, fun i m _ => by simp, h0⟩) ?_ ?_
  · rintro X γ T M k o K hC hT ⟨hΦ, s, hs1, hs2, hΨ⟩ ho hX ha hK
    have hdep : ∀ j d, edge ops k j = true → dstOf ⟨ops⟩ j = some d → ∃ v, look T d = some v ∧ Dep ms Φ ((ms.take s).map γ) j v := fun j d he hd => by
      have hj := edge_ahead ho ha j he
      exact ⟨γ j, hT.done j d hj hd, dep hΦ hs2 hj⟩
    by_cases hk : ms.contains k = false
    · refine hread k o T M _ K hk ho hΨ (fun i m hi he => ?_) hdep (fun t ht => hT.frame' t ht) fun v hv => hK v M ⟨fun j hj hm => ?_, s, hs1, fun i m hi => ?_, ?_⟩
      · rw [len hs1]
        apply Classical.byContradiction
        intro hn
        have hXm : X m = true := by rw [hs2 i m hi]; simp; omega
        have := reachE_at hC he hXm
        rw [hX] at this
        cases this
      · by_cases e : j = k
        · subst e
          rw [show upG γ j v j = v by simp [upG]]
          exact hv
        · rw [upX_ne e] at hj
          rw [upG_ne e]
          exact hΦ j hj hm
      · rw [upX_ne (not_ms hk hi)]
        exact hs2 i m hi
      · rw [List.map_congr_left (g := γ) fun a ha => ?_]
        · exact hΨ
        · obtain ⟨i, hi⟩ := List.mem_iff_getElem?.1 (List.mem_of_mem_take ha)
          exact upG_ne (not_ms hk hi)
    · have hk' : k ∈ ms := by simpa using hk
      obtain ⟨i, hi⟩ := List.mem_iff_getElem?.1 hk'
      have hil := (List.getElem?_eq_some_iff.1 hi).1
      have his : s = i := by
        have h5 := hs2 i k hi
        rw [hX] at h5
        have h6 : ¬ i < s := by simpa using h5.symm
        rcases i with _ | i
        · omega
        · have hb : ms[i]? = some (ms[i]'(by omega)) := List.getElem?_eq_getElem _
          have he := chain_at hms hi hb
          have hj : X (ms[i]'(by omega)) = true := by
            rw [show (4 : Nat) = 3 + 1 from rfl] at he
            simp only [reachE, Bool.or_eq_true, List.any_eq_true, Bool.and_eq_true] at he
            rcases he with he | ⟨j, _, h1, h2⟩
            · exact edge_ahead ho ha _ he
            · exact reachE_at hC (n := 3) (by simp only [reachE, Bool.or_eq_true, List.any_eq_true, Bool.and_eq_true]; exact h2) (edge_ahead ho ha _ h1)
          rw [hs2 i _ hb] at hj
          simp at hj
          omega
      subst his
      refine hmove s k o T M _ K hi ho hΨ (len hs1) hdep (fun t ht => hT.frame' t ht) fun v M' hv => hK v M' ⟨fun j hj hm => ?_, s + 1, hil, fun j m hj => ?_, ?_⟩
      · have e : j ≠ k := fun e => by subst e; rw [hm] at hk; exact hk rfl
        rw [upX_ne e] at hj
        rw [upG_ne e]
        exact hΦ j hj hm
      · by_cases e : m = k
        · subst e
          obtain rfl := chain_inj hms hj hi
          rw [upX_same]
          simp
        · rw [upX_ne e, hs2 j m hj]
          have hne : j ≠ s := fun h => by subst h; rw [hi] at hj; injection hj with hj; exact e hj.symm
          by_cases hlt : j < s
          · simp [hlt, Nat.lt_succ_of_lt hlt]
          · have : ¬ j < s + 1 := by omega
            simp [hlt, this]
      · have e1 : ms.take (s + 1) = ms.take s ++ [k] := by
          rw [List.take_add_one, hi]
          rfl
        rw [e1, List.map_append, List.map_singleton, show upG γ k v k = v by simp [upG], List.map_congr_left (g := γ) fun a ha => ?_]
        · exact hv
        · refine upG_ne fun e => ?_
          subst e
          obtain ⟨j, hj⟩ := List.mem_iff_getElem?.1 ha
          rw [List.getElem?_take] at hj
          split at hj
          · have := chain_inj hms hj hi
            omega
          · cases hj
  · rintro X γ T M hX hT ⟨hΦ, s, hs1, hs2, hΨ⟩
    have hs : s = ms.length := by
      apply Classical.byContradiction
      intro hn
      have hlt : s < ms.length := by omega
      have hb : ms[s]? = some (ms[s]'hlt) := List.getElem?_eq_getElem _
      have := hs2 s _ hb
      rw [hX _ (chain_lt hms hb)] at this
      simp at this
    subst hs
    exact hend T M _ (len hs1) hΨ (fun j d hj hd => ⟨γ j, hT.done j d (hX j hj) hd, dep hΦ hs2 (hX j hj)⟩) fun t ht => hT.frame' t ht
end Go.Proofs.Ytimijeeihicohaa
